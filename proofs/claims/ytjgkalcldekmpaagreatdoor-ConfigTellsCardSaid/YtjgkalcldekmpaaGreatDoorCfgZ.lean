/-
  Configurations, plain: a configuration's text, parsed, is that configuration.
-/
import Derived.Test.YtjgkalcldekmpaaGreatDoorCfgX
import Derived.Test.YtjgkalcldekmpaaGreatDoorCfgW
namespace Go.Proofs.YtjgkalcldekmpaaGreatDoor
open Go.RowKit Go Go.Shelf
set_option maxRecDepth 100000

theorem seeds_len {s : List Int} (h : riseM s = true) : s.length ≤ 12 := by
  unfold riseM at h
  simp only [Bool.and_eq_true, decide_eq_true_eq] at h
  obtain ⟨⟨⟨h0, h1⟩, h2⟩, h3⟩ := h
  have e1 := (Lib.downOK_iff _ _ _).1 h1
  have e2 : ∀ j, j < s.length → Lib.keeps s.toArray j = true := by
    unfold distB at h2
    have h2 := of_decide_eq_true h2
    unfold Lib.compact Lib.compactUpTo at h2
    rw [List.length_map] at h2
    have h4 : ((List.range s.length).filter (Lib.keeps s.toArray)).length = (List.range s.length).length := by rw [List.length_range]; exact h2
    exact fun j hj => List.length_filter_eq_length_iff.1 h4 j (List.mem_range.2 hj)
  have g : ∀ i (hi : i < s.length), s.toArray[i]! = s[i] := fun i hi => by
    rw [getElem!_pos s.toArray i (by simpa using hi)]; simp
  have up : ∀ i (hi : i < s.length), (i : Int) + 1 ≤ s[i] := by
    intro i
    induction i with
    | zero =>
      intro hi
      have := inB_of h3 (List.getElem_mem hi)
      omega
    | succ i ih =>
      intro hi
      have q1 := ih (by omega)
      have q2 := e1 i (by omega)
      have q3 := e2 (i + 1) hi
      unfold Lib.keeps at q3
      rw [g _ hi, g _ (by omega)] at q2
      simp only [Nat.add_sub_cancel] at q3
      rw [g _ hi, g _ (by omega)] at q3
      simp at q2 q3
      omega
  have q := up (s.length - 1) (by omega)
  have := inB_of h3 (List.getElem_mem (show s.length - 1 < s.length by omega))
  omega
theorem dig_fin : ∀ d : Fin 10, digB (UInt8.ofNat (48 + d.1)) = true ∧ (UInt8.ofNat (48 + d.1)).toNat - 48 = d.1 ∧ (0 < d.1 → UInt8.ofNat (48 + d.1) ≠ 48) := by decide
theorem dig_ok {d : Nat} (h : d < 10) : digB (UInt8.ofNat (48 + d)) = true ∧ (UInt8.ofNat (48 + d)).toNat - 48 = d ∧ (0 < d → UInt8.ofNat (48 + d) ≠ 48) := dig_fin ⟨d, h⟩
theorem decV_snoc (a : Nat) (l : Bs) (x : UInt8) : decV a (l ++ [x]) = decV a l * 10 + (x.toNat - 48) := by unfold decV; rw [List.foldl_append]; rfl
theorem dd_facts (n : Nat) : (Lib.decDigits n).all digB = true ∧ decV 0 (Lib.decDigits n) = n ∧ Lib.decDigits n ≠ [] ∧ (0 < n → (Lib.decDigits n).head? ≠ some 48) := by
  induction n using Nat.strongRecOn with
  | _ n ih =>
    by_cases h : n < 10
    · obtain ⟨h1, h2, h3⟩ := dig_ok h
      rw [Lib.decDigits_one h]
      refine ⟨by rw [List.all_cons, h1]; rfl, ?_, by simp, fun h0 => ?_⟩
      · show 0 * 10 + _ = _
        omega
      · simpa using h3 h0
    · have e : Lib.decDigits n = Lib.decDigits (n / 10) ++ [UInt8.ofNat (48 + n % 10)] := by rw [Lib.decDigits, dif_neg h]
      obtain ⟨h1, h2, h3, h4⟩ := ih (n / 10) (by omega)
      obtain ⟨g1, g2, _⟩ := dig_ok (d := n % 10) (by omega)
      rw [e]
      refine ⟨by rw [List.all_append, h1, List.all_cons, g1]; rfl, ?_, by simp, fun _ => ?_⟩
      · rw [decV_snoc, h2, g2]; omega
      · obtain ⟨a, r, e2⟩ := List.exists_cons_of_ne_nil h3
        rw [e2] at h4 ⊢
        exact h4 (by omega)
theorem numM_itoa {n : Int} (h0 : 0 < n) (h1 : n ≤ 1099511627776) : numM (Lib.itoa n) = some n ∧ (Lib.itoa n).all digB = true ∧ Lib.itoa n ≠ [] := by
  unfold Lib.itoa
  rw [if_neg (by omega)]
  obtain ⟨q1, q2, q3, q4⟩ := dd_facts n.toNat
  refine ⟨?_, q1, q3⟩
  unfold numM
  rw [if_neg (by rintro (h | ⟨h, _⟩ | h); exact q3 h; exact q4 (by omega) h; rw [q1] at h; cases h), q2, if_pos (by omega)]
  congr 1
  omega
/-- what a value may look like -/
def vis (v : Bs) : Prop := (∀ x ∈ v, x ≠ 10 ∧ x ≠ 35) ∧ (∃ a r, v = a :: r ∧ blB a = false) ∧ ∃ a r, v = r ++ [a] ∧ blB a = false
theorem digB_of {x : UInt8} (h : digB x = true) : x ≠ 10 ∧ x ≠ 35 ∧ x ≠ 44 ∧ blB x = false := by
  have h2 : 48 ≤ x.toNat ∧ x.toNat ≤ 57 := by simpa [digB] using h
  have ne : ∀ y : UInt8, y.toNat < 48 → x ≠ y := fun y hy e => by subst e; omega
  refine ⟨ne _ (by decide), ne _ (by decide), ne _ (by decide), ?_⟩
  unfold blB
  simp [ne 32 (by decide), ne 9 (by decide)]
theorem vis_digs {v : Bs} (h : v.all digB = true) (h0 : v ≠ []) : vis v := by
  rw [List.all_eq_true] at h
  refine ⟨fun x hx => ⟨(digB_of (h x hx)).1, (digB_of (h x hx)).2.1⟩, ?_, ?_⟩
  · cases v with
    | nil => exact absurd rfl h0
    | cons a r => exact ⟨a, r, rfl, (digB_of (h a List.mem_cons_self)).2.2.2⟩
  · exact ⟨v.getLast h0, v.dropLast, (List.dropLast_concat_getLast h0).symm, (digB_of (h _ (List.getLast_mem h0))).2.2.2⟩
theorem vis_join : ∀ (r : List Bs) (x : Bs), vis x → (∀ y ∈ r, vis y) → vis (x ++ Lib.joinTail [44, 32] r)
  | [], x, hx, _ => by simpa [Lib.joinTail] using hx
  | y :: r, x, hx, hr => by
    obtain ⟨h1, _, h3⟩ := vis_join r y (hr y List.mem_cons_self) (fun z hz => hr z (List.mem_cons_of_mem _ hz))
    have e : x ++ Lib.joinTail [44, 32] (y :: r) = (x ++ [44, 32]) ++ (y ++ Lib.joinTail [44, 32] r) := by simp [Lib.joinTail]
    rw [e]
    refine ⟨fun z hz => ?_, ?_, ?_⟩
    · rcases List.mem_append.1 hz with h | h
      · rcases List.mem_append.1 h with h | h
        · exact hx.1 z h
        · simp only [List.mem_cons, List.not_mem_nil, or_false] at h
          rcases h with rfl | rfl <;> decide
      · exact h1 z h
    · obtain ⟨a, q, e2, ha⟩ := hx.2.1
      exact ⟨a, _, by rw [e2]; rfl, ha⟩
    · obtain ⟨a, q, e2, ha⟩ := h3
      exact ⟨a, x ++ [44, 32] ++ q, by rw [e2]; simp, ha⟩
theorem trim_id {l : Bs} (h1 : ∃ a r, l = a :: r ∧ blB a = false) (h2 : ∃ a r, l = r ++ [a] ∧ blB a = false) : trimM l = l := by
  obtain ⟨b, r, e, hb⟩ := h2
  have e2 : (l.reverse.dropWhile blB).reverse = l := by
    rw [e, List.reverse_append, List.reverse_singleton, List.singleton_append, List.dropWhile_cons_of_neg (by rw [hb]; decide), List.reverse_cons, List.reverse_reverse]
  rw [trimM_def, e2]
  obtain ⟨a, q, e3, ha⟩ := h1
  rw [e3, List.dropWhile_cons_of_neg (by rw [ha]; decide)]
theorem vis.trim {v : Bs} (h : vis v) : trimM v = v := trim_id h.2.1 h.2.2
theorem spl_seeds : ∀ (r : List Bs) (p : Bs), p.contains 44 = false → (∀ y ∈ r, y.contains 44 = false) → spl 44 (p ++ Lib.joinTail [44, 32] r) = p :: r.map (32 :: ·)
  | [], p, hp, _ => by
    rw [show p ++ Lib.joinTail [44, 32] [] = p by simp [Lib.joinTail], spl_none hp]; rfl
  | y :: r, p, hp, hr => by
    have e : p ++ Lib.joinTail [44, 32] (y :: r) = p ++ 44 :: ((32 :: y) ++ Lib.joinTail [44, 32] r) := by simp [Lib.joinTail]
    rw [e, spl_hit _ _ hp, spl_seeds r (32 :: y) (by rw [List.contains_cons, hr y List.mem_cons_self]; rfl) (fun z hz => hr z (List.mem_cons_of_mem _ hz))]
    rfl
theorem mapM_some {α β : Type} {f : β → Option α} {g : α → β} : ∀ (l : List α), (∀ n ∈ l, f (g n) = some n) → (l.map g).mapM f = some l
  | [], _ => rfl
  | x :: l, h => by
    rw [List.map_cons, List.mapM_cons, h x List.mem_cons_self, mapM_some l (fun n hn => h n (List.mem_cons_of_mem _ hn))]; rfl
theorem seeds_back {s : List Int} (h0 : s ≠ []) (h : ∀ n ∈ s, 1 ≤ n ∧ n ≤ 12) : vis (Lib.join (s.map Lib.itoa) [44, 32]) ∧ seedsM (Lib.join (s.map Lib.itoa) [44, 32]) = some s := by
  have f : ∀ n ∈ s, numM (Lib.itoa n) = some n ∧ vis (Lib.itoa n) ∧ (Lib.itoa n).contains 44 = false := fun n hn => by
    have := h n hn
    obtain ⟨q1, q2, q3⟩ := numM_itoa (n := n) (by omega) (by omega)
    exact ⟨q1, vis_digs q2 q3, contains_false.2 fun x hx => (digB_of (List.all_eq_true.1 q2 x hx)).2.2.1⟩
  cases s with
  | nil => exact absurd rfl h0
  | cons n r =>
    rw [List.map_cons, Lib.join_cons]
    have hr : ∀ y ∈ r.map Lib.itoa, vis y ∧ y.contains 44 = false := fun y hy => by
      obtain ⟨m, hm, rfl⟩ := List.mem_map.1 hy
      exact (f m (List.mem_cons_of_mem _ hm)).2
    obtain ⟨f1, f2, f3⟩ := f n List.mem_cons_self
    refine ⟨vis_join _ _ f2 (fun y hy => (hr y hy).1), ?_⟩
    unfold seedsM
    rw [spl_seeds _ _ f3 (fun y hy => (hr y hy).2), List.mapM_cons, f2.trim, f1, List.map_map]
    have e := mapM_some (f := fun x => numM (trimM x)) (g := (fun x => 32 :: x) ∘ Lib.itoa) r (fun m hm => by
      obtain ⟨g1, g2, _⟩ := f m (List.mem_cons_of_mem _ hm)
      show numM (trimM (32 :: Lib.itoa m)) = some m
      rw [show (32 :: Lib.itoa m : Bs) = [32] ++ Lib.itoa m from rfl, trim_left _ _ (by decide), g2.trim, g1])
    rw [e]; rfl
theorem tw_all {p : UInt8 → Bool} : ∀ (l : Bs), (∀ x ∈ l, p x = true) → l.takeWhile p = l
  | [], _ => rfl
  | x :: l, h => by rw [List.takeWhile_cons_of_pos (h x List.mem_cons_self), tw_all l (fun y hy => h y (List.mem_cons_of_mem _ hy))]
theorem dw_hit {d : UInt8} : ∀ (a b : Bs), (∀ x ∈ a, x ≠ d) → (a ++ d :: b).dropWhile (· != d) = d :: b
  | [], b, _ => by rw [List.nil_append, List.dropWhile_cons_of_neg (by simp)]
  | x :: a, b, h => by
    rw [List.cons_append, List.dropWhile_cons_of_pos (p := (· != d)) (by simpa using h x List.mem_cons_self), dw_hit a b (fun y hy => h y (List.mem_cons_of_mem _ hy))]
theorem KN_facts : (List.range 17).all (fun i => (KN.getD i []).all (fun x => x != 35 && x != 61 && x != 10) && decide (trimM (KN.getD i []) = KN.getD i []) && decide (keyN (KN.getD i []) = i) && (match KN.getD i [] with | [] => false | a :: _ => !blB a)) = true := by kernel_rfl
theorem KN_at {i : Nat} (hi : i < 17) : (∀ x ∈ KN.getD i [], x ≠ 35 ∧ x ≠ 61 ∧ x ≠ 10) ∧ trimM (KN.getD i []) = KN.getD i [] ∧ keyN (KN.getD i []) = i ∧ ∃ a r, KN.getD i [] = a :: r ∧ blB a = false := by
  have h := List.all_eq_true.1 KN_facts i (List.mem_range.2 hi)
  simp only [Bool.and_eq_true, decide_eq_true_eq] at h
  obtain ⟨⟨⟨h1, h2⟩, h3⟩, h4⟩ := h
  refine ⟨fun x hx => ?_, h2, h3, ?_⟩
  · have := List.all_eq_true.1 h1 x hx
    simp only [Bool.and_eq_true, bne_iff_ne, ne_eq] at this
    exact ⟨this.1.1, this.1.2, this.2⟩
  · generalize KN.getD i [] = l at h4
    cases l with
    | nil => cases h4
    | cons a r => exact ⟨a, r, rfl, by simpa using h4⟩
theorem core_row {st : PSt} {i : Nat} (hi : i < 17) {v : Bs} (hv : vis v) {c' : Cfg} (hs : setM i st.1 v = some c') (hn : i ∉ st.2) : core st (lineM (KN.getD i [] ++ 32 :: 61 :: 32 :: v)) = .ok (c', i :: st.2) := by
  obtain ⟨h1, h2, h3, a, r, h4, h5⟩ := KN_at hi
  generalize KN.getD i [] = nm at h1 h2 h3 h4
  have e1 : lineM (nm ++ 32 :: 61 :: 32 :: v) = nm ++ 32 :: 61 :: 32 :: v := by
    show trimM (List.takeWhile (· != 35) _) = _
    rw [tw_all _ (fun x hx => ?_)]
    · refine trim_id ⟨a, r ++ 32 :: 61 :: 32 :: v, by rw [h4]; rfl, h5⟩ ?_
      obtain ⟨b, q, e, hb⟩ := hv.2.2
      exact ⟨b, nm ++ 32 :: 61 :: 32 :: q, by rw [e]; simp, hb⟩
    · rcases List.mem_append.1 hx with h | h
      · simpa using (h1 x h).1
      · simp only [List.mem_cons] at h
        rcases h with rfl | rfl | rfl | h
        · decide
        · decide
        · decide
        · simpa using (hv.1 x h).2
  have e2 : cutM 61 (nm ++ 32 :: 61 :: 32 :: v) = (nm ++ [32], 32 :: v, true) := by
    have e : nm ++ 32 :: 61 :: 32 :: v = (nm ++ [32]) ++ 61 :: (32 :: v) := by simp
    have hno : ∀ x ∈ nm ++ [32], x ≠ 61 := fun x hx => by
      rcases List.mem_append.1 hx with h | h
      · exact (h1 x h).2.1
      · rw [List.mem_singleton.1 h]; decide
    unfold cutM
    rw [e, take_app, dw_hit _ _ hno, tw_all _ (fun x hx => by simpa using hno x hx)]
    simp
  have e3 : trimM (nm ++ [32]) = nm := by rw [trim_right _ _ (by decide), h2]
  have e4 : trimM (32 :: v) = v := by rw [show (32 :: v : Bs) = [32] ++ v from rfl, trim_left _ _ (by decide), hv.trim]
  unfold core
  rw [e1, if_neg (by rw [h4]; simp), e2]
  simp only [e3, e4, h3]
  rw [if_neg (by rintro (h | h); cases h; omega), hs]
  simp only
  rw [if_neg hn]
/-- what holds of a configuration that may be -/
structure OkC (c : Cfg) : Prop where
  ne : c.seeds ≠ []
  seeds : ∀ n ∈ c.seeds, 1 ≤ n ∧ n ≤ 12
  len : c.seeds.length ≤ 12
  s8 : c.v 8 = 1 ∨ c.v 8 = 2 ∨ c.v 8 = 3 ∨ c.v 8 = 4
  v : ∀ i, isNum i → 0 ≤ c.v i ∧ c.v i ≤ 4096
theorem may_ok {c : Cfg} (h : mayM c = true) : OkC c := by
  unfold mayM mayX timesM at h
  simp only [Bool.and_eq_true] at h
  obtain ⟨⟨⟨⟨hrise, ⟨⟨ht, _⟩, h7⟩⟩, h1⟩, _⟩, hk⟩ := h
  have hl := seeds_len hrise
  have hr2 := hrise
  unfold riseM at hr2
  simp only [Bool.and_eq_true, decide_eq_true_eq] at hr2
  have b : ∀ {lo hi x : Int} {l : List Int}, inB lo hi l = true → x ∈ l → 0 ≤ lo → hi ≤ 4096 → 0 ≤ x ∧ x ≤ 4096 := fun h hx h1 h2 => by
    have := inB_of h hx
    omega
  have k8 : (c.v 8 = 1 ∨ c.v 8 = 2 ∨ c.v 8 = 3 ∨ c.v 8 = 4) ∧ (0 ≤ c.v 9 ∧ c.v 9 ≤ 4096) ∧ (0 ≤ c.v 12 ∧ c.v 12 ≤ 4096) ∧ (0 ≤ c.v 13 ∧ c.v 13 ≤ 4096) ∧ (0 ≤ c.v 14 ∧ c.v 14 ≤ 4096) := by
    unfold kindM at hk
    split at hk
    · rename_i e
      simp only [Bool.and_eq_true] at hk
      exact ⟨.inl e, b hk.1 (by simp) (by decide) (by decide), b hk.2 (by simp) (by decide) (by decide), b hk.2 (by simp) (by decide) (by decide), b hk.2 (by simp) (by decide) (by decide)⟩
    · split at hk
      · rename_i e
        exact ⟨by omega, b hk (by simp) (by decide) (by decide), b hk (by simp) (by decide) (by decide), b hk (by simp) (by decide) (by decide), b hk (by simp) (by decide) (by decide)⟩
      · split at hk
        · rename_i e
          simp only [Bool.and_eq_true, decide_eq_true_eq] at hk
          exact ⟨by omega, by omega, b hk.1.1.2 (by simp) (by decide) (by decide), b hk.1.2 (by simp) (by decide) (by decide), b hk.1.2 (by simp) (by decide) (by decide)⟩
        · cases hk
  refine ⟨fun e => by rw [e] at hr2; exact absurd hr2.1.1.1 (by decide), fun n hn => inB_of hr2.2 hn, hl, k8.1, fun i hi => ?_⟩
  obtain ⟨hi17, h0, h8, h10, h11⟩ := hi
  have hc : i = 1 ∨ i = 2 ∨ i = 3 ∨ i = 4 ∨ i = 5 ∨ i = 6 ∨ i = 7 ∨ i = 9 ∨ i = 12 ∨ i = 13 ∨ i = 14 ∨ i = 15 ∨ i = 16 := by omega
  rcases hc with rfl | rfl | rfl | rfl | rfl | rfl | rfl | rfl | rfl | rfl | rfl | rfl | rfl
  · exact b h1 (by simp) (by decide) (by decide)
  · exact b ht (by simp) (by decide) (by decide)
  · exact b ht (by simp) (by decide) (by decide)
  · exact b ht (by simp) (by decide) (by decide)
  · exact b ht (by simp) (by decide) (by decide)
  · exact b ht (by simp) (by decide) (by decide)
  · exact b h7 (by simp) (by decide) (by decide)
  · exact k8.2.1
  · exact k8.2.2.1
  · exact k8.2.2.2.1
  · exact k8.2.2.2.2
  · exact b ht (by simp) (by decide) (by decide)
  · exact b ht (by simp) (by decide) (by decide)
/-- what its text says -/
def tgt (c : Cfg) : Cfg := ⟨c.seeds, fun j => if j = 0 ∨ 17 ≤ j then 0 else if j = 10 ∨ j = 11 then (if c.v j = 0 then 0 else 1) else c.v j⟩
def part (c : Cfg) (k : Nat) : Cfg := ⟨if k = 0 then [] else c.seeds, fun j => if j < k then (tgt c).v j else 0⟩
theorem part_zero (c : Cfg) : part c 0 = zeroCfg := by
  unfold part zeroCfg
  congr 1
theorem part_succ (c : Cfg) {k : Nat} (hk : k ≠ 0) : part c (k + 1) = ⟨(part c k).seeds, upd (part c k).v k ((tgt c).v k)⟩ := by
  unfold part upd
  congr 1
  · rw [if_neg hk, if_neg (by omega)]
  · funext j
    by_cases e : j = k
    · subst e; rw [if_pos (by omega)]; simp
    · by_cases e2 : j < k
      · rw [if_pos (by omega), if_neg e]; exact (if_pos e2).symm
      · rw [if_neg (by omega), if_neg e]; exact (if_neg e2).symm
theorem part_same (c : Cfg) {k : Nat} (hk : k ≠ 0) (h : (tgt c).v k = 0) : part c (k + 1) = part c k := by
  rw [part_succ c hk, h]
  show (⟨_, _⟩ : Cfg) = ⟨_, _⟩
  congr 1
  funext j
  unfold upd
  by_cases e : j = k
  · subst e; rw [if_pos rfl, if_neg (by omega)]
  · rw [if_neg e]; rfl
theorem NMS_facts : ∀ n : Fin 5, 0 < n.1 → NMS.getD n.1 [] ∈ NMS.tail ∧ NMS.idxOf (NMS.getD n.1 []) = n.1 ∧ (∀ x ∈ NMS.getD n.1 [], x ≠ 10 ∧ x ≠ 35) ∧ trimM (NMS.getD n.1 []) = NMS.getD n.1 [] := by decide +kernel
theorem vis_strat : ∀ n : Fin 5, 0 < n.1 → vis (NMS.getD n.1 []) := by
  have h : ∀ n : Fin 5, 0 < n.1 → (∀ x ∈ NMS.getD n.1 [], x ≠ 10 ∧ x ≠ 35) ∧ (NMS.getD n.1 []).head?.map blB = some false ∧ (NMS.getD n.1 []).getLast?.map blB = some false := by decide +kernel
  intro n hn
  obtain ⟨h1, h2, h3⟩ := h n hn
  generalize NMS.getD n.1 [] = v at h1 h2 h3
  refine ⟨h1, ?_, ?_⟩
  · cases v with
    | nil => cases h2
    | cons a r => exact ⟨a, r, rfl, by simpa using h2⟩
  · have h0 : v ≠ [] := fun e => by rw [e] at h2; cases h2
    rw [List.getLast?_eq_some_getLast h0] at h3
    exact ⟨v.getLast h0, v.dropLast, (List.dropLast_concat_getLast h0).symm, by simpa using h3⟩
theorem vis_yes : vis yesB := ⟨by decide, ⟨121, _, rfl, by decide⟩, ⟨115, [121, 101], rfl, by decide⟩⟩
theorem part_step {c : Cfg} (h : OkC c) {k : Nat} (hk : k < 17) : (showM k c = [] ∧ part c (k + 1) = part c k) ∨ (showM k c ≠ [] ∧ vis (showM k c) ∧ setM k (part c k) (showM k c) = some (part c (k + 1))) := by
  have ne_vis : ∀ {v : Bs}, vis v → v ≠ [] := fun hv e => by obtain ⟨a, r, e2, _⟩ := hv.2.1; rw [e] at e2; cases e2
  by_cases h0 : k = 0
  · subst h0
    right
    obtain ⟨q1, q2⟩ := seeds_back h.ne h.seeds
    have e : showM 0 c = Lib.join (c.seeds.map Lib.itoa) [44, 32] := rfl
    rw [e]
    refine ⟨ne_vis q1, q1, ?_⟩
    unfold setM
    rw [if_pos rfl, q2, part_zero, Option.map_some]
    unfold part zeroCfg
    simp only [List.nil_append]
    congr 2
    funext j
    by_cases e : j < 0 + 1
    · rw [if_pos e]; unfold tgt; simp; omega
    · rw [if_neg e]
  by_cases h8 : k = 8
  · subst h8
    right
    obtain ⟨n, hn, hn0, hn5⟩ : ∃ n : Nat, c.v 8 = n ∧ 0 < n ∧ n < 5 := ⟨(c.v 8).toNat, by have := h.s8; omega, by have := h.s8; omega, by have := h.s8; omega⟩
    have e : showM 8 c = NMS.getD n [] := by
      show stratB (c.v 8) = _
      unfold stratB
      rw [hn, if_pos (by omega), Int.toNat_natCast]
    obtain ⟨f1, f2, _, _⟩ := NMS_facts ⟨n, hn5⟩ hn0
    have f4 := vis_strat ⟨n, hn5⟩ hn0
    rw [e]
    refine ⟨ne_vis f4, f4, ?_⟩
    unfold setM
    rw [if_neg (by decide), if_pos rfl, if_pos f1, part_succ c (k := 8) (by decide)]
    have e3 : (tgt c).v 8 = (n : Int) := by rw [← hn]; rfl
    rw [e3, f2]
  by_cases hf : k = 10 ∨ k = 11
  · have e : showM k c = flagB (c.v k) := by unfold showM; rw [if_neg h0, if_neg h8, if_pos hf]
    have e2 : (tgt c).v k = if c.v k = 0 then 0 else 1 := by
      show (if k = 0 ∨ 17 ≤ k then 0 else if k = 10 ∨ k = 11 then (if c.v k = 0 then 0 else 1) else c.v k) = _
      rw [if_neg (by omega), if_pos hf]
    by_cases hz : c.v k = 0
    · left
      rw [e]; unfold flagB; rw [if_pos hz]
      exact ⟨rfl, part_same c h0 (by rw [e2, if_pos hz])⟩
    · right
      rw [e]; unfold flagB; rw [if_neg hz]
      refine ⟨by decide, vis_yes, ?_⟩
      unfold setM
      rw [if_neg h0, if_neg h8, if_pos hf, if_pos rfl, part_succ c h0, e2, if_neg hz]
  · have hn : isNum k := by unfold isNum; omega
    have hv := h.v k hn
    have e : showM k c = showN (c.v k) := by unfold showM; rw [if_neg h0, if_neg h8, if_neg hf]
    have e2 : (tgt c).v k = c.v k := by
      show (if k = 0 ∨ 17 ≤ k then 0 else if k = 10 ∨ k = 11 then (if c.v k = 0 then 0 else 1) else c.v k) = _
      rw [if_neg (by omega), if_neg hf]
    by_cases hz : c.v k = 0
    · left
      rw [e]; unfold showN; rw [if_pos hz]
      exact ⟨rfl, part_same c h0 (by rw [e2, hz])⟩
    · right
      obtain ⟨q1, q2, q3⟩ := numM_itoa (n := c.v k) (by omega) (by omega)
      rw [e]; unfold showN; rw [if_neg hz]
      refine ⟨q3, vis_digs q2 q3, ?_⟩
      rw [setM_num hn, q1, part_succ c h0, e2]; rfl
def lnM (c : Cfg) (i : Nat) : List Bs := if showM i c = [] then [] else [KN.getD i [] ++ 32 :: 61 :: 32 :: showM i c]
def linesM (c : Cfg) (k : Nat) : List Bs := (List.range k).flatMap (lnM c)
theorem linesM_succ (c : Cfg) (k : Nat) : linesM c (k + 1) = linesM c k ++ lnM c k := by unfold linesM; rw [List.range_succ, List.flatMap_append]; simp
theorem fold_part {c : Cfg} (h : OkC c) : ∀ k, k ≤ 17 → ∃ T, ((linesM c k).map lineM).foldlM core (zeroCfg, []) = .ok (part c k, T) ∧ ∀ i ∈ T, i < k
  | 0, _ => ⟨[], by rw [part_zero]; rfl, fun i hi => by cases hi⟩
  | k + 1, hk => by
    obtain ⟨T, h1, h2⟩ := fold_part h k (by omega)
    rw [linesM_succ, List.map_append, List.foldlM_append, h1]
    rcases part_step h (show k < 17 by omega) with ⟨e1, e2⟩ | ⟨e0, e1, e2⟩
    · refine ⟨T, ?_, fun i hi => by have := h2 i hi; omega⟩
      unfold lnM
      rw [if_pos e1, e2]; rfl
    · refine ⟨k :: T, ?_, fun i hi => ?_⟩
      · unfold lnM
        rw [if_neg e0]
        have := core_row (st := (part c k, T)) (show k < 17 by omega) e1 e2 (fun hm => by have := h2 k hm; omega)
        show List.foldlM core (part c k, T) [_] = _
        rw [List.foldlM_cons, this]; rfl
      · rcases List.mem_cons.1 hi with rfl | hi
        · omega
        · have := h2 i hi; omega
theorem spl_lines : ∀ (L : List Bs), (∀ x ∈ L, x.contains 10 = false) → spl 10 (L.flatMap (· ++ [10])) = L ++ [[]]
  | [], _ => rfl
  | x :: L, h => by
    rw [List.flatMap_cons, List.append_assoc, List.singleton_append, spl_hit _ _ (h x List.mem_cons_self), spl_lines L (fun y hy => h y (List.mem_cons_of_mem _ hy))]; rfl
theorem text_lines (c : Cfg) (k : Nat) : textM c k = (linesM c k).flatMap (· ++ [10]) := by
  unfold textM linesM
  rw [List.flatMap_assoc]
  congr 1
  funext i
  unfold rowM lnM
  split
  · rfl
  · simp
theorem showM_len12 {c : Cfg} (h : OkC c) (hw : WfC c) {i : Nat} (hi : i < 17) : (showM i c).length ≤ 300 := by
  have hl := h.len
  unfold showM
  split
  · have h1 := join_len [44, 32] (c.seeds.map Lib.itoa) (k := 20) (fun x hx => by
      obtain ⟨n, hn, rfl⟩ := List.mem_map.1 hx
      exact itoa_len (hw.seeds n hn))
    rw [List.length_map] at h1
    exact Nat.le_trans h1 (by simp only [List.length_cons, List.length_nil]; omega)
  · split
    · have := h.s8
      unfold stratB
      rw [if_pos (by omega)]
      exact Nat.le_trans (NMS_len _) (by decide)
    · split
      · unfold flagB
        split
        · simp
        · decide
      · rename_i h1 h2 h3
        unfold showN
        split
        · simp
        · exact Nat.le_trans (itoa_len (hw.v i (by unfold isNum; omega))) (by decide)
theorem textM_len12 {c : Cfg} (h : OkC c) (hw : WfC c) : ∀ {k : Nat}, k ≤ 17 → (textM c k).length ≤ k * 400
  | 0, _ => by simp [textM]
  | k + 1, hk => by
    rw [textM_succ, List.length_append]
    have h1 := textM_len12 h hw (k := k) (by omega)
    have h2 : (rowM c k).length ≤ 400 := by
      have := showM_len12 h hw (i := k) (by omega)
      have := KN_len k
      unfold rowM
      split
      · simp
      · simp only [List.length_append, List.length_cons, List.length_nil]; omega
    omega
theorem may_wf {c : Cfg} (h : mayM c = true) : WfC c := mayM_wf h (Nat.le_trans (may_ok h).len (by decide))
theorem text_len {c : Cfg} (h : mayM c = true) : (textM c 17).length ≤ 6800 := textM_len12 (may_ok h) (may_wf h) (Nat.le_refl _)
theorem show_part {c : Cfg} {i : Nat} (hi : i < 17) : showM i (part c 17) = showM i c := by
  have e : ∀ j, j < 17 → j ≠ 0 → (part c 17).v j = if j = 10 ∨ j = 11 then (if c.v j = 0 then 0 else 1) else c.v j := fun j hj h0 => by
    show (if j < 17 then (if j = 0 ∨ 17 ≤ j then 0 else if j = 10 ∨ j = 11 then (if c.v j = 0 then 0 else 1) else c.v j) else 0) = _
    rw [if_pos hj, if_neg (by omega)]
  unfold showM
  split
  · rfl
  · rename_i h0
    split
    · rw [e 8 (by decide) (by decide), if_neg (by decide)]
    · split
      · rename_i h10
        rw [e i hi h0, if_pos h10]
        unfold flagB
        by_cases hz : c.v i = 0
        · rw [if_pos hz, if_pos rfl, if_pos hz]
        · rw [if_neg hz, if_neg (by decide), if_neg hz]
      · rename_i h10
        rw [e i hi h0, if_neg h10]
theorem text_part (c : Cfg) : textM (part c 17) 17 = textM c 17 := by
  unfold textM
  rw [List.flatMap_def, List.flatMap_def]
  congr 1
  exact List.map_congr_left fun i hi => by unfold rowM; rw [show_part (List.mem_range.1 hi)]
theorem same_part (c : Cfg) : sameM c (part c 17) = true ∧ sameM (part c 17) c = true := by
  constructor
  · unfold sameM
    rw [Bool.and_eq_true]
    exact ⟨decide_eq_true rfl, List.all_eq_true.2 fun i hi => decide_eq_true (show_part (List.mem_range.1 hi)).symm⟩
  · unfold sameM
    rw [Bool.and_eq_true]
    exact ⟨decide_eq_true rfl, List.all_eq_true.2 fun i hi => decide_eq_true (show_part (List.mem_range.1 hi))⟩
theorem may_part (c : Cfg) : mayM (part c 17) = mayM c := by
  have e : ∀ j, j < 17 → j ≠ 0 → j ≠ 10 → j ≠ 11 → (part c 17).v j = c.v j := fun j hj h0 h1 h2 => by
    show (if j < 17 then (if j = 0 ∨ 17 ≤ j then 0 else if j = 10 ∨ j = 11 then (if c.v j = 0 then 0 else 1) else c.v j) else 0) = _
    rw [if_pos hj, if_neg (by omega), if_neg (by omega)]
  have e10 : decide ((part c 17).v 10 ≠ 0) = decide (c.v 10 ≠ 0) := by
    show decide ((if c.v 10 = 0 then (0 : Int) else 1) ≠ 0) = _
    by_cases hz : c.v 10 = 0 <;> simp [hz]
  unfold mayM
  rw [e10, e 1 (by decide) (by decide) (by decide) (by decide), e 2 (by decide) (by decide) (by decide) (by decide), e 3 (by decide) (by decide) (by decide) (by decide), e 4 (by decide) (by decide) (by decide) (by decide), e 5 (by decide) (by decide) (by decide) (by decide), e 6 (by decide) (by decide) (by decide) (by decide), e 7 (by decide) (by decide) (by decide) (by decide), e 8 (by decide) (by decide) (by decide) (by decide), e 9 (by decide) (by decide) (by decide) (by decide), e 12 (by decide) (by decide) (by decide) (by decide), e 13 (by decide) (by decide) (by decide) (by decide), e 14 (by decide) (by decide) (by decide) (by decide), e 15 (by decide) (by decide) (by decide) (by decide), e 16 (by decide) (by decide) (by decide) (by decide)]
  rfl
/-- a text that a configuration shows is that configuration -/
theorem back {c : Cfg} (hm : mayM c = true) : parseM (textM c 17) = (part c 17, 0, 0) := by
  have h := may_ok hm
  obtain ⟨T, h1, _⟩ := fold_part h 17 (Nat.le_refl _)
  have hmem : ∀ x ∈ linesM c 17, x.contains 10 = false := fun x hx => by
    unfold linesM at hx
    obtain ⟨i, hi, h2⟩ := List.mem_flatMap.1 hx
    have hi := List.mem_range.1 hi
    unfold lnM at h2
    rcases part_step h hi with ⟨e1, _⟩ | ⟨e0, e1, _⟩
    · rw [if_pos e1] at h2; cases h2
    · rw [if_neg e0] at h2
      rw [List.mem_singleton.1 h2]
      refine contains_false.2 fun y hy => ?_
      rcases List.mem_append.1 hy with h | h
      · exact ((KN_at hi).1 y h).2.2
      · simp only [List.mem_cons] at h
        rcases h with rfl | rfl | rfl | h
        · decide
        · decide
        · decide
        · exact (e1.1 y h).1
  have hs : spl 10 (textM c 17) = linesM c 17 ++ [[]] := by rw [text_lines, spl_lines _ hmem]
  have hl : ∀ x ∈ spl 10 (textM c 17), x.length ≤ 40000000 := fun x hx => Nat.le_trans (spl_len 10 _ x hx) (Nat.le_trans (text_len hm) (by decide))
  have hf : pfold (nl (textM c 17)) = .ok (part c 17, T) := by
    rw [nl_eq]
    refine (pfold_core hl).2 ?_
    rw [hs, List.map_append, List.foldlM_append, h1]
    rfl
  rw [parseM_ok hf, if_pos (by rw [may_part]; exact hm)]
end Go.Proofs.YtjgkalcldekmpaaGreatDoor
