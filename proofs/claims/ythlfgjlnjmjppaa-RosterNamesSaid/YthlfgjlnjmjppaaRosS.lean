/-
  Roster: the laws of Join, in plain words.
-/
import Derived.Test.YthlfgjlnjmjppaaRosR
namespace Go.Proofs.Ythlfgjlnjmjppaa

theorem flat_congr {α β : Type} {l : List α} {f g : α → List β} (h : ∀ x ∈ l, f x = g x) : l.flatMap f = l.flatMap g := by
  induction l with
  | nil => rfl
  | cons x l ih => rw [List.flatMap_cons, List.flatMap_cons, h x List.mem_cons_self, ih fun y hy => h y (List.mem_cons_of_mem _ hy)]
/-- Join of all entries and all floors -/
def J (M : List Mem) (F : List ID) : LI := joinT M F [] []
theorem joinL_eq (a b : LI) : joinL a b = J (a.1 ++ b.1) (a.2 ++ b.2) := by
  unfold joinL J joinT allT
  rw [List.append_nil, List.append_nil]
abbrev V (M : List Mem) (F : List ID) (a : Nat) : Int × Int × Int × Int := valT (M.filter okE) F a
theorem spV (M : List Mem) (F : List ID) (a : Nat) : Sp (fun i st no => (⟨(a : Int), i, st, no⟩ : Mem) ∈ M.filter okE) (fun u => ((a : Int), u) ∈ F ∧ mayID ((a : Int), u) = true) (V M F a).1 (V M F a).2.1 (V M F a).2.2.1 (V M F a).2.2.2 := sp_of (M.filter okE) F a
theorem J_fst (M : List Mem) (F : List ID) : (J M F).1 = (List.range 12).flatMap fun i => if (V M F (i + 1)).1 ≤ (V M F (i + 1)).2.1 then [] else [(⟨((i + 1 : Nat) : Int), (V M F (i + 1)).1, (V M F (i + 1)).2.2.1, (V M F (i + 1)).2.2.2⟩ : Mem)] := by
  unfold J joinT allT
  rw [List.append_nil, List.append_nil]; rfl
theorem J_snd (M : List Mem) (F : List ID) : (J M F).2 = (List.range 12).flatMap fun i => if 0 < (V M F (i + 1)).2.1 then [(((i + 1 : Nat) : Int), (V M F (i + 1)).2.1)] else [] := by
  unfold J joinT allT
  rw [List.append_nil, List.append_nil]; rfl
theorem J_ext {M M' : List Mem} {F F' : List ID} (h : ∀ a : Nat, 1 ≤ a → a ≤ 12 → (V M F a).2.1 = (V M' F' a).2.1 ∧ ((V M F a).2.1 < (V M F a).1 ↔ (V M' F' a).2.1 < (V M' F' a).1) ∧ ((V M F a).2.1 < (V M F a).1 → (V M F a).1 = (V M' F' a).1 ∧ (V M F a).2.2.1 = (V M' F' a).2.2.1 ∧ (V M F a).2.2.2 = (V M' F' a).2.2.2)) :
    J M F = J M' F' := by
  apply Prod.ext
  · rw [J_fst, J_fst]
    refine flat_congr fun i hi => ?_
    obtain ⟨h1, h2, h3⟩ := h (i + 1) (by omega) (by have := List.mem_range.1 hi; omega)
    by_cases hl : (V M F (i + 1)).2.1 < (V M F (i + 1)).1
    · obtain ⟨e1, e2, e3⟩ := h3 hl
      have hl' := h2.1 hl
      rw [if_neg (by omega), if_neg (by omega), e1, e2, e3]
    · rw [if_pos (by omega), if_pos (by have := mt h2.2 hl; omega)]
  · rw [J_snd, J_snd]
    refine flat_congr fun i hi => ?_
    obtain ⟨h1, _, _⟩ := h (i + 1) (by omega) (by have := List.mem_range.1 hi; omega)
    rw [h1]
theorem J_mem {M : List Mem} {F : List ID} {x : Mem} : x ∈ (J M F).1 ↔ ∃ a : Nat, 1 ≤ a ∧ a ≤ 12 ∧ (V M F a).2.1 < (V M F a).1 ∧ x = ⟨(a : Int), (V M F a).1, (V M F a).2.2.1, (V M F a).2.2.2⟩ := by
  rw [J_fst, List.mem_flatMap]
  constructor
  · rintro ⟨i, hi, hx⟩
    have := List.mem_range.1 hi
    split at hx
    · cases hx
    · exact ⟨i + 1, by omega, by omega, by omega, List.mem_singleton.1 hx⟩
  · rintro ⟨a, h1, h2, h3, rfl⟩
    obtain ⟨i, rfl⟩ : ∃ i, a = i + 1 := ⟨a - 1, by omega⟩
    exact ⟨i, List.mem_range.2 (by omega), by rw [if_neg (by omega)]; exact List.mem_singleton.2 rfl⟩
theorem J_fl {M : List Mem} {F : List ID} {p : ID} : p ∈ (J M F).2 ↔ ∃ a : Nat, 1 ≤ a ∧ a ≤ 12 ∧ 0 < (V M F a).2.1 ∧ p = ((a : Int), (V M F a).2.1) := by
  rw [J_snd, List.mem_flatMap]
  constructor
  · rintro ⟨i, hi, hx⟩
    have := List.mem_range.1 hi
    split at hx
    · exact ⟨i + 1, by omega, by omega, by omega, List.mem_singleton.1 hx⟩
    · cases hx
  · rintro ⟨a, h1, h2, h3, rfl⟩
    obtain ⟨i, rfl⟩ : ∃ i, a = i + 1 := ⟨a - 1, by omega⟩
    exact ⟨i, List.mem_range.2 (by omega), by rw [if_pos h3]; exact List.mem_singleton.2 rfl⟩
theorem pw_flat {α : Type} (key : α → Int) (f : Nat → List α) (h1 : ∀ i, ∀ x ∈ f i, key x = ((i + 1 : Nat) : Int)) (h2 : ∀ i, (f i).length ≤ 1) (n : Nat) : ((List.range n).flatMap f).Pairwise (fun x y => key x < key y) := by
  induction n with
  | zero => simp
  | succ n ih =>
    rw [List.range_succ, List.flatMap_append, List.pairwise_append]
    refine ⟨ih, ?_, ?_⟩
    · simp only [List.flatMap_cons, List.flatMap_nil, List.append_nil]
      match f n, h2 n with
      | [], _ => simp
      | [x], _ => simp
    · intro x hx y hy
      obtain ⟨i, hi, hx⟩ := List.mem_flatMap.1 hx
      simp only [List.flatMap_cons, List.flatMap_nil, List.append_nil] at hy
      have := List.mem_range.1 hi
      rw [h1 i x hx, h1 n y hy]
      omega
theorem J_sorted (M : List Mem) (F : List ID) : (J M F).1.Pairwise (fun x y => x.addr < y.addr) := by
  rw [J_fst]
  refine pw_flat (fun x : Mem => x.addr) _ (fun i x hx => ?_) (fun i => ?_) 12
  · split at hx
    · cases hx
    · rw [List.mem_singleton.1 hx]
  · split <;> simp
theorem J_rising (M : List Mem) (F : List ID) : (J M F).2.Pairwise (fun x y => x.1 < y.1) := by
  rw [J_snd]
  refine pw_flat (fun p : ID => p.1) _ (fun i x hx => ?_) (fun i => ?_) 12
  · split at hx
    · rw [List.mem_singleton.1 hx]
    · cases hx
  · split <;> simp
theorem pw_uniq {α : Type} {key : α → Int} {l : List α} (h : l.Pairwise (fun x y => key x < key y)) : ∀ x ∈ l, ∀ y ∈ l, key x = key y → x = y := by
  induction l with
  | nil => intro x hx; cases hx
  | cons z l ih =>
    obtain ⟨h1, h2⟩ := List.pairwise_cons.1 h
    intro x hx y hy he
    rcases List.mem_cons.1 hx with e | hx' <;> rcases List.mem_cons.1 hy with e' | hy'
    · rw [e, e']
    · have := h1 y hy'; rw [← e] at this; omega
    · have := h1 x hx'; rw [← e'] at this; omega
    · exact ih h2 x hx' y hy' he
theorem pw_ext {α : Type} {key : α → Int} : ∀ {l l' : List α}, l.Pairwise (fun x y => key x < key y) → l'.Pairwise (fun x y => key x < key y) → (∀ x, x ∈ l ↔ x ∈ l') → l = l'
  | [], [], _, _, _ => rfl
  | [], y :: l', _, _, he => by have := (he y).2 List.mem_cons_self; cases this
  | x :: l, [], _, _, he => by have := (he x).1 List.mem_cons_self; cases this
  | x :: l, y :: l', h, h', he => by
    obtain ⟨h1, h2⟩ := List.pairwise_cons.1 h
    obtain ⟨h1', h2'⟩ := List.pairwise_cons.1 h'
    have hxy : x = y := by
      rcases List.mem_cons.1 ((he x).1 List.mem_cons_self) with e | e
      · exact e
      · rcases List.mem_cons.1 ((he y).2 List.mem_cons_self) with e' | e'
        · exact e'.symm
        · have := h1' x e; have := h1 y e'; omega
    subst hxy
    rw [pw_ext h2 h2' fun z => ⟨fun hz => ?_, fun hz => ?_⟩]
    · rcases List.mem_cons.1 ((he z).1 (List.mem_cons_of_mem _ hz)) with e | e
      · subst e; have := h1 z hz; omega
      · exact e
    · rcases List.mem_cons.1 ((he z).2 (List.mem_cons_of_mem _ hz)) with e | e
      · subst e; have := h1' z hz; omega
      · exact e

/-- what is said of an address is within the bounds -/
theorem V_live {M : List Mem} {F : List ID} {a : Nat} (hl : (V M F a).2.1 < (V M F a).1) : okE ⟨(a : Int), (V M F a).1, (V M F a).2.2.1, (V M F a).2.2.2⟩ = true ∧ (V M F a).2.2.1 ≤ 6 := by
  have h := spV M F a
  generalize V M F a = v at *
  have hf := h.f0
  rcases h.n1 with q | ⟨st, no, q⟩
  · omega
  · have hok := okE_bd (List.mem_filter.1 q).2
    have h2 := h.s2 _ _ q
    rcases h.s1 with r | ⟨no', r⟩
    · simp only at hok; omega
    · have hok' := okE_bd (List.mem_filter.1 r).2
      have h7 : v.2.2.1 ≠ 7 := fun e => by
        have := h.f2 _ _ _ r (.inl e); omega
      refine ⟨?_, by simp only at *; omega⟩
      simp only [okE, mayID, Bool.and_eq_true, decide_eq_true_eq]
      simp only at *
      omega
theorem V_fl {M : List Mem} {F : List ID} {a : Nat} (hl : 0 < (V M F a).2.1) : mayID ((a : Int), (V M F a).2.1) = true := by
  have h := spV M F a
  generalize V M F a = v at *
  rcases h.f1 with q | ⟨st, no, q, _⟩ | q
  · omega
  · have hok := okE_bd (List.mem_filter.1 q).2
    simp only [mayID, decide_eq_true_eq]
    simp only at *
    omega
  · exact q.2
theorem J_ok {M : List Mem} {F : List ID} {x : Mem} (h : x ∈ (J M F).1) : okE x = true ∧ x.st ≤ 6 := by
  obtain ⟨a, _, _, h3, rfl⟩ := J_mem.1 h
  exact V_live h3
theorem J_may {M : List Mem} {F : List ID} {p : ID} (h : p ∈ (J M F).2) : mayID p = true := by
  obtain ⟨a, _, _, h3, rfl⟩ := J_fl.1 h
  exact V_fl h3
/-- Join depends on what stands there alone -/
theorem J_congr {M M' : List Mem} {F F' : List ID} (hm : ∀ x, x ∈ M ↔ x ∈ M') (hf : ∀ p, p ∈ F ↔ p ∈ F') : J M F = J M' F' := by
  refine J_ext fun a _ _ => ?_
  obtain ⟨e1, e2, e3, e4⟩ := (spV M F a).uniq (spV M' F' a) (fun i st no => by simp only [List.mem_filter, hm]) (fun u => by rw [hf])
  have e : V M F a = V M' F' a := by
    apply Prod.ext e1; apply Prod.ext e2; exact Prod.ext e3 e4
  rw [e]
  exact ⟨rfl, Iff.rfl, fun _ => ⟨rfl, rfl, rfl⟩⟩
theorem J_absorb (M m : List Mem) (F g : List ID) : J ((J M F).1 ++ m) ((J M F).2 ++ g) = J (M ++ m) (F ++ g) := by
  symm
  refine J_ext fun a ha hb => ?_
  refine Sp.absorb (e1 := fun i st no => (⟨(a : Int), i, st, no⟩ : Mem) ∈ M.filter okE) (e2 := fun i st no => (⟨(a : Int), i, st, no⟩ : Mem) ∈ m.filter okE) (g1 := fun u => ((a : Int), u) ∈ F ∧ mayID ((a : Int), u) = true) (g2 := fun u => ((a : Int), u) ∈ g ∧ mayID ((a : Int), u) = true) (spV M F a) ?_ ?_ ?_ ?_ ?_ (spV (M ++ m) (F ++ g) a) (spV _ _ a)
  · intro i st no h
    have := okE_bd (List.mem_filter.1 h).2
    simp only at this; omega
  · intro i st no
    rw [List.filter_append, List.mem_append]
  · intro u
    rw [List.mem_append]
    constructor
    · rintro ⟨h | h, hm⟩
      · exact .inl ⟨h, hm⟩
      · exact .inr ⟨h, hm⟩
    · rintro (⟨h, hm⟩ | ⟨h, hm⟩)
      · exact ⟨.inl h, hm⟩
      · exact ⟨.inr h, hm⟩
  · intro i st no
    rw [List.filter_append, List.mem_append]
    refine or_congr ?_ Iff.rfl
    rw [List.mem_filter, J_mem]
    constructor
    · rintro ⟨⟨b, _, _, h3, he⟩, _⟩
      injection he with q1 q2 q3 q4
      obtain rfl : a = b := by omega
      exact ⟨h3, q2, q3, q4⟩
    · rintro ⟨h3, rfl, rfl, rfl⟩
      exact ⟨⟨a, ha, hb, h3, rfl⟩, (V_live h3).1⟩
  · intro u
    rw [List.mem_append, J_fl]
    constructor
    · rintro ⟨⟨b, _, _, h3, he⟩ | h, hm⟩
      · injection he with q1 q2
        obtain rfl : a = b := by omega
        exact .inl ⟨h3, q2⟩
      · exact .inr ⟨h, hm⟩
    · rintro (⟨h3, rfl⟩ | ⟨h, hm⟩)
      · exact ⟨.inl ⟨a, ha, hb, h3, rfl⟩, V_fl h3⟩
      · exact ⟨.inr h, hm⟩
theorem app_comm {α : Type} (l l' : List α) : ∀ x, x ∈ l ++ l' ↔ x ∈ l' ++ l := fun x => by rw [List.mem_append, List.mem_append, Or.comm]
theorem join_comm (a b : LI) : joinL a b = joinL b a := by
  rw [joinL_eq, joinL_eq]
  exact J_congr (app_comm _ _) (app_comm _ _)
theorem join_left (a b c : LI) : joinL (joinL a b) c = J ((a.1 ++ b.1) ++ c.1) ((a.2 ++ b.2) ++ c.2) := by
  rw [joinL_eq (joinL a b), joinL_eq a b]
  exact J_absorb _ _ _ _
theorem join_assoc (a b c : LI) : joinL (joinL a b) c = joinL a (joinL b c) := by
  rw [join_comm a (joinL b c), join_left, join_left]
  refine J_congr (fun x => ?_) (fun x => ?_) <;> simp only [List.mem_append] <;> constructor <;> (intro h; rcases h with (h | h) | h <;> simp [h])
theorem join_again (a b : LI) : joinL (joinL a b) a = joinL a b := by
  rw [join_left, joinL_eq]
  refine J_congr (fun x => ?_) (fun x => ?_) <;> simp only [List.mem_append] <;> constructor <;> intro h
  · rcases h with h | h
    · exact h
    · exact .inl h
  · exact .inl h
  · rcases h with h | h
    · exact h
    · exact .inl h
  · exact .inl h
theorem join_self (a b : LI) : joinL (joinL a b) (joinL a b) = joinL a b := by
  have e : joinL a b = J (a.1 ++ b.1) (a.2 ++ b.2) := joinL_eq a b
  have h1 : joinL (joinL a b) (joinL a b) = J ((a.1 ++ b.1) ++ (joinL a b).1) ((a.2 ++ b.2) ++ (joinL a b).2) := join_left a b (joinL a b)
  rw [h1, J_congr (app_comm _ _) (app_comm _ _)]
  have h2 := J_absorb (a.1 ++ b.1) (a.1 ++ b.1) (a.2 ++ b.2) (a.2 ++ b.2)
  rw [← e] at h2
  rw [h2, e]
  refine J_congr (fun x => ?_) (fun x => ?_) <;> rw [List.mem_append, or_self]
end Go.Proofs.Ythlfgjlnjmjppaa
