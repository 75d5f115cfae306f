/-
  An evaluator for closed calls: code.
-/
import Derived.Test.YtkiakphfgdkdiaaGreatEvU
namespace Go.Proofs.YtkiakphfgdkdiaaGreat
open Go Go.RowKit
set_option linter.unusedVariables false

section
variable {ops : Array Oper}

theorem mask_fold (acc : List Nat) (k : Nat) : ∀ (l : List Edge) (s : Nat), Nat.testBit (l.foldl (fun s e => cond (Region.binds .any e) (Nat.lor (Nat.lor s (Nat.pow 2 e.on)) (acc.getD e.on 0)) s) s) k = true →
    Nat.testBit s k = true ∨ ∃ e ∈ l, Region.binds .any e = true ∧ (k = e.on ∨ Nat.testBit (acc.getD e.on 0) k = true)
  | [], s, h => .inl h
  | e :: l, s, h => by
    simp only [List.foldl_cons] at h
    rcases mask_fold acc k l _ h with h1 | ⟨e', he', h2⟩
    · cases hb : Region.binds .any e with
      | false => rw [hb] at h1; exact .inl h1
      | true =>
        rw [hb] at h1
        simp only [cond_true] at h1
        have h1 : Nat.testBit ((s ||| 2 ^ e.on) ||| acc.getD e.on 0) k = true := h1
        rw [Nat.testBit_or, Nat.testBit_or, Nat.testBit_two_pow] at h1
        simp only [Bool.or_eq_true, decide_eq_true_eq] at h1
        rcases h1 with (h1 | h1) | h1
        · exact .inl h1
        · exact .inr ⟨e, by simp, hb, .inl h1.symm⟩
        · exact .inr ⟨e, by simp, hb, .inr h1⟩
    · exact .inr ⟨e', by simp [he'], h2⟩

theorem masksGo_spec : ∀ (l : List Oper) (acc : List Nat), (masksGo l acc).length = acc.length + l.length ∧ (masksGo l acc).take acc.length = acc ∧
    ∀ (i : Nat) (o : Oper), l[i]? = some o → (masksGo l acc)[acc.length + i]? = some (maskOf ((masksGo l acc).take (acc.length + i)) o)
  | [], acc => ⟨by simp [masksGo], by simp [masksGo], fun i o h => by simp at h⟩
  | o :: l, acc => by
    obtain ⟨h1, h2, h3⟩ := masksGo_spec l (acc ++ [maskOf acc o])
    have hlen : (acc ++ [maskOf acc o]).length = acc.length + 1 := by simp
    rw [hlen] at h1 h2 h3
    have ht : (masksGo (o :: l) acc).take acc.length = acc := by
      show (masksGo l (acc ++ [maskOf acc o])).take acc.length = acc
      have : (masksGo l (acc ++ [maskOf acc o])).take acc.length = ((masksGo l (acc ++ [maskOf acc o])).take (acc.length + 1)).take acc.length := by
        rw [List.take_take]; congr 1; omega
      rw [this, h2]
      simp
    refine ⟨?_, ht, fun i q hq => ?_⟩
    · show (masksGo l (acc ++ [maskOf acc o])).length = _
      rw [h1]; simp; omega
    · cases i with
      | zero =>
        simp only [List.getElem?_cons_zero, Option.some.injEq] at hq
        subst hq
        rw [Nat.add_zero, ht]
        show (masksGo l (acc ++ [maskOf acc o]))[acc.length]? = _
        have : (masksGo l (acc ++ [maskOf acc o]))[acc.length]? = ((masksGo l (acc ++ [maskOf acc o])).take (acc.length + 1))[acc.length]? := by
          rw [List.getElem?_take]; simp
        rw [this, h2]
        simp
      | succ i =>
        have := h3 i q (by simpa using hq)
        rw [show acc.length + (i + 1) = acc.length + 1 + i by omega]
        exact this

theorem masks_bit {j k : Nat} {o : Oper} (ho : ops[j]? = some o) (h : orderedIn (masks ops) k j = true) :
    ∃ e ∈ o.after.toList, Region.binds .any e = true ∧ (k = e.on ∨ (e.on < j ∧ e.on < ops.size ∧ orderedIn (masks ops) k e.on = true)) := by
  obtain ⟨h1, _, h3⟩ := masksGo_spec ops.toList []
  have h4 := h3 j o (by simpa using ho)
  simp only [List.length_nil, Nat.zero_add] at h1 h4
  unfold orderedIn at h ⊢
  change (masks ops)[j]? = some (maskOf ((masks ops).take j) o) at h4
  rw [List.getD_eq_getElem?_getD, h4] at h
  simp only [Option.getD_some] at h
  rcases mask_fold _ k _ _ h with h5 | ⟨e, he, hb, h6⟩
  · simp at h5
  · refine ⟨e, he, hb, h6.imp id fun h7 => ?_⟩
    rw [List.getD_eq_getElem?_getD, List.getElem?_take] at h7
    by_cases hlt : e.on < j
    · rw [if_pos hlt] at h7
      refine ⟨hlt, ?_, by rw [List.getD_eq_getElem?_getD]; exact h7⟩
      have h1' : (masks ops).length = ops.size := by simpa [masks] using h1
      rw [← h1']
      rcases Nat.lt_or_ge e.on (masks ops).length with h8 | h8
      · exact h8
      · rw [List.getElem?_eq_none h8] at h7; simp at h7
    · rw [if_neg hlt] at h7; simp at h7

/-- What is listed comes with all that comes ahead of it. -/
def Down (ops : Array Oper) (listed : Array Bool) : Prop := ∀ j o, ops[j]? = some o → listed.getD j false = true → ∀ e ∈ o.after.toList, Region.binds .any e = true → listed.getD e.on false = true

theorem bits_listed {listed : Array Bool} (hd : Down ops listed) : ∀ (j : Nat) (o : Oper), ops[j]? = some o → (∀ e ∈ o.after.toList, Region.binds .any e = true → listed.getD e.on false = true) → ∀ k, orderedIn (masks ops) k j = true → listed.getD k false = true := by
  intro j
  induction j using Nat.strongRecOn with
  | _ j ih =>
    intro o ho hp k hk
    obtain ⟨e, he, hb, h⟩ := masks_bit ho hk
    have hl := hp e he hb
    rcases h with rfl | ⟨h1, h2, h3⟩
    · exact hl
    · have ho' : ops[e.on]? = some ops[e.on] := Array.getElem?_eq_getElem h2
      exact ih e.on h1 _ ho' (hd _ _ ho' hl) k h3

theorem textOk_spec (h : textOk ops = true) : (∀ i j, i < j → j < ops.size → pairOk ops (masks ops) i j = true) ∧ (∀ j o, ops[j]? = some o → ∀ e ∈ o.after.toList, Region.binds .any e = true → e.on < j) := by
  unfold textOk at h
  simp only [Bool.and_eq_true, List.all_eq_true, List.mem_range] at h
  obtain ⟨h1, h2⟩ := h
  refine ⟨fun i j hij hj => ?_, fun j o ho e he hb => ?_⟩
  · have := h1 j hj i (by omega)
    have hb : Nat.blt i j = true := by simp [Nat.blt_eq, hij]
    simpa [hb] using this
  · have hj : j < ops.size := (Array.getElem?_eq_some_iff.1 ho).1
    have := h2 j hj
    rw [ho] at this
    simp only [Bool.and_eq_true, List.all_eq_true] at this
    have h3 := this.1 e he
    rw [hb] at h3
    simp only [Bool.not_true, Bool.false_or] at h3
    exact Nat.le_of_ble_eq_true h3

end

section
variable {P : Program} {pf : List (FuncId × Value)} {R : Run} {ops : Array Oper} {N0 : Nat} {w0 : World} {F : Fence} {n : Nat}

/-- What is left to do, and what is listed. -/
structure Left (ops : Array Oper) (listed : Array Bool) (xs : List (Rec × Value)) : Prop where
  size : listed.size = ops.size
  sorted : (xs.map (·.1.i)).Pairwise (· < ·)
  mem : ∀ j, j < ops.size → (listed.getD j false = false ↔ j ∈ xs.map (·.1.i))
  lt : ∀ x ∈ xs, x.1.i < ops.size
  pair : xs.Pairwise fun x y => orderedIn (masks ops) x.1.i y.1.i = true ∨ clashes x.1.ext y.1.ext = false
  down : Down ops listed

theorem draw_any (hm : textOk ops = true) (hpf : Known P pf) (hR : SoundR P N0 w0 R) (hL : ∀ c fr, Local (R c fr)) (hF : Wide F) {Q : Exit → Act → World → Prop} {fr' : Fr} {f' : HF} : ∀ (fuel : Nat) (listed : Array Bool) (xs : List (Rec × Value)) (fr : Fr)
    (f : HF) (σ : Ren) (a : Act) (w : World), xs.length ≤ fuel → Left ops listed xs → Chain P pf R ops xs fr f fr' f' → FrR σ fr a → WR P N0 w0 σ f w →
    (∀ τ a' w', σ.le τ → FrR τ fr' a' → WR P N0 w0 τ f' w' → Q .normal a' w') → wpAnyIn F n P .any ops Q fuel listed a w := by
  obtain ⟨tx, te⟩ := textOk_spec hm
  have done : ∀ (listed : Array Bool) (xs : List (Rec × Value)), Left ops listed xs → Region.ready .any ops listed = [] → xs = [] := by
    intro listed xs hl hr
    cases xs with
    | nil => rfl
    | cons x l =>
      exfalso
      have hx := hl.lt x (by simp)
      have ho : ops[x.1.i]? = some ops[x.1.i] := Array.getElem?_eq_getElem hx
      have hin : x.1.i ∈ Region.ready .any ops listed := by
        rw [mem_ready]
        have h0 := (hl.mem x.1.i hx).2 (by simp)
        refine ⟨?_, _, ho, fun e he hb => ?_⟩
        · have h2 : x.1.i < listed.size := by rw [hl.size]; exact hx
          simp only [Array.getD, h2, dif_pos] at h0 ⊢
          exact h0
        · have hlt := te _ _ ho e (by simpa using he) hb
          cases hb2 : listed.getD e.on false with
          | true => rfl
          | false =>
            have := (hl.mem e.on (by omega)).1 hb2
            have hs := hl.sorted
            simp only [List.map_cons, List.pairwise_cons, List.mem_cons] at hs this
            rcases this with h3 | h3
            · omega
            · have := hs.1 _ h3; omega
      rw [hr] at hin
      cases hin
  intro fuel
  induction fuel with
  | zero =>
    intro listed xs fr f σ a w hlen hl hc rf W hQ
    have : xs = [] := List.length_eq_zero_iff.1 (by omega)
    subst this
    obtain ⟨rfl, rfl⟩ := hc
    refine ⟨?_, hQ σ a w σ.le_refl rf W⟩
    apply List.eq_nil_iff_forall_not_mem.2
    intro i hi
    rw [mem_ready] at hi
    obtain ⟨h1, o, ho, _⟩ := hi
    have hi2 : i < ops.size := (Array.getElem?_eq_some_iff.1 ho).1
    have h2 : i < listed.size := by rw [hl.size]; exact hi2
    have h3 : listed.getD i false = false := by
      simp only [Array.getD, h2, dif_pos] at h1 ⊢
      exact h1
    have := (hl.mem i hi2).1 h3
    simp at this
  | succ fuel ih =>
    intro listed xs fr f σ a w hlen hl hc rf W hQ
    refine ⟨fun hr => ?_, fun i hi => ?_⟩
    · have := done listed xs hl hr
      subst this
      obtain ⟨rfl, rfl⟩ := hc
      exact hQ σ a w σ.le_refl rf W
    · rw [mem_ready] at hi
      obtain ⟨h1, o, ho, hpre⟩ := hi
      have hi2 : i < ops.size := (Array.getElem?_eq_some_iff.1 ho).1
      have h2 : i < listed.size := by rw [hl.size]; exact hi2
      have h3 : listed.getD i false = false := by
        simp only [Array.getD, h2, dif_pos] at h1 ⊢
        exact h1
      have hmem := (hl.mem i hi2).1 h3
      obtain ⟨x, hx, rfl⟩ := List.mem_map.1 hmem
      obtain ⟨l, k, rfl⟩ := List.append_of_mem hx
      have hsort := hl.sorted
      simp only [List.map_append, List.map_cons, List.pairwise_append, List.pairwise_cons, List.mem_map, List.mem_cons] at hsort
      have hfree : ∀ y ∈ l, Free ops y.1 x.1 := by
        intro y hy
        have hlt : y.1.i < x.1.i := hsort.2.2 _ ⟨y, hy, rfl⟩ _ (.inl rfl)
        have hyl : listed.getD y.1.i false = false := (hl.mem _ (by omega)).2 (by simp; exact .inl ⟨y.1, ⟨y.2, hy⟩, rfl⟩)
        have hord : orderedIn (masks ops) y.1.i x.1.i = false := by
          cases hb : orderedIn (masks ops) y.1.i x.1.i with
          | false => rfl
          | true =>
            have := bits_listed hl.down _ _ ho (fun e he hb => hpre e (by simpa using he) hb) _ hb
            rw [hyl] at this; cases this
        have hcl : clashes y.1.ext x.1.ext = false := by
          have := (List.pairwise_append.1 hl.pair).2.2 y hy x (by simp)
          rcases this with h | h
          · rw [hord] at h; cases h
          · exact h
        have hpk := tx _ _ hlt hi2
        unfold pairOk at hpk
        rw [hord] at hpk
        have hoy : ops[y.1.i]? = some (ops[y.1.i]'(by omega)) := Array.getElem?_eq_getElem (by omega)
        rw [hoy, ho] at hpk
        simp only [Bool.false_or, Bool.and_eq_true] at hpk
        obtain ⟨a1, a2, a3⟩ := Oper.apart_spec hpk.1
        refine ⟨fun q hq d hd => ?_, fun q hq d hd => ?_, fun d hd => ?_, clashes_false hcl⟩
        · rw [ho] at hq; cases hq
          simp only [dstOf, hoy, Option.bind_some] at hd
          exact a1 d hd
        · rw [hoy] at hq; cases hq
          simp only [dstOf, ho, Option.bind_some] at hd
          exact a3 d hd
        · simp only [dstOf, hoy, ho, Option.bind_some] at hd ⊢
          exact a2 d hd
      obtain ⟨⟨h0, rfl⟩, hx', hc'⟩ := hoist hL x l k _ _ _ _ hfree hc
      obtain ⟨s', r, n1, l1, p1⟩ := hx' ⟨h0, x.1.lo, []⟩ rfl rfl
      have hop : evOpAt P pf R ops fr x.1.i ⟨h0, x.1.lo, []⟩ = some (fr.put (dstOf ops x.1.i) x.2, s') := by
        rw [evOpAt_val]
        unfold M.bind
        rw [r]
        rfl
      refine evOpAt_ok hpf hR hop hF rf W fun τ a' w' hle rf' W' => ?_
      rw [p1] at W'
      refine ih (listed.setIfInBounds x.1.i true) (l ++ k) _ _ τ a' w' (by simp at hlen ⊢; omega) ?_ hc' rf' W' (fun υ a2 w2 hle2 => hQ υ a2 w2 (Ren.le_trans hle hle2))
      have hset : ∀ j, (listed.setIfInBounds x.1.i true).getD j false = if j = x.1.i then true else listed.getD j false := by
        intro j
        simp only [Array.getD_eq_getD_getElem?]
        by_cases hj : j = x.1.i
        · subst hj; rw [if_pos rfl]; simp [h2]
        · rw [if_neg hj, Array.getElem?_setIfInBounds_ne (Ne.symm hj)]
      refine ⟨by simp [hl.size], ?_, fun j hj => ?_, fun y hy => hl.lt y (by rcases List.mem_append.1 hy with h | h <;> simp [h]), ?_, ?_⟩
      · simp only [List.map_append, List.pairwise_append, List.mem_map]
        exact ⟨hsort.1, hsort.2.1.2, fun a ha b hb => hsort.2.2 a ha b (.inr hb)⟩
      · rw [hset j]
        by_cases hjx : j = x.1.i
        · rw [if_pos hjx]
          subst hjx
          refine ⟨fun h => (by cases h), fun h => ?_⟩
          exfalso
          simp only [List.map_append, List.mem_append, List.mem_map] at h
          rcases h with h | ⟨y, hy, e⟩
          · obtain ⟨y, hy, e⟩ := h
            have := hsort.2.2 _ ⟨y, hy, rfl⟩ x.1.i (.inl rfl)
            omega
          · have := hsort.2.1.1 y.1.i ⟨y, hy, rfl⟩
            omega
        · rw [if_neg hjx, hl.mem j hj]
          simp only [List.map_append, List.map_cons, List.mem_append, List.mem_cons]
          constructor
          · rintro (h | h | h)
            · exact .inl h
            · exact absurd h hjx
            · exact .inr h
          · rintro (h | h)
            · exact .inl h
            · exact .inr (.inr h)
      · have hp := List.pairwise_append.1 hl.pair
        exact List.pairwise_append.2 ⟨hp.1, (List.pairwise_cons.1 hp.2.1).2, fun y hy z hz => hp.2.2 y hy z (by simp [hz])⟩
      · intro j q hq hj e he hb
        rw [hset] at hj ⊢
        by_cases hje : e.on = x.1.i
        · rw [if_pos hje]
        · rw [if_neg hje]
          by_cases hjx : j = x.1.i
          · subst hjx
            rw [ho] at hq; cases hq
            exact hpre e (by simpa using he) hb
          · rw [if_neg hjx] at hj
            exact hl.down j q hq hj e he hb

theorem against_spec {ms : List Nat} {x : Rec} : ∀ {l : List Rec}, againstAll ms x l = true → ∀ y ∈ l, orderedIn ms x.i y.i = true ∨ clashes x.ext y.ext = false
  | [], _, y, hy => by cases hy
  | z :: l, h, y, hy => by
    unfold againstAll at h
    cases hb : (orderedIn ms x.i z.i || apartRec x z) with
    | false => rw [hb] at h; cases h
    | true =>
      rw [hb] at h
      rcases List.mem_cons.1 hy with rfl | hy
      · simp only [Bool.or_eq_true, apartRec, Bool.not_eq_true'] at hb
        exact hb
      · exact against_spec h y hy
theorem apart_spec {ms : List Nat} : ∀ {l : List Rec}, allApart ms l = true → l.Pairwise fun x y => orderedIn ms x.i y.i = true ∨ clashes x.ext y.ext = false
  | [], _ => List.Pairwise.nil
  | x :: l, h => by
    unfold allApart at h
    cases hb : againstAll ms x l with
    | false => rw [hb] at h; cases h
    | true =>
      rw [hb] at h
      exact List.pairwise_cons.2 ⟨against_spec hb, apart_spec h⟩

theorem drawM_ok (hmix : P.follows .mixedOrders = true) (hpf : Known P pf) (hR : SoundR P N0 w0 R) (hL : ∀ c fr, Local (R c fr)) (hF : Wide F) {id : Nat} {fr fr' : Fr} {s s' : HS} (h : drawM P pf R ops fr s = some (fr', s')) {σ : Ren} {a : Act} {w : World}
    (rf : FrR σ fr a) (W : WR P N0 w0 σ s.h.get w) : (Code.region id ops true).wpIn F n P (Post P N0 w0 σ .normal fr' s') a w := by
  unfold drawM at h
  cases ht : textOk ops with
  | false => rw [ht] at h; cases h
  | true =>
    rw [ht] at h
    have h : (match drawGo P pf R ops (List.range ops.size) fr s with
      | none => none
      | some ((fr', recs), s') => cond (allApart (masks ops) recs) (some (fr', s')) none) = some (fr', s') := h
    cases h1 : drawGo P pf R ops (List.range ops.size) fr s with
    | none => rw [h1] at h; cases h
    | some p =>
      obtain ⟨⟨fr1, recs⟩, s1⟩ := p
      rw [h1] at h
      dsimp only at h
      cases hc : allApart (masks ops) recs with
      | false => rw [hc] at h; cases h
      | true =>
        rw [hc] at h
        cases h
        obtain ⟨xs, e1, e2, hch⟩ := chain_of hL h1
        refine wpIn_region_any hmix ?_
        have hidx : xs.map (·.1.i) = List.range ops.size := by
          rw [← e2, ← e1, List.map_map]; rfl
        have hlen : xs.length = ops.size := by
          have := congrArg List.length hidx
          simpa using this
        have hfalse : ∀ j, (Array.replicate ops.size false).getD j false = false := by
          intro j
          simp only [Array.getD_eq_getD_getElem?, Array.getElem?_replicate]
          split <;> rfl
        refine draw_any ht hpf hR hL hF ops.size (Array.replicate ops.size false) xs fr _ σ a _ (by omega) ?_ hch rf W.drew (fun τ a' w' hle rf' W' => ⟨rfl, τ, hle, rf', W'⟩)
        refine ⟨by simp, by rw [hidx]; exact List.pairwise_lt_range, fun j hj => ⟨fun _ => by rw [hidx]; exact List.mem_range.2 hj, fun _ => hfalse j⟩, fun x hx => ?_, ?_, fun j o _ hj => ?_⟩
        · have : x.1.i ∈ xs.map (·.1.i) := List.mem_map.2 ⟨x, hx, rfl⟩
          rw [hidx] at this
          exact List.mem_range.1 this
        · have := apart_spec hc
          rw [← e1, List.pairwise_map] at this
          exact this
        · rw [hfalse j] at hj; cases hj

theorem drawGo_round : ∀ {l : List Nat} {fr fr' : Fr} {s s' : HS} {recs : List Rec}, drawGo P pf R ops l fr s = some ((fr', recs), s') → fr'.round = fr.round
  | [], fr, fr', s, s', recs, h => by cases M.pure_some h; rfl
  | i :: l, fr, fr', s, s', recs, h => by
    rw [drawGo_eq] at h
    cases h1 : evOpAt P pf R ops fr i ⟨s.h, s.next, []⟩ with
    | none => rw [h1] at h; cases h
    | some p =>
      obtain ⟨fr1, s1⟩ := p
      rw [h1] at h
      dsimp only at h
      cases h2 : drawGo P pf R ops l fr1 ⟨s1.h, s1.next, s1.log ++ s.log⟩ with
      | none => rw [h2] at h; cases h
      | some p =>
        obtain ⟨⟨fr2, recs2⟩, s2⟩ := p
        rw [h2] at h
        cases h
        exact (drawGo_round h2).trans (evOpAt_round h1)
theorem drawM_round {fr fr' : Fr} {s s' : HS} (h : drawM P pf R ops fr s = some (fr', s')) : fr'.round = fr.round := by
  unfold drawM at h
  cases ht : textOk ops with
  | false => rw [ht] at h; cases h
  | true =>
    rw [ht] at h
    have h : (match drawGo P pf R ops (List.range ops.size) fr s with
      | none => none
      | some ((fr', recs), s') => cond (allApart (masks ops) recs) (some (fr', s')) none) = some (fr', s') := h
    cases h1 : drawGo P pf R ops (List.range ops.size) fr s with
    | none => rw [h1] at h; cases h
    | some p =>
      obtain ⟨⟨fr1, recs⟩, s1⟩ := p
      rw [h1] at h
      dsimp only at h
      cases hc : allApart (masks ops) recs with
      | false => rw [hc] at h; cases h
      | true => rw [hc] at h; cases h; exact drawGo_round h1

end
end Go.Proofs.YtkiakphfgdkdiaaGreat
