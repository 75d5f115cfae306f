/-
  An evaluator for closed calls: going over maps; all operations are local.
-/
import Derived.Test.YtkiakphfgdkdiaaGreatEvMp
namespace Go.Proofs.YtkiakphfgdkdiaaGreat
open Go Go.RowKit
set_option linter.unusedVariables false

section
variable {P : Program} {N0 : Nat} {w0 : World} {σ : Ren} {w : World}

theorem makeMap_sim {t : TypeId} : Sim P N0 w0 σ ((mNew (.map [] 0)).bind fun n => .pure (.map (some n))) (Instr.makeMap t none) := by
  intro s q s' w h W
  obtain ⟨n, s1, h1, h2⟩ := M.bind_some h
  cases M.pure_some h2
  obtain ⟨τ, hle, hn, hW⟩ := new_ok h1 W (.map #[] 0) 0 0 (fun τ hτ => ⟨rfl, rfl, fun i a b ha => by simp at ha⟩)
  refine ⟨τ, _, _, hle, ?_, .mp n _ hn, hW⟩
  simp [Instr.makeMap]

theorem range_sim {t : TypeId} {x x' : Value} (r : VR σ x x') : Sim P N0 w0 σ (rangeM P t x) (Instr.range t x') := by
  intro s q s' w h W
  unfold rangeM at h
  cases hd : pureRun P (underlying t) with
  | none => rw [hd] at h; cases h
  | some d =>
  rw [hd] at h
  cases d <;> try (cases h; done)
  have hD := pureRun_run _ _ hd w
  cases r <;> try (cases h; done)
  · obtain ⟨n, s1, h1, h2⟩ := M.bind_some h
    cases M.pure_some h2
    obtain ⟨τ, hle, hn, hW⟩ := new_ok h1 W (.mapIter none 0 #[] 0) 0 0 (fun τ hτ => ⟨rfl, rfl, rfl, rfl, .inl ⟨rfl, rfl⟩⟩)
    refine ⟨τ, _, _, hle, ?_, .ptr n 0 _ hn, hW⟩
    simp [Instr.range, hD]
  · rename_i m L hL
    dsimp only at h
    obtain ⟨ob, s1, h1, hh⟩ := M.bind_some h
    clear h
    have h := hh
    clear hh
    cases ob <;> try (cases h; done)
    rename_i es clock
    dsimp only at h
    obtain ⟨n, s2, h2, h3⟩ := M.bind_some h
    cases M.pure_some h3
    obtain ⟨e1, hg, hN, o', ho', hor⟩ := obj_ok h1 W hL (by intro e; cases e)
    cases o' <;> try (exact hor.elim)
    rename_i es' clock'
    obtain ⟨rfl, k2, k3⟩ := hor
    have W1 : WR P N0 w0 σ s1.h.get w := by rw [e1]; exact W
    have hobj := getObj_run (P := P) ho' (by intro c e f h; cases h)
    obtain ⟨τ, hle, hn, hW⟩ := new_ok h2 W1 (.mapIter (some L.b) clock #[] clock) 0 0 (fun τ hτ => ⟨rfl, rfl, rfl, rfl, .inr ⟨m, L, rfl, hτ _ _ hL, rfl⟩⟩)
    refine ⟨τ, _, _, hle, ?_, .ptr n 0 _ hn, hW⟩
    simp [Instr.range, hD, hobj]

theorem ER.cons_inv {a : MapEntry} {es es' : List MapEntry} (h : ER σ (a :: es) es') : ∃ b l, es' = b :: l ∧ VR σ a.key b.key ∧ VR σ a.val b.val ∧ a.born = b.born ∧ ER σ es l := by
  cases es' with
  | nil => have := h.1; simp at this
  | cons b l =>
    obtain ⟨h1, h2, h3⟩ := h.2 0 a b rfl rfl
    exact ⟨b, l, rfl, h1, h2, h3, by have := h.1; simpa using this, fun i x y hx hy => h.2 (i + 1) x y (by simpa using hx) (by simpa using hy)⟩
theorem ER.nil_inv {es' : List MapEntry} (h : ER σ [] es') : es' = [] := by
  cases es' with
  | nil => rfl
  | cons b l => have := h.1; simp at this
theorem ER.cons {a b : MapEntry} {es es' : List MapEntry} (h1 : VR σ a.key b.key) (h2 : VR σ a.val b.val) (h3 : a.born = b.born) (h : ER σ es es') : ER σ (a :: es) (b :: es') :=
  ⟨by simp [h.1], fun i x y hx hy => by
    cases i with
    | zero => simp at hx hy; subst hx; subst hy; exact ⟨h1, h2, h3⟩
    | succ i => exact h.2 i x y (by simpa using hx) (by simpa using hy)⟩
theorem ER.filter (p : Nat → Bool) : ∀ {es es' : List MapEntry}, ER σ es es' → ER σ (es.filter fun e => p e.born) (es'.filter fun e => p e.born)
  | [], es', h => by rw [h.nil_inv]; exact ⟨rfl, fun i a b ha => by simp at ha⟩
  | a :: es, es', h => by
    obtain ⟨b, l, rfl, h1, h2, h3, h4⟩ := h.cons_inv
    simp only [List.filter_cons, h3]
    split
    · exact .cons h1 h2 h3 (ER.filter p h4)
    · exact ER.filter p h4
theorem ER.all (p : Nat → Bool) : ∀ {es es' : List MapEntry}, ER σ es es' → (es.all fun e => p e.born) = es'.all fun e => p e.born
  | [], es', h => by rw [h.nil_inv]
  | a :: es, es', h => by
    obtain ⟨b, l, rfl, h1, h2, h3, h4⟩ := h.cons_inv
    simp only [List.all_cons, h3, ER.all p h4]

theorem next_sim {ty : TypeId} {x x' : Value} {b : Bool} (r : VR σ x x') : Sim P N0 w0 σ (nextM x b) (Instr.next x' b ty) := by
  intro s q s' w h W
  unfold nextM at h
  cases r <;> try (cases h; done)
  rename_i n off L hL
  cases off with
  | succ off => cases h
  | zero =>
  cases b with
  | true => cases h
  | false =>
  obtain ⟨ob, s1, h1, hh⟩ := M.bind_some h
  clear h
  have h := hh
  clear hh
  cases ob <;> try (cases h; done)
  rename_i m since seen last
  obtain ⟨e1, hg, hN, o', ho', hor⟩ := obj_ok h1 W hL (by intro e; cases e)
  have hobj1 := fun (hn : ∀ c e f, o' ≠ .cells c e f) => getObj_run (P := P) ho' hn
  have W1 : WR P N0 w0 σ s1.h.get w := by rw [e1]; exact W
  have hg1 : s1.h.get n = some (.iter m since seen last) := by rw [e1]; exact hg
  have hlt : L.b < w.heap.size := (Array.getElem?_eq_some_iff.1 ho').1
  cases o' <;> try (exact hor.elim)
  rename_i m' since' seen' last'
  obtain ⟨hs0, rfl, rfl, rfl, hm⟩ := hor
  have hobj := hobj1 (by intro c e f h; cases h)
  have hfalse : LR σ [.bool false] [.bool false] := .cons (.bool _) (.nil σ)
  have hat : (⟨L.b, L.s + 0, none⟩ : Addr) = ⟨L.b, 0, none⟩ := by rw [hs0]
  rw [hat]
  cases m with
  | none =>
    rcases hm with ⟨_, rfl⟩ | ⟨r, lr, e, _⟩
    · dsimp only at h
      cases M.pure_some h
      refine ⟨σ, .tuple #[.bool false], w, σ.le_refl, ?_, .tup _ _ hfalse.1 hfalse.2, W1⟩
      simp [Instr.next, hobj]
    · cases e
  | some m =>
    rcases hm with ⟨e, _⟩ | ⟨r, lr, e, hlr, rfl⟩
    · cases e
    cases e
    dsimp only at h
    obtain ⟨ob, s2, h2, hh⟩ := M.bind_some h
    clear h
    have h := hh
    clear hh
    cases ob <;> try (cases h; done)
    rename_i es clock
    dsimp only at h
    obtain ⟨e2, hg2, hN2, o2, ho2, hor2⟩ := obj_ok h2 W1 hlr (by intro e; cases e)
    have W2 : WR P N0 w0 σ s2.h.get w := by rw [e2]; exact W1
    cases o2 <;> try (exact hor2.elim)
    rename_i es' clock'
    obtain ⟨rfl, k2, k3⟩ := hor2
    have hER : ER σ es es'.toList := ⟨by simpa using k2, k3⟩
    have hobj2 := getObj_run (P := P) ho2 (by intro c e f h; cases h)
    cases hc : (!seen'.toList.isEmpty && !es.isEmpty && es.all (fun e => decide (e.born ≥ last))) with
    | true => rw [hc] at h; cases h
    | false =>
    rw [hc] at h
    simp only [cond_false] at h
    have hemp : es.isEmpty = es'.isEmpty := by
      cases es with
      | nil => have : es'.size = 0 := by rw [← k2]; rfl
               simp [Array.isEmpty, this]
      | cons a l => have : es'.size ≠ 0 := by rw [← k2]; simp
                    simp [Array.isEmpty, this]
    have hc' : (!seen'.isEmpty && !es'.isEmpty && es'.all (fun e => decide (e.born ≥ last))) = false := by
      rw [← hc, hemp]
      congr 1
      · congr 2
        simp
      · rw [hER.all (fun n => decide (n ≥ last))]
        simp
    have hfil := hER.filter (fun n => !seen'.toList.contains n)
    have hleft : (es'.filter fun e => !seen'.contains e.born) = ((es'.toList.filter fun e => !seen'.toList.contains e.born)).toArray := by
      apply Array.ext'
      simp
    cases hl : es.filter (fun e => !seen'.toList.contains e.born) with
    | nil =>
      rw [hl] at h hfil
      dsimp only at h
      cases M.pure_some h
      have hnil := hfil.nil_inv
      refine ⟨σ, .tuple #[.bool false], w, σ.le_refl, ?_, .tup _ _ hfalse.1 hfalse.2, W2⟩
      have hle0 : (es'.filter fun e => !seen'.contains e.born) = #[] := by rw [hleft, hnil]
      simp only [Instr.next, Sem.run_bind, hobj, Result.andThen_ok, hobj2, hc', Bool.false_eq_true, if_false, hle0]
      simp [Question.forced]
    | cons e rest =>
      rw [hl] at h hfil
      cases rest with
      | cons _ _ => cases h
      | nil =>
      dsimp only at h
      cases hb : Nat.blt e.born since with
      | false => rw [hb] at h; cases h
      | true =>
      rw [hb] at h
      simp only [cond_true] at h
      have hb : e.born < since := Nat.le_of_ble_eq_true hb
      obtain ⟨_, s3, h3, h4⟩ := M.bind_some h
      cases M.pure_some h4
      obtain ⟨e', l, hl', hk, hv, hborn, hrest⟩ := hfil.cons_inv
      have hl2 := hrest.nil_inv
      subst hl2
      have hg2' : s2.h.get n = some (.iter (some m) since seen'.toList last) := by rw [e2]; exact hg1
      have hW := put_ok (p' := .mapIter (some lr.b) since (seen'.push e'.born) clock) h3 W2 hL hg2' (by intro e; cases e)
        ⟨hs0, rfl, by rw [hborn]; simp, rfl, .inr ⟨m, lr, rfl, hlr, rfl⟩⟩ (by intro e; cases e) hlt
      have htup : LR σ [.bool true, e.key, e.val] [.bool true, e'.key, e'.val] := .cons (.bool _) (.cons hk (.cons hv (.nil σ)))
      refine ⟨σ, .tuple #[.bool true, e'.key, e'.val], _, σ.le_refl, ?_, .tup _ _ htup.1 htup.2, hW⟩
      have hle1 : (es'.filter fun e => !seen'.contains e.born) = #[e'] := by rw [hleft, hl']
      have hb1 : e'.born < since := by rw [← hborn]; exact hb
      have hb2 : ¬ since ≤ e'.born := by omega
      simp only [Instr.next, Sem.run_bind, hobj, Result.andThen_ok, hobj2, hc', Bool.false_eq_true, if_false, hle1]
      simp [Question.forced, hb1, hb2, setObj_run ho' (by intro c e f h; cases h)]

end
end Go.Proofs.YtkiakphfgdkdiaaGreat
