/-
  What a look at some does, plainly.
-/
import Derived.Test.YtenphdgnaknbeaaWatA
namespace Go.Proofs.Ytenphdgnaknbeaa

def lookD (nd : D) (m : M) (x : ID) : D := (m x).getD nd
/-- behind the first q of ids -/
def midM (nd : D) (m : M) (ids : List ID) (q : Nat) : M := fun x => if x ∈ ids.take q then some (lookD nd m x) else if x ∈ ids then m x else none
def lookM (nd : D) (m : M) (ids : List ID) : M := fun x => if x ∈ ids then some (lookD nd m x) else none
def lateL (nd : D) (m : M) (now : Int) (ids : List ID) : List ID := ids.filter (fun x => (lookD nd m x).late now)
theorem midM_zero (nd : D) (m : M) (ids : List ID) : midM nd m ids 0 = fun x => if x ∈ ids then m x else none := by
  funext x
  simp [midM]
theorem midM_all (nd : D) (m : M) (ids : List ID) : midM nd m ids ids.length = lookM nd m ids := by
  funext x
  unfold midM lookM
  rw [List.take_length]
  split <;> rfl
section
variable {nd : D} {m : M} {ids : List ID} {q : Nat} (hq : q < ids.length)
include hq
theorem getD_mem : ids.getD q (0, 0) ∈ ids := by
  have : ids.getD q (0, 0) = ids[q] := by simp [List.getD, hq]
  rw [this]; exact List.getElem_mem hq
theorem mem_take_next (x : ID) : x ∈ ids.take (q + 1) ↔ x ∈ ids.take q ∨ x = ids.getD q (0, 0) := by
  have : ids.getD q (0, 0) = ids[q] := by simp [List.getD, hq]
  rw [this, List.take_succ_eq_append_getElem hq, List.mem_append, List.mem_singleton]
theorem midM_new (h : midM nd m ids q (ids.getD q (0, 0)) = none) : lookD nd m (ids.getD q (0, 0)) = nd ∧ midM nd m ids (q + 1) = updM (midM nd m ids q) (ids.getD q (0, 0)) nd := by
  have hm := getD_mem hq
  have hn : ids.getD q (0, 0) ∉ ids.take q := by
    intro e
    unfold midM at h
    rw [if_pos e] at h
    cases h
  have h0 : m (ids.getD q (0, 0)) = none := by
    unfold midM at h
    rw [if_neg hn, if_pos hm] at h; exact h
  have hl : lookD nd m (ids.getD q (0, 0)) = nd := by unfold lookD; rw [h0]; rfl
  refine ⟨hl, ?_⟩
  funext x
  unfold updM
  by_cases e : x = ids.getD q (0, 0)
  · rw [if_pos e]
    unfold midM
    rw [if_pos ((mem_take_next hq x).2 (.inr e)), e, hl]
  · rw [if_neg e]
    unfold midM
    by_cases e2 : x ∈ ids.take q
    · rw [if_pos e2, if_pos ((mem_take_next hq x).2 (.inl e2))]
    · rw [if_neg e2, if_neg (fun e3 => ((mem_take_next hq x).1 e3).elim e2 e)]
theorem midM_old {d : D} (h : midM nd m ids q (ids.getD q (0, 0)) = some d) : lookD nd m (ids.getD q (0, 0)) = d ∧ midM nd m ids (q + 1) = midM nd m ids q := by
  have hm := getD_mem hq
  have hl : lookD nd m (ids.getD q (0, 0)) = d := by
    unfold midM at h
    split at h
    · injection h
    · unfold lookD; rw [h]; rfl
  refine ⟨hl, ?_⟩
  funext x
  by_cases e : x = ids.getD q (0, 0)
  · rw [e, h]
    unfold midM
    rw [if_pos ((mem_take_next hq _).2 (.inr rfl)), hl]
  · unfold midM
    by_cases e2 : x ∈ ids.take q
    · rw [if_pos e2, if_pos ((mem_take_next hq x).2 (.inl e2))]
    · rw [if_neg e2, if_neg (fun e3 => ((mem_take_next hq x).1 e3).elim e2 e)]
theorem late_next (nd : D) (m : M) (now : Int) : lateL nd m now (ids.take (q + 1)) = lateL nd m now (ids.take q) ++ if (lookD nd m (ids.getD q (0, 0))).late now then [ids.getD q (0, 0)] else [] := by
  have : ids.getD q (0, 0) = ids[q] := by simp [List.getD, hq]
  rw [this]
  unfold lateL
  rw [List.take_succ_eq_append_getElem hq, List.filter_append]
  congr 1
  cases h : (lookD nd m ids[q]).late now <;> simp [h]
end
theorem lateL_len (nd : D) (m : M) (now : Int) (ids : List ID) (q : Nat) : (lateL nd m now (ids.take q)).length ≤ q := Nat.le_trans (List.length_filter_le _ _) (List.length_take_le _ _)
/-- the loop that drops those who are not looked at -/
def dropM (m : M) (ids : List ID) (left : ID → Bool) : M := fun x => if left x || decide (x ∈ ids) then m x else none
theorem dropM_in {m : M} {ids : List ID} {left : ID → Bool} {x : ID} (h : x ∈ ids) : dropM m ids (fun y => left y && !decide (y = x)) = dropM m ids left := by
  funext y
  unfold dropM
  by_cases e : y = x
  · subst e; simp [h]
  · simp [e]
theorem dropM_out {m : M} {ids : List ID} {left : ID → Bool} {x : ID} (h : x ∉ ids) : dropM m ids (fun y => left y && !decide (y = x)) = fun y => if y = x then none else dropM m ids left y := by
  funext y
  unfold dropM
  by_cases e : y = x
  · subst e; simp [h]
  · simp [e]
theorem dropM_end {m : M} {ids : List ID} {left : ID → Bool} (nd : D) (h : ∀ x, left x = false) : dropM m ids left = midM nd m ids 0 := by
  rw [midM_zero]
  funext x
  simp [dropM, h]
theorem strike2 (left : ID → Bool) (x : ID) : (fun y => (left y && !decide (y = x)) && !decide (y = x)) = fun y => left y && !decide (y = x) := by
  funext y
  cases left y <;> cases decide (y = x) <;> rfl
end Go.Proofs.Ytenphdgnaknbeaa
