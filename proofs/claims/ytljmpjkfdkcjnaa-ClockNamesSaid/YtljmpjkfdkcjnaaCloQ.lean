/-
  Clocks: forms that can be evaluated.
-/
import Derived.Test.YtljmpjkfdkcjnaaCloI
namespace Go.Proofs.Ytljmpjkfdkcjnaa
open Go.RowKit

theorem fold_putR : ∀ (l m : List ID), Ris m → Ris (l.foldl putR m) ∧ ∀ x, x ∈ l.foldl putR m ↔ x ∈ m ∨ x ∈ l
  | [], m, h => ⟨h, fun x => by simp⟩
  | y :: l, m, h => by
    have ih := fold_putR l (putR m y) (putR_ris h y)
    refine ⟨ih.1, fun x => ?_⟩
    rw [List.foldl_cons, ih.2, putR_mem, List.mem_cons]
    constructor
    · rintro ((h | h) | h)
      · exact .inr (.inl h)
      · exact .inl h
      · exact .inr (.inr h)
    · rintro (h | h | h)
      · exact .inl (.inr h)
      · exact .inl (.inl h)
      · exact .inr h
def setF (l : List ID) : List ID := l.foldl putR []
theorem setM_f (l : List ID) : setM l = setF l := by
  have h := fold_putR l [] ris_nil
  exact ris_ext (setM_ris l) h.1 (fun x => by rw [setM_mem]; unfold setF; rw [h.2]; simp)
def idsF (a b : List Tick) : List ID := setF (posI (a ++ b))
theorem idsM_f (a b : List Tick) : idsM a b = idsF a b := by rw [idsM_pos, setM_f]; rfl
def joinF' (a b : List Tick) : List Tick := (idsF a b).map (fun id => (id, max (getM a id) (getM b id)))
theorem joinM_f (a b : List Tick) : joinM a b = joinF' a b := by unfold joinM joinF'; rw [idsM_f]
def lessF (a b : List Tick) : Bool := (idsF a b).any (fun id => decide (getM a id < getM b id))
theorem lessM_f (a b : List Tick) : lessM a b = lessF a b := by unfold lessM lessF; rw [idsM_f]
def cmpF (a b : List Tick) : Int := if lessF a b = true ∧ lessF b a = true then 4 else if lessF a b = true then 2 else if lessF b a = true then 3 else 1
theorem cmpM_f (a b : List Tick) : cmpM a b = cmpF a b := by unfold cmpM cmpF; rw [lessM_f, lessM_f]
end Go.Proofs.Ytljmpjkfdkcjnaa
