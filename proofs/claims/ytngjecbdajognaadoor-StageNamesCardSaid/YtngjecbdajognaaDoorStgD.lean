/-
  Stage: the ways, as a plain model; what the closure keeps.
-/
import Derived.Test.YtngjecbdajognaaDoorStgC
import Derived.Test.YtngjecbdajognaaDoorCloneB
import Derived.Deep.RegionHeld3
namespace Go.Proofs.YtngjecbdajognaaDoor
open Go.RowKit

/-- all ways by edges from a to 'to', as what stands behind a; d falls (8 ≤ d + a suffices) -/
def waysT (to : Nat) : Nat → Nat → List (List Nat)
  | 0, a => if a = to then [[]] else []
  | d + 1, a => if a = to then [[]] else (nextT a).flatMap fun s => (waysT to d s).map (s :: ·)
theorem nextT_gt (a s : Nat) (h : s ∈ nextT a) : a < s ∧ s < 8 := by
  simp only [nextT, nx, List.mem_filter, List.mem_range, decide_eq_true_eq] at h
  refine ⟨?_, h.1⟩
  apply Nat.lt_of_not_le
  intro hle
  apply h.2
  by_cases ha : a < 8
  · have : ∀ a, a < 8 → ∀ s, s < 8 → s ≤ a → edgeT a s = 0 := by decide
    exact this a ha s h.1 hle
  · exact edgeT_far a s (.inl (by omega))
theorem nextT_far (a : Nat) (h : 8 ≤ a) : nextT a = [] := by
  apply List.eq_nil_iff_forall_not_mem.2
  intro s hs
  have := nextT_gt a s hs
  omega

/-- The box of the ways that are found: a slice whose i-th element is a slice of row rows[i] with the bytes of outs[i]. -/
structure Outs (w : World) (bo : Nat) (orow : Option Nat) (rows : List (Option Nat)) (outs : List (List Nat)) : Prop where
  len : rows.length = outs.length
  box : ∃ A c vals, Blk w bo 27 #[.slice A outs.length c] ∧ Sl w 25 orow A outs.length c vals ∧
    ∀ i, i < outs.length → ∃ A' c', vals[i]? = some (.slice A' (outs.getD i []).length c') ∧ Sl w 5 (rows.getD i none) A' (outs.getD i []).length c' (u8s (outs.getD i []))
theorem Outs.keep {S : Nat → Prop} {w w' : World} {bo : Nat} {orow : Option Nat} {rows : List (Option Nat)} {outs : List (List Nat)} (h : Outs w bo orow rows outs) (hk : Keep S w w') (h1 : ¬ S bo) (h2 : ∀ g, orow = some g → ¬ S g) (h3 : ∀ r ∈ rows, ∀ g, r = some g → ¬ S g) : Outs w' bo orow rows outs := by
  obtain ⟨hl, A, c, vals, hb, hs, hv⟩ := h
  refine ⟨hl, A, c, vals, hb.keep hk h1, hs.keep hk h2, fun i hi => ?_⟩
  obtain ⟨A', c', k1, k2⟩ := hv i hi
  refine ⟨A', c', k1, k2.keep hk (fun g hg => h3 _ ?_ g hg)⟩
  rw [List.getD, List.getElem?_eq_getElem (by omega)]
  exact List.getElem_mem _
end Go.Proofs.YtngjecbdajognaaDoor
