/-
  Stage: the small functions.
-/
import Derived.Test.YtngjecbdajognaaDoorStgA
import Derived.WalkKit
import Derived.WalkSpells
import Derived.WalkLawsBesides
import Derived.Lib.Hide
import Derived.Deep.QuietTactic
import Derived.BigQuiet
import Derived.BigRegion
namespace Go.Proofs.YtngjecbdajognaaDoor
open Go.RowKit

theorem edgeT_far (f t : Nat) (h : 8 ≤ f ∨ 8 ≤ t) : edgeT f t = 0 := by
  unfold edgeT
  rcases h with h | h
  · have : TBL.getD f [] = [] := by simp [List.getD, List.getElem?_eq_none (show TBL.length ≤ f from h)]
    rw [this]; rfl
  · have hl : ∀ r ∈ TBL, r.length = 8 := by decide
    by_cases hf : f < TBL.length
    · have : TBL.getD f [] = TBL[f] := by simp [List.getD, hf]
      rw [this]
      have h8 := hl _ (List.getElem_mem hf)
      simp [List.getD, List.getElem?_eq_none (show TBL[f].length ≤ t by omega)]
    · have : TBL.getD f [] = [] := by simp [List.getD, List.getElem?_eq_none (Nat.le_of_not_lt hf)]
      rw [this]; rfl

theorem edge_any (f t : Nat) (w : World) (hL : Laid w) :
    Calls Tryd.prog 9 #[.int .u8 f, .int .u8 t] w fun e w' => e = .returned (.int .u8 (edgeT f t)) ∧ w' = w := by
  by_cases hf : f < 8
  · by_cases ht : t < 8
    · have c0 := hL.1 f t hf ht
      clear hL
      generalize edgeT f t = x at c0 ⊢
      go_enter Tryd.func9, Tryd.ntmps9
      go_wp2
      go_ret
      exact ⟨rfl, rfl⟩
    · rw [edgeT_far f t (.inr (by omega))]
      clear hL
      go_enter Tryd.func9, Tryd.ntmps9
      go_wp2
      go_ret
      exact ⟨rfl, rfl⟩
  · rw [edgeT_far f t (.inl (by omega))]
    clear hL
    go_enter Tryd.func9, Tryd.ntmps9
    go_wp2
    go_ret
    exact ⟨rfl, rfl⟩

theorem may_any (s : Nat) (w : World) : Calls Tryd.prog 10 #[.int .u8 s] w fun e w' => e = .returned (.bool (decide (1 ≤ s ∧ s ≤ 7))) ∧ w' = w := by
  go_enter Tryd.func10, Tryd.ntmps10
  go_wp2
  all_goals
    go_ret
    refine ⟨ret_bool ?_, rfl⟩
    rw [Bool.eq_iff_iff]
    simp
    omega
theorem max_any (a b : Int) (w : World) : Calls Tryd.prog 14 #[.int .u8 a, .int .u8 b] w fun e w' => e = .returned (.int .u8 (max a b)) ∧ w' = w := by
  go_enter Tryd.func14, Tryd.ntmps14
  go_wp2
  all_goals
    go_ret
    exact ⟨ret_int (by omega), rfl⟩
end Go.Proofs.YtngjecbdajognaaDoor
