/-
  Stage: StageMax.
-/
import Derived.Test.YtngjecbdajognaaDoorStgJ
namespace Go.Proofs.YtngjecbdajognaaDoor
open Go.RowKit

theorem Keep.b {w w' : World} (h : Keep (fun _ => False) w w') : Below w.heap.size w w' := h.below (Nat.le_refl _) (fun _ h => h.elim)
set_option maxRecDepth 100000 in
set_option maxHeartbeats 2000000 in
theorem walkStageMax (a : Int) (_wa : (Lit.int .u8 a).wf = true) (b : Int) (_wb : (Lit.int .u8 b).wf = true) (c : Int) (_wc : (Lit.int .u8 c).wf = true) (w : World) (hL : Laid w) :
    Calls Tryd.prog 5 #[.int .u8 a, .int .u8 b, .int .u8 c] w fun e w' => e = .returned (.bool true) ∧ Below w.heap.size w w' := by
  have HL := Lib.hid hL
  have e1 : (max a b == max b a) = true := beq_iff_eq.2 (by omega)
  have e2 : (max (max a b) c == max a (max b c)) = true := beq_iff_eq.2 (by omega)
  have e3 : (max a a == a) = true := by simp
  have e5 : decide (max a b ≥ a) = true := decide_eq_true (by omega)
  have e6 : decide (max a b ≥ b) = true := decide_eq_true (by omega)
  have e4 : (max a b == a) = true ∨ ((max a b == a) = false ∧ (max a b == b) = true) := by
    by_cases h : max a b = a
    · left; simp [h]
    · right; simp; omega
  have E1 := Lib.hid e1
  have E2 := Lib.hid e2
  have E3 := Lib.hid e3
  clear hL e1 e2 e3
  go_enter Tryd.func5, Tryd.ntmps5
  go_wp2_with fail
  refine (max_any _ _ _).mono ?_
  rintro e wx ⟨rfl, hw⟩
  rw [hw]; clear hw wx
  go_wp2_with fail
  refine (awake_any _ HL.out).mono ?_
  rintro e w1 ⟨rfl, hk⟩
  have HK := Lib.hid hk
  clear hk
  go_wp2_with fail
  refine (max_any _ _ _).mono ?_
  rintro e wx ⟨rfl, hw⟩
  rw [hw]; clear hw wx
  have q1 := E1.out
  go_wp2_with fail
  refine (max_any _ _ _).mono ?_
  rintro e wx ⟨rfl, hw⟩
  rw [hw]; clear hw wx q1
  go_wp2_with fail
  refine (max_any _ _ _).mono ?_
  rintro e wx ⟨rfl, hw⟩
  rw [hw]; clear hw wx
  go_wp2_with fail
  refine (max_any _ _ _).mono ?_
  rintro e wx ⟨rfl, hw⟩
  rw [hw]; clear hw wx
  have q2 := E2.out
  go_wp2_with fail
  refine (max_any _ _ _).mono ?_
  rintro e wx ⟨rfl, hw⟩
  rw [hw]; clear hw wx q2
  have q3 := E3.out
  rcases e4 with e4 | ⟨e4, e7⟩
  · go_wp2
    go_ret
    exact ⟨rfl, HK.out.b⟩
  · go_wp2
    go_ret
    exact ⟨rfl, HK.out.b⟩
end Go.Proofs.YtngjecbdajognaaDoor
