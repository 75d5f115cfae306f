/-
  Stage: StageNames.
-/
import Derived.Test.YtngjecbdajognaaDoorStgL
namespace Go.Proofs.YtngjecbdajognaaDoor
open Go.RowKit

theorem name_in (s : Nat) (h : 1 ≤ s ∧ s ≤ 7) (w : World) (hL : Laid w) : Calls Tryd.prog 18 #[.int .u8 (s : Int)] w fun e w' => e = .returned (.string (nameAt s)) ∧ w' = w := by
  have hc := hL.2 s (by omega)
  have e1 : (⟨(NMS.getD s []).toArray⟩ : ByteArray) = nameAt s := rfl
  rw [e1] at hc
  clear hL e1
  generalize nameAt s = x at hc ⊢
  go_enter Tryd.func18, Tryd.ntmps18
  go_wp2_with fail
  refine (may_any s _).mono ?_
  rintro e wx ⟨rfl, hw⟩
  rw [hw]; clear hw wx
  rw [decide_eq_true h]
  go_wp2
  go_ret
  exact ⟨rfl, rfl⟩
theorem name_out (s : Nat) (h : ¬ (1 ≤ s ∧ s ≤ 7)) (w : World) : Calls Tryd.prog 18 #[.int .u8 (s : Int)] w fun e w' => e = .returned (.string ⟨#[]⟩) ∧ w' = w := by
  go_enter Tryd.func18, Tryd.ntmps18
  go_wp2_with fail
  refine (may_any s _).mono ?_
  rintro e wx ⟨rfl, hw⟩
  rw [hw]; clear hw wx
  rw [decide_eq_false h]
  clear h
  go_wp2
  go_ret
  exact ⟨rfl, rfl⟩
theorem parse_name (s : Nat) (h : 1 ≤ s ∧ s ≤ 7) (w : World) (hL : Laid w) : Calls Tryd.prog 17 #[.string (nameAt s)] w fun e w' => e = .returned (.tuple #[.int .u8 (s : Int), .int .i64 0]) ∧ w' = w := by
  have no : ∀ s, s < 8 → 1 ≤ s → ∀ i, i < s - 1 → (NMS.getD s [] == NMS.getD (i + 1) []) = false := by decide
  refine (parse_any (nameAt s) (s - 1) (by omega) w hL (fun i hi => ?_) (fun _ => ?_)).mono ?_
  · rw [nameAt_list, nameAt_list]; exact no s (by omega) h.1 i hi
  · rw [show s - 1 + 1 = s by omega]; simp
  · rintro e w' ⟨rfl, hw⟩
    rw [if_pos (by omega), if_pos (by omega)]
    refine ⟨?_, hw⟩
    rw [show (((s - 1 : Nat) : Int) + 1) = (s : Int) by omega]

set_option maxRecDepth 100000 in
set_option maxHeartbeats 4000000 in
theorem walkStageNames (w : World) (hL : Laid w) :
    Calls Tryd.prog 7 #[] w fun e w' => e = .returned (.bool true) ∧ Below w.heap.size w w' := by
  have HL := Lib.hid hL
  clear hL
  go_enter Tryd.func7, Tryd.ntmps7
  go_wp2_with fail
  go_loop [1] (fun i => ∃ k : Nat, 1 ≤ k ∧ k ≤ 8 ∧ i = .int .u8 (k : Int)) (fun i => 8 - (intOf i).toNat)
  case atStart => exact ⟨1, by omega, by omega, rfl⟩
  case round =>
    obtain ⟨k, hk1, hk8, rfl⟩ := hrel
    by_cases hlt : k ≤ 7
    · go_wp2_with fail
      refine (name_in k ⟨hk1, hlt⟩ _ HL.out).mono ?_
      rintro e wx ⟨rfl, hw⟩
      rw [hw]; clear hw wx
      go_wp2_with fail
      refine (parse_name k ⟨hk1, hlt⟩ _ HL.out).mono ?_
      rintro e wx ⟨rfl, hw⟩
      rw [hw]; clear hw wx
      go_wp2_with fail
      refine (may_any k _).mono ?_
      rintro e wx ⟨rfl, hw⟩
      rw [hw]; clear hw wx
      rw [show decide (1 ≤ k ∧ k ≤ 7) = true from decide_eq_true ⟨hk1, hlt⟩]
      go_wp2
      go_round
      case rel => exact ⟨k + 1, by omega, by omega, by go_num⟩
      case measure => simp [intOf]; omega
    · obtain rfl : k = 8 := by omega
      go_wp2_with fail
      refine (parse_const [] 7 (by omega) w HL.out (by decide) (by decide)).mono ?_
      rintro e wx ⟨rfl, hw⟩
      rw [hw]; clear hw wx
      go_wp2_with fail
      refine (parse_const [85, 112] 7 (by omega) w HL.out (by decide) (by decide)).mono ?_
      rintro e wx ⟨rfl, hw⟩
      rw [hw]; clear hw wx
      go_wp2_with fail
      refine (name_out 0 (by omega) w).mono ?_
      rintro e wx ⟨rfl, hw⟩
      rw [hw]; clear hw wx
      go_wp2_with fail
      refine (name_out 8 (by omega) w).mono ?_
      rintro e wx ⟨rfl, hw⟩
      rw [hw]; clear hw wx
      go_wp2_with fail
      refine (may_any 0 w).mono ?_
      rintro e wx ⟨rfl, hw⟩
      rw [hw]; clear hw wx
      go_wp2_with fail
      refine (may_any 8 w).mono ?_
      rintro e wx ⟨rfl, hw⟩
      rw [hw]; clear hw wx
      go_wp2_with fail
      refine (next_any 7 w HL.out).mono ?_
      rintro e w1 ⟨A1, c1, row1, rfl, _, _, h1⟩
      have HL1 := Lib.hid (HL.out.keep h1 (fun _ _ h => h))
      have H1 := Lib.hid h1
      have e1 : (nextT 7).length = 0 := by decide
      rw [e1]
      clear h1 e1
      go_wp2_with fail
      refine (next_any 99 w1 HL1.out).mono ?_
      rintro e w2 ⟨A2, c2, row2, rfl, _, _, h2⟩
      have HL2 := Lib.hid (HL1.out.keep h2 (fun _ _ h => h))
      have H2 := Lib.hid (keep0_trans _ _ _ H1.out h2)
      have e2 : (nextT 99).length = 0 := by decide
      rw [e2]
      clear h2 e2
      go_wp2_with fail
      refine (name_in 4 (by omega) w2 HL2.out).mono ?_
      rintro e wx ⟨rfl, hw⟩
      rw [hw]; clear hw wx
      have e4 : nameAt 4 = ⟨#[108, 101, 97, 118, 105, 110, 103]⟩ := rfl
      rw [e4]
      clear e4
      go_wp2_with fail
      refine (awake_any w2 HL2.out).mono ?_
      rintro e w3 ⟨rfl, h3⟩
      have H3 := Lib.hid (keep0_trans _ _ _ H2.out h3)
      clear h3
      go_wp2
      go_ret
      exact ⟨rfl, H3.out.b⟩
end Go.Proofs.YtngjecbdajognaaDoor
