/-
  Roster: the leaves.
-/
import Derived.Test.YthlfgjlnjmjppaaRosP
namespace Go.Proofs.Ythlfgjlnjmjppaa
open Go.RowKit

set_option maxHeartbeats 400000 in
theorem mayref_any (p : ID) (w : World) : Calls Try.prog 14 #[idV p] w (Tell (.bool (mayID p)) w) := by
  obtain ⟨a, i⟩ := p
  go_enter Try.func14, Try.ntmps14
  go_wp2
  all_goals
    go_ret
    refine ⟨ret_bool ?_, (Keep.refl _ w).alloc _⟩
    rw [Bool.eq_iff_iff]
    simp only [mayID, decide_eq_true_eq]
    first | (simp; omega) | omega
set_option maxHeartbeats 400000 in
theorem may_any (p : ID) (w : World) : Calls Try.prog 32 #[idV p] w (Tell (.bool (mayID p)) w) := by
  obtain ⟨a, i⟩ := p
  go_enter Try.func32, Try.ntmps32
  go_wp2
  all_goals
    go_ret
    refine ⟨ret_bool ?_, (Keep.refl _ w).alloc _⟩
    rw [Bool.eq_iff_iff]
    simp only [mayID, decide_eq_true_eq]
    first | (simp; omega) | omega
theorem less_any (a b : Int) (w : World) : Calls Try.prog 39 #[.int .i64 a, .int .i64 b] w fun e w' => e = .returned (.int .i64 (lessT a b)) ∧ w' = w := by
  go_enter Try.func39, Try.ntmps39
  go_wp2
  all_goals
    go_ret
    refine ⟨ret_int ?_, rfl⟩
    unfold lessT
    repeat' split
    all_goals omega

set_option maxHeartbeats 1000000 in
theorem floor_any (A : Option Addr) (n c : Nat) (l : List ID) (a : Int) (w : World) (h : RdI w A n l) (hn : n ≤ 1000000) :
    Calls Try.prog 15 #[.slice A n c, .int .i64 a] w (Tell (.int .i64 (floorT l a)) w) := by
  have H := Lib.hid h
  clear h
  go_enter Try.func15, Try.ntmps15
  go_wp2
  go_loopw [10, 5] (fun i v wr => ∃ k : Nat, k ≤ n ∧ i = .int .i64 (k : Int) ∧ v = .int .i64 (floorT (l.take k) a) ∧ Hid (Keep (fun _ => False) w wr)) (fun i _ _ => n - (intOf i).toNat)
  case atStart => exact ⟨0, Nat.zero_le _, rfl, rfl, Lib.hid (Keep.refl _ _)⟩
  case round =>
    obtain ⟨k, hk, rfl, rfl, HK⟩ := hrel
    by_cases hlt : k < n
    · obtain ⟨g, off, rfl, c0, c1⟩ := (H.out.keep0 HK.out).at_ hlt
      have hs : floorT (l.take (k + 1)) a = if (l.getD k (0, 0)).1 = a then max (floorT (l.take k) a) (l.getD k (0, 0)).2 else floorT (l.take k) a := by
        have hl : k < l.length := by rw [H.out.1]; exact hlt
        unfold floorT
        rw [foldl_take _ _ _ _ hl]
        simp [List.getD, hl]
      have HS := Lib.hid hs
      clear hs
      generalize l.getD k (0, 0) = p at *
      obtain ⟨pa, pi⟩ := p
      simp only at c0 c1
      generalize floorT (l.take k) a = fl at *
      by_cases he : pa = a
      · have HS2 := Lib.hid (show floorT (l.take (k + 1)) a = max fl pi by rw [HS.out, if_pos he])
        have e1 : (pa == a) = true := by simpa using he
        have hm : (if fl < pi then pi else fl) = max fl pi := by omega
        clear he
        go_wp2
        all_goals
          go_roundw
          case rel => exact ⟨k + 1, by omega, by go_num, by first | (rw [HS2.out]; done) | (rw [HS2.out]; congr 1; omega), Lib.hid (HK.out.trans (((Keep.refl (fun _ => False) wr).alloc _).mono fun _ _ h => h.elim))⟩
          case measure => simp [intOf]; omega
      · have HS2 := Lib.hid (show floorT (l.take (k + 1)) a = fl by rw [HS.out, if_neg he])
        have e1 : (pa == a) = false := by simpa using he
        clear he
        go_wp2
        go_roundw
        case rel => exact ⟨k + 1, by omega, by go_num, by rw [HS2.out], Lib.hid (HK.out.trans (((Keep.refl (fun _ => False) wr).alloc _).mono fun _ _ h => h.elim))⟩
        case measure => simp [intOf]; omega
    · obtain rfl : k = n := by omega
      have hall : l.take k = l := List.take_of_length_le (by rw [H.out.1]; exact Nat.le_refl _)
      rw [hall]
      clear hall
      go_wp2
      go_ret
      exact ⟨rfl, HK.out⟩
end Go.Proofs.Ythlfgjlnjmjppaa
