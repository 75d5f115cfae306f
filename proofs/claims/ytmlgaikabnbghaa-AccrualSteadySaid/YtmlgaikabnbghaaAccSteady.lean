/-
  AccrualSteady: heard every so many ticks, twice at least, the limit is two times as many, within the bounds.
-/
import Derived.Test.YtmlgaikabnbghaaAccD
namespace Go.Proofs.Ytmlgaikabnbghaa
open Go.RowKit

/-- What it is behind k calls of Heard, every 'gap' ticks. -/
def steady (mn mx wd gap : Int) : Nat → D
  | 0 => newD mn mx wd
  | k + 1 => (steady mn mx wd gap k).heard (k * gap)

theorem atv_of (last now : Int) (h1 : last ≤ now) (h2 : 0 ≤ now) (h3 : now ≤ 1099511627776) : atv last now = now := by unfold atv wi; omega
theorem steady_is (mn mx wd gap : Int) (h1 : 1 ≤ wd) (hg : 0 ≤ gap) (hg2 : gap < 5000) (k : Nat) (hk : k < 60) :
    steady mn mx wd gap (k + 1) = ⟨mn, mx, wd, k * gap, List.replicate (min k wd.toNat) gap⟩ := by
  induction k with
  | zero =>
    simp only [steady, D.heard, newD]
    simp [atv_of]
  | succ k ih =>
    have hm : ((k : Int) + 1) * gap = k * gap + gap := by rw [Int.add_mul]; simp
    have h0 : 0 ≤ (k : Int) * gap := Int.mul_nonneg (by omega) hg
    have h5 : (k : Int) * gap ≤ 60 * 5000 := Int.mul_le_mul (by omega) (by omega) hg (by omega)
    rw [steady, ih (by omega)]
    have ha : atv ((k : Int) * gap) (((k + 1 : Nat) : Int) * gap) = ((k + 1 : Nat) : Int) * gap := by
      rw [Int.natCast_add, Int.natCast_one, hm]
      exact atv_of _ _ (by omega) (by omega) (by omega)
    simp only [D.heard, D.push, ha]
    have hne : ¬ ((k : Int) * gap = -1) := by omega
    simp only [hne, if_false]
    congr 1
    have e1 : ((k + 1 : Nat) : Int) * gap - k * gap = gap := by rw [Int.natCast_add, Int.natCast_one, hm]; omega
    rw [e1, ← List.replicate_succ', List.drop_replicate, List.length_replicate]
    congr 1
    omega
theorem sum_replicate (m : Nat) (g : Int) : (List.replicate m g).sum = m * g := by
  induction m with
  | zero => simp
  | succ m ih => rw [List.replicate_succ, List.sum_cons, ih, Int.natCast_add, Int.natCast_one, Int.add_mul]; omega
theorem steady_limit (mn mx wd gap : Int) (h : MayNew mn mx wd) (hg : 0 ≤ gap) (hg2 : gap < 5000) (k : Nat) (hk : k < 59) : (steady mn mx wd gap (k + 2)).limit = wi (2 * gap) mn mx := by
  obtain ⟨_, _, _, h4, _⟩ := h
  rw [steady_is mn mx wd gap h4 hg hg2 (k + 1) (by omega)]
  have hm : 0 < min (k + 1) wd.toNat := by omega
  generalize min (k + 1) wd.toNat = m at hm
  unfold D.limit
  have hne : ¬ (List.replicate m gap = []) := by simp; omega
  simp only [hne, if_false, sum_replicate, List.length_replicate]
  congr 1
  have e : (2 * ((m : Int) * gap) + m - 1) = (m - 1) + m * (2 * gap) := by
    have : (m : Int) * (2 * gap) = 2 * (m * gap) := by rw [← Int.mul_assoc, Int.mul_comm (m : Int) 2, Int.mul_assoc]
    omega
  rw [e, Int.add_mul_ediv_left _ _ (by omega), Int.ediv_eq_zero_of_lt (by omega) (by omega)]
  omega

set_option maxHeartbeats 1000000 in
theorem steady_walk_bad (least most window gap often : Int) (w : World) (h : ¬ MayNew least most window) :
    Calls Try.prog 4 #[.int .i64 least, .int .i64 most, .int .i64 window, .int .i64 gap, .int .i64 often] w fun e w' => e = .returned (.bool true) ∧ Below w.heap.size w w' := by
  go_enter Try.func4, Try.ntmps4
  go_wp2_with fail
  refine (works_any w).mono ?_
  rintro e w1 ⟨rfl, h1⟩
  go_wp2_with fail
  refine (new_bad _ _ _ _ h).mono ?_
  rintro e w2 ⟨rfl, rfl⟩
  go_wp2
  go_ret
  exact ⟨rfl, h1⟩
set_option maxRecDepth 100000 in
set_option maxHeartbeats 1000000 in
theorem steady_walk_good (least most window gap often : Int) (w : World) (h : MayNew least most window) :
    Calls Try.prog 4 #[.int .i64 least, .int .i64 most, .int .i64 window, .int .i64 gap, .int .i64 often] w fun e w' => e = .returned (.bool true) ∧ Below w.heap.size w w' := by
  have HM := Lib.hid h
  clear h
  obtain ⟨g, hg, e1⟩ := mod_u64 gap 5000 (by decide) (by decide)
  obtain ⟨o, ho, e2⟩ := mod_u64 often 50 (by decide) (by decide)
  obtain ⟨b, hb⟩ : ∃ b, b = w.heap.size := ⟨_, rfl⟩
  clear hb
  have HL := Lib.hid (steady_limit least most window g HM.out (by omega) (by omega) o (by omega))
  go_enter Try.func4, Try.ntmps4
  go_wp2_with fail
  refine (works_any w).mono ?_
  rintro e w1 ⟨rfl, h1⟩
  go_wp2_with fail
  refine (now_new h1 _ _ _ HM.out).mono ?_
  rintro e w2 ⟨rfl, h2⟩
  generalize w1.heap.size = b at h2 ⊢
  go_wp2
  go_loopw [13] (fun i wr => ∃ k : Nat, k ≤ o + 2 ∧ i = .int .i64 k ∧ Now w b (steady least most window g k) wr) (fun i _ => o + 2 - (intOf i).toNat)
  case atStart => exact ⟨0, Nat.zero_le _, rfl, h2⟩
  case round =>
    obtain ⟨k, hk, rfl, hN⟩ := hrel
    clear h2
    by_cases hlt : k < o + 2
    · have e3 : IntKind.i64.wrap ((k : Int) * g) = (k : Int) * g := by
        have h0 : (k : Int) * g ≤ 60 * 5000 := Int.mul_le_mul (by omega) (by omega) (by omega) (by omega)
        have h1 : 0 ≤ (k : Int) * g := Int.mul_nonneg (by omega) (by omega)
        exact IntWalk.i64_in _ (by omega)
      go_wp2_with fail
      refine (now_heard hN _).mono ?_
      clear hN
      rintro e w3 ⟨rfl, h3⟩
      go_wp2
      go_roundw
      case rel => exact ⟨k + 1, by omega, by go_num, h3⟩
      case measure => simp [intOf]; omega
    · obtain rfl : k = o + 2 := by omega
      go_wp2_with fail
      refine (now_limit hN _ HL.out).mono ?_
      clear hN
      obtain ⟨x, hx⟩ : ∃ x, x = wi (2 * g) least most := ⟨_, rfl⟩
      rw [← hx]
      have HX := Lib.hid hx
      clear hx
      rintro e w3 ⟨rfl, h3⟩
      go_wp2
      all_goals
        go_ret
        refine ⟨ret_bool ?_, h3.old⟩
        rw [HX.out]
        simp only [beq_iff_eq, wi]
        omega
theorem walkAccrualSteady (a0 : Int) (_w0 : (Lit.int .i64 a0).wf = true) (a1 : Int) (_w1 : (Lit.int .i64 a1).wf = true) (a2 : Int) (_w2 : (Lit.int .i64 a2).wf = true) (a3 : Int) (_w3 : (Lit.int .i64 a3).wf = true) (a4 : Int) (_w4 : (Lit.int .i64 a4).wf = true) (w : World) :
    Calls Try.prog 4 #[.int .i64 a0, .int .i64 a1, .int .i64 a2, .int .i64 a3, .int .i64 a4] w fun e w' => e = .returned (.bool true) ∧ Below w.heap.size w w' := by
  by_cases h : MayNew a0 a1 a2
  · exact steady_walk_good a0 a1 a2 a3 a4 w h
  · exact steady_walk_bad a0 a1 a2 a3 a4 w h
end Go.Proofs.Ytmlgaikabnbghaa
