/-
  World's law: awake.
-/
import Derived.Test.YtlfpefnlgiohbaaGreatWorH
namespace Go.Proofs.YtlfpefnlgiohbaaGreat
open Go.RowKit Go
set_option maxRecDepth 100000
def opsA (i : Nat) : OpM := [⟨1, 1, 1, 0, 0, 0, (0, 0)⟩, ⟨1, 1, 1, 0, 0, 0, (0, 0)⟩, ⟨2, 1, 0, 0, 0, 0, (0, 0)⟩, ⟨1, 1, 1, 0, 0, 0, (0, 0)⟩, ⟨1, 1, 2, 0, 0, 0, (0, 0)⟩, ⟨3, 2, 0, 0, 0, 0, (0, 0)⟩, ⟨4, 0, 0, 0, 0, 0, (0, 0)⟩].getD i ⟨0, 0, 0, 0, 0, 0, (0, 0)⟩
def wantA (i : Nat) : Int := [0, 6, 0, 42, 0, 5, 5].getD i 0
def alA (i : Nat) : Bool := [false, true, true, false, false, true, true, true].getD i false
def laA (i : Nat) : Int := [0, 1, 1, 1, 1, 2, 2, 2].getD i 0
def ssA (i : Nat) : Int := [0, 1, 1, 1, 1, 2, 2, 2].getD i 0
theorem stepA {b : Nat} {w : World} {i : Nat} (hi : i < 7) (h : Wn b 1 (alA i) (laA i) (ssA i) w) :
    Calls Tryz.prog 4 #[.pointer (some ⟨b, 0, none⟩), .agg (opC (opsA i)), .int .u32 0] w (DoW b (wantA i) (Wn b 1 (alA (i + 1)) (laA (i + 1)) (ssA (i + 1))) w) := by
  rcases (by omega : i = 0 ∨ i = 1 ∨ i = 2 ∨ i = 3 ∨ i = 4 ∨ i = 5 ∨ i = 6) with rfl | rfl | rfl | rfl | rfl | rfl | rfl
  · exact c_start (k := 1) (last := 0) (st := 0) h 1 (by decide) (by decide) (by decide) (by decide) (by decide) (by decide) (by decide)
  · exact c_twice (k := 1) (last := 1) (st := 1) h 1 (by decide) (by decide) (by decide)
  · exact c_crash (k := 1) (last := 1) (st := 1) h (by decide) (by decide)
  · exact c_old (k := 1) (last := 1) (st := 1) h 1 (by decide) (by decide) (by decide) (by decide)
  · exact c_start (k := 1) (last := 1) (st := 1) h 2 (by decide) (by decide) (by decide) (by decide) (by decide) (by decide) (by decide)
  · exact c_pass (k := 1) (alive := true) (last := 2) (st := 2) h 2 (by decide) (by decide) (by decide)
  · exact c_give (k := 1) (alive := true) (last := 2) (st := 2) h
abbrev wantsC : Array Value := #[.int .i64 0, .int .i64 6, .int .i64 0, .int .i64 42, .int .i64 0, .int .i64 5, .int .i64 5]
abbrev opsAC : Array Value := #[.int .u8 1, .int .i64 1, .int .i64 1, .int .i64 0, .int .i64 0, .int .u32 0, .int .i64 0, .int .i64 0, .int .u8 1, .int .i64 1, .int .i64 1, .int .i64 0, .int .i64 0, .int .u32 0, .int .i64 0, .int .i64 0, .int .u8 2, .int .i64 1, .int .i64 0, .int .i64 0, .int .i64 0, .int .u32 0, .int .i64 0, .int .i64 0, .int .u8 1, .int .i64 1, .int .i64 1, .int .i64 0, .int .i64 0, .int .u32 0, .int .i64 0, .int .i64 0, .int .u8 1, .int .i64 1, .int .i64 2, .int .i64 0, .int .i64 0, .int .u32 0, .int .i64 0, .int .i64 0, .int .u8 3, .int .i64 2, .int .i64 0, .int .i64 0, .int .i64 0, .int .u32 0, .int .i64 0, .int .i64 0, .int .u8 4, .int .i64 0, .int .i64 0, .int .i64 0, .int .i64 0, .int .u32 0, .int .i64 0, .int .i64 0]
theorem opsAC_at {i : Nat} (hi : i < 7) : ∀ j v, (opC (opsA i)).toList[j]? = some v → opsAC[8 * i + j]? = some v := by
  intro j v h
  have hj : j < 8 := by
    rcases Nat.lt_or_ge j 8 with h8 | h8
    · exact h8
    · rw [List.getElem?_eq_none (by simpa using h8)] at h; cases h
  rcases (by omega : i = 0 ∨ i = 1 ∨ i = 2 ∨ i = 3 ∨ i = 4 ∨ i = 5 ∨ i = 6) with rfl | rfl | rfl | rfl | rfl | rfl | rfl <;>
  rcases (by omega : j = 0 ∨ j = 1 ∨ j = 2 ∨ j = 3 ∨ j = 4 ∨ j = 5 ∨ j = 6 ∨ j = 7) with rfl | rfl | rfl | rfl | rfl | rfl | rfl | rfl <;>
  exact h
theorem wants_at {i : Nat} (hi : i < 7) : wantsC[i]? = some (.int .i64 (wantA i)) := by
  rcases (by omega : i = 0 ∨ i = 1 ∨ i = 2 ∨ i = 3 ∨ i = 4 ∨ i = 5 ∨ i = 6) with rfl | rfl | rfl | rfl | rfl | rfl | rfl <;> rfl
set_option maxHeartbeats 8000000 in
theorem awake_any (w : World) : Calls Tryz.prog 13 #[] w (Tell (.bool true) w) := by
  go_enter Tryz.func13, Tryz.ntmps13
  go_wp2_with fail
  refine (lsome_any w).mono ?_
  rintro e W1 ⟨A, rfl, hr, hk1⟩
  have HR := Lib.hid hr
  have HK1 := Lib.hid hk1
  clear hr hk1
  go_wp2_with fail
  refine (wldNew_ok someC A 1 1 W1 HR.out (by omega) (by decide) (by decide)).mono ?_
  rintro e W2 ⟨b, row, A2, cap, bn, rfl, hw, hb, _, _, hk2⟩
  have HW := Lib.hid (show Wn b 1 (alA 0) (laA 0) (ssA 0) W2 from ⟨row, A2, cap, _, _, bn, hw, fun _ _ => rfl, rfl, fun _ => rfl, fun e => (by cases e)⟩)
  have HLb := Lib.hid (show w.heap.size ≤ b from Nat.le_trans HK1.out.size hb)
  have HK2 := Lib.hid (keep0_trans _ _ _ HK1.out hk2)
  clear hw hb hk2 HR HK1
  go_upto_region 5 with (fail)
  have hb3 := Blk.new W2 35 wantsC
  have hk3 := (Keep.refl (fun _ => False) W2).alloc (.cells wantsC 35)
  generalize W2.alloc (.cells wantsC 35) = W3 at *
  generalize W2.heap.size = g3 at *
  have H3 := Lib.hid hb3
  replace HW := Lib.hid (HW.out.keep hk3)
  replace HK2 := Lib.hid (keep0_trans _ _ _ HK2.out hk3)
  clear hb3 hk3
  go_upto_region 6 with (fail)
  have hb4 := Blk.new W3 40 opsAC
  have hk4 := (Keep.refl (fun _ => False) W3).alloc (.cells opsAC 40)
  generalize W3.alloc (.cells opsAC 40) = W4 at *
  have hne : g3 ≠ b := fun e => by have h1 := HW.out; obtain ⟨_, _, _, _, _, _, hw, _⟩ := h1; exact (Blk.ne_ H3.out hw.blk (by decide)) e
  have hne4 : W3.heap.size ≠ b := fun e => by have := HW.out.lt; omega
  have HN3 := Lib.hid hne
  have HN4 := Lib.hid hne4
  clear hne hne4
  generalize W3.heap.size = g4 at *
  have H4 := Lib.hid hb4
  replace H3 := Lib.hid (H3.out.keep hk4 (fun h => h))
  replace HW := Lib.hid (HW.out.keep hk4)
  replace HK2 := Lib.hid (keep0_trans _ _ _ HK2.out hk4)
  clear hb4 hk4
  go_loopw [25] (fun iv wr => ∃ i : Nat, i ≤ 7 ∧ iv = .int .i64 (i : Int) ∧ Hid (Wn b 1 (alA i) (laA i) (ssA i) wr ∧ Keep (fun g => g = b) W4 wr)) (fun iv _ => 7 - (intOf iv).toNat)
  case atStart => exact ⟨0, by omega, rfl, Lib.hid ⟨HW.out, Keep.refl _ _⟩⟩
  case round =>
    obtain ⟨i, hi, rfl, HR⟩ := hrel
    by_cases hlt : i < 7
    · have q1 : (i : Int) < 7 := by omega
      have q2 : (0 : Int) ≤ (i : Int) := by omega
      have hst : ∀ W, Wn b 1 (alA i) (laA i) (ssA i) W → Calls Tryz.prog 4 #[.pointer (some ⟨b, 0, none⟩), .agg (opC (opsA i)), .int .u32 0] W (DoW b (wantA i) (Wn b 1 (alA (i + 1)) (laA (i + 1)) (ssA (i + 1))) W) := fun W h => stepA hlt h
      have HR4 := Lib.hid (H4.out.keep HR.out.2 (fun e => HN4.out e))
      have HR3 := Lib.hid (H3.out.keep HR.out.2 (fun e => HN3.out e))
      have hcs : ∀ j v, (opC (opsA i)).toList[j]? = some v → wr.cell? ⟨g4, i * 8 + j, none⟩ = some v := fun j v h => by
        rw [HR4.out.cell]
        rw [show i * 8 + j = 8 * i + j by omega]
        exact opsAC_at hlt j v h
      generalize opsA i = o at hst hcs
      obtain ⟨kind, addr, inc, n, at_, x, ab⟩ := o
      have HCs := Lib.hid hcs
      have HSt := Lib.hid hst
      have hwc := wants_at hlt
      have w0 : wr.cell? ⟨g3, i, none⟩ = some (.int .i64 (wantA i)) := by rw [HR3.out.cell]; exact hwc
      have W0 := Lib.hid w0
      clear hcs hst hwc w0
      go_upto_region 8 with (first | (refine wpList_plain rfl fun _ hK => wp_load_at 40 _ rfl g4 (i * 8) rfl [.int .u8 kind, .int .i64 addr, .int .i64 inc, .int .i64 n, .int .i64 at_, .int .u32 x, .int .i64 ab.1, .int .i64 ab.2] _ HCs.out Tryz.underlying40 rfl (by kernel_rfl) (hK _ _ ?_)) | fail)
      have hb5 := Blk.new wr 40 (opC ⟨kind, addr, inc, n, at_, x, ab⟩)
      have hk5 := (Keep.refl (fun _ => False) wr).alloc (.cells (opC ⟨kind, addr, inc, n, at_, x, ab⟩) 40)
      generalize wr.alloc (.cells (opC ⟨kind, addr, inc, n, at_, x, ab⟩) 40) = W5 at *
      generalize wr.heap.size = g5 at *
      have HB5 := Lib.hid hb5
      have HK5 := Lib.hid hk5
      clear hb5 hk5
      go_wp2_with (first | (refine wpList_load_row rfl 40 _ rfl g5 rfl 40 (opC ⟨kind, addr, inc, n, at_, x, ab⟩) (0, 0) _ HB5.out Tryz.underlying40 rfl sizeOp ?_) | fail)
      refine (HSt.out W5 (HR.out.1.keep HK5.out)).mono ?_
      rintro e W6 ⟨rfl, hp, hk6⟩
      have w0 := (hk6.cell (HK5.out.cell W0.out (fun e => e)) (fun e => HN3.out e))
      have HRn := Lib.hid (show Wn b 1 (alA (i + 1)) (laA (i + 1)) (ssA (i + 1)) W6 ∧ Keep (fun g => g = b) W4 W6 from ⟨hp, (HR.out.2.trans (HK5.out.mono fun _ _ e => e.elim)).trans (hk6.mono fun _ _ e => .inl e)⟩)
      clear hp hk6
      go_upto_region 9 with (first | (refine wpList_store_row rfl 34 _ _ rfl W6.heap.size ansC rfl rfl 34 _ (Blk.new W6 _ ansC) sizeAns rfl oneAns ?_; rw [setRow_same (Blk.new W6 _ ansC)]) | fail)
      have ka := (Keep.refl (fun _ => False) W6).alloc (.cells ansC 34)
      replace w0 := ka.cell w0 (fun e => e)
      have HRa := Lib.hid (show Wn b 1 (alA (i + 1)) (laA (i + 1)) (ssA (i + 1)) (W6.alloc (.cells ansC 34)) ∧ Keep (fun g => g = b) W4 (W6.alloc (.cells ansC 34)) from ⟨HRn.out.1.keep ka, HRn.out.2.trans (ka.mono fun _ _ e => e.elim)⟩)
      clear ka HRn
      generalize W6.alloc (.cells ansC 34) = W7 at *
      have e2 : IntKind.i64.wrap ((i : Int) + 1) = (i : Int) + 1 := IntWalk.i64_in _ (by omega)
      generalize hwv : wantA i = wv at *
      clear hwv
      go_wp2
      go_roundw
      case rel => exact ⟨i + 1, by omega, by go_num, HRa⟩
      case measure => simp [intOf]; omega
    · have q1 : ¬ (i : Int) < 7 := by omega
      go_wp2
      go_ret
      exact ⟨rfl, (HK2.out.trans (HR.out.2.mono fun g _ e => .inr (by rw [e]; exact HLb.out)))⟩
end Go.Proofs.YtlfpefnlgiohbaaGreat
