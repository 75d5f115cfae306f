/-
  WorldNames: the walk. Written by gen_worj.py.
-/
import Derived.Test.YtlfpefnlgiohbaaGreatWorI
namespace Go.Proofs.YtlfpefnlgiohbaaGreat
open Go.RowKit Go
set_option maxRecDepth 100000
def zeroC : NC := ⟨[], 0, 0, 0, 0, 0, 0, 0, 0, 0, false, false, 0, 0, 0, 0, 0⟩
set_option maxHeartbeats 8000000 in
theorem worldNames_tell (w : World) : Calls Tryz.prog 3 #[] w (Tell (.bool true) w) := by
  go_enter Tryz.func3, Tryz.ntmps3
  go_wp2_with fail
  refine (do_nil ⟨0, 0, 0, 0, 0, 0, (0, 0)⟩ 0 w).mono ?_
  rintro e W1 ⟨rfl, hk1⟩
  have HK1 := Lib.hid hk1
  clear hk1
  go_upto_region 3 with (first | (refine wpList_store_row rfl 34 _ _ rfl W1.heap.size ansC rfl rfl 34 _ (Blk.new W1 _ ansC) sizeAns rfl oneAns ?_; rw [setRow_same (Blk.new W1 _ ansC)]) | fail)
  have ka := (Keep.refl (fun _ => False) W1).alloc (.cells ansC 34)
  generalize W1.alloc (.cells ansC 34) = W2 at *
  replace HK1 := Lib.hid (keep0_trans _ _ _ HK1.out ka)
  clear ka
  go_wp2_with fail
  refine (wldNew_bad zeroC none 0 0 W2 (show RdK _ _ _ _ _ from ⟨rfl, fun j hj => absurd hj (by omega)⟩) (by omega) (by decide)).mono ?_
  rintro e W3 ⟨rfl, hk⟩
  replace HK1 := Lib.hid (keep0_trans _ _ _ HK1.out hk)
  clear hk
  go_wp2_with fail
  refine (lsome_any W3).mono ?_
  rintro e W4 ⟨A, rfl, hr, hk⟩
  have HR := Lib.hid hr
  replace HK1 := Lib.hid (keep0_trans _ _ _ HK1.out hk)
  clear hr hk
  go_wp2_with fail
  refine (wldNew_ok someC A 1 1 W4 HR.out (by omega) (by decide) (by decide)).mono ?_
  rintro e W5 ⟨b, row, A2, cap, bn, rfl, hw, hb, _, _, hk2⟩
  have HW := Lib.hid (show Wn b 3 false 0 0 W5 from ⟨row, A2, cap, _, _, bn, hw, fun _ _ => rfl, rfl, fun _ => rfl, fun e => (by cases e)⟩)
  have HLb := Lib.hid (show w.heap.size ≤ b from Nat.le_trans HK1.out.size hb)
  replace HK1 := Lib.hid (keep0_trans _ _ _ HK1.out hk2)
  clear hw hb hk2 HR
  go_upto_region 5 with (fail)
  have hb6 := Blk.new W5 22 #[.pointer (some ⟨b, 0, none⟩)]
  have hk6 := (Keep.refl (fun _ => False) W5).alloc (.cells #[.pointer (some ⟨b, 0, none⟩)] 22)
  have hne : W5.heap.size ≠ b := fun e => by have := HW.out.lt; omega
  generalize W5.alloc (.cells #[.pointer (some ⟨b, 0, none⟩)] 22) = V0 at *
  generalize W5.heap.size = b6 at *
  have HN6 := Lib.hid hne
  have HB6 := Lib.hid hb6
  have HV := Lib.hid (show Wn b 3 false 0 0 V0 ∧ Keep (fun g => g = b) V0 V0 from ⟨HW.out.keep hk6, Keep.refl _ _⟩)
  replace HK1 := Lib.hid (keep0_trans _ _ _ HK1.out hk6)
  clear hb6 hk6 hne HW
  go_wp2_with fail
  refine (cl_any (o := ⟨0, 0, 0, 0, 0, 0, (0, 0)⟩) (er := 4) (P := Wn b 3 false 0 0) V0 (HB6.out.keep HV.out.2 (fun e => HN6.out e)) (fun W hk => c_none (HV.out.1.keep hk)) (fun _ _ hk p => p.keep hk)).mono ?_
  rintro e V1 ⟨rfl, hp, hk⟩
  replace HV := Lib.hid (show Wn b 3 false 0 0 V1 ∧ Keep (fun g => g = b) V0 V1 from ⟨hp, HV.out.2.trans (hk.mono fun _ _ e => .inl e)⟩)
  clear hp hk
  go_wp2_with fail
  refine (cl_any (o := ⟨13, 0, 0, 0, 0, 0, (0, 0)⟩) (er := 4) (P := Wn b 3 false 0 0) V1 (HB6.out.keep HV.out.2 (fun e => HN6.out e)) (fun W hk => c_bad (HV.out.1.keep hk)) (fun _ _ hk p => p.keep hk)).mono ?_
  rintro e V2 ⟨rfl, hp, hk⟩
  replace HV := Lib.hid (show Wn b 3 false 0 0 V2 ∧ Keep (fun g => g = b) V0 V2 from ⟨hp, HV.out.2.trans (hk.mono fun _ _ e => .inl e)⟩)
  clear hp hk
  go_wp2_with fail
  refine (cl_any (o := ⟨12, 0, 0, 0, 0, 0, (0, 0)⟩) (er := 4) (P := Wn b 3 false 0 0) V2 (HB6.out.keep HV.out.2 (fun e => HN6.out e)) (fun W hk => c_judge0 (HV.out.1.keep hk)) (fun _ _ hk p => p.keep hk)).mono ?_
  rintro e V3 ⟨rfl, hp, hk⟩
  replace HV := Lib.hid (show Wn b 3 false 0 0 V3 ∧ Keep (fun g => g = b) V0 V3 from ⟨hp, HV.out.2.trans (hk.mono fun _ _ e => .inl e)⟩)
  clear hp hk
  go_wp2_with fail
  refine (cl_any (o := ⟨12, 0, 0, 0, 0, 1, (0, 0)⟩) (er := 5) (P := Wn b 3 false 0 0) V3 (HB6.out.keep HV.out.2 (fun e => HN6.out e)) (fun W hk => c_judge 1 (.inl rfl) (HV.out.1.keep hk)) (fun _ _ hk p => p.keep hk)).mono ?_
  rintro e V4 ⟨rfl, hp, hk⟩
  replace HV := Lib.hid (show Wn b 3 false 0 0 V4 ∧ Keep (fun g => g = b) V0 V4 from ⟨hp, HV.out.2.trans (hk.mono fun _ _ e => .inl e)⟩)
  clear hp hk
  go_wp2_with fail
  refine (cl_any (o := ⟨12, 0, 0, 0, 0, 3, (0, 0)⟩) (er := 5) (P := Wn b 3 false 0 0) V4 (HB6.out.keep HV.out.2 (fun e => HN6.out e)) (fun W hk => c_judge 3 (.inr rfl) (HV.out.1.keep hk)) (fun _ _ hk p => p.keep hk)).mono ?_
  rintro e V5 ⟨rfl, hp, hk⟩
  replace HV := Lib.hid (show Wn b 3 false 0 0 V5 ∧ Keep (fun g => g = b) V0 V5 from ⟨hp, HV.out.2.trans (hk.mono fun _ _ e => .inl e)⟩)
  clear hp hk
  go_wp2_with fail
  refine (cl_any (o := ⟨1, 0, 0, 0, 0, 0, (0, 0)⟩) (er := 1) (P := Wn b 3 false 0 0) V5 (HB6.out.keep HV.out.2 (fun e => HN6.out e)) (fun W hk => c_arg (HV.out.1.keep hk)) (fun _ _ hk p => p.keep hk)).mono ?_
  rintro e V6 ⟨rfl, hp, hk⟩
  replace HV := Lib.hid (show Wn b 3 false 0 0 V6 ∧ Keep (fun g => g = b) V0 V6 from ⟨hp, HV.out.2.trans (hk.mono fun _ _ e => .inl e)⟩)
  clear hp hk
  go_wp2_with fail
  refine (cl_any (o := ⟨5, 0, 0, 0, 0, 0, (0, 0)⟩) (er := 5) (P := Wn b 3 false 0 0) V6 (HB6.out.keep HV.out.2 (fun e => HN6.out e)) (fun W hk => c_lose (HV.out.1.keep hk)) (fun _ _ hk p => p.keep hk)).mono ?_
  rintro e V7 ⟨rfl, hp, hk⟩
  replace HV := Lib.hid (show Wn b 3 false 0 0 V7 ∧ Keep (fun g => g = b) V0 V7 from ⟨hp, HV.out.2.trans (hk.mono fun _ _ e => .inl e)⟩)
  clear hp hk
  go_upto_region 11 with (fail)
  have HW8 := Lib.hid HV.out.2
  go_loopw [9] (fun iv wr => ∃ i : Nat, i ≤ 48 ∧ iv = .int .i64 ((i : Int) + 1) ∧ Hid (Wn b 3 false (2 * (i : Int)) (i : Int) wr ∧ Keep (fun g => g = b) V0 wr)) (fun iv _ => 49 - (intOf iv).toNat)
  case atStart => exact ⟨0, by omega, rfl, Lib.hid ⟨HV.out.1, HW8.out⟩⟩
  case round =>
    obtain ⟨i, hi, rfl, HR⟩ := hrel
    by_cases hlt : i < 48
    · have q1 : (i : Int) + 1 ≤ 48 := by omega
      have e1 : IntKind.i64.wrap (2 * ((i : Int) + 1)) = 2 * ((i : Int) + 1) := IntWalk.i64_in _ (by omega)
      have HM := Lib.hid (show mayID ((3 : Nat), 2 * ((i : Int) + 1)) = true by unfold mayID; simp; omega)
      go_wp2_with fail
      refine (cl_any (o := ⟨1, 3, 2 * ((i : Int) + 1), 0, 0, 0, (0, 0)⟩) (er := 0) (P := Wn b 3 true (2 * ((i : Int) + 1)) ((i : Int) + 1)) wr (HB6.out.keep HR.out.2 (fun e => HN6.out e)) (fun W hk => c_start (k := 3) (HR.out.1.keep hk) (2 * ((i : Int) + 1)) (by decide) (by decide) (by omega) (by omega) (by omega) (by omega) HM.out) (fun _ _ hk p => p.keep hk)).mono ?_
      rintro e R1 ⟨rfl, hp, hk⟩
      replace HR := Lib.hid (show Wn b 3 true (2 * ((i : Int) + 1)) ((i : Int) + 1) R1 ∧ Keep (fun g => g = b) V0 R1 from ⟨hp, HR.out.2.trans (hk.mono fun _ _ e => .inl e)⟩)
      clear hp hk
      go_wp2_with fail
      refine (cl_any (o := ⟨2, 3, 0, 0, 0, 0, (0, 0)⟩) (er := 0) (P := Wn b 3 false (2 * ((i : Int) + 1)) ((i : Int) + 1)) R1 (HB6.out.keep HR.out.2 (fun e => HN6.out e)) (fun W hk => c_crash (k := 3) (HR.out.1.keep hk) (by decide) (by decide)) (fun _ _ hk p => p.keep hk)).mono ?_
      rintro e R2 ⟨rfl, hp, hk⟩
      replace HR := Lib.hid (show Wn b 3 false (2 * ((i : Int) + 1)) ((i : Int) + 1) R2 ∧ Keep (fun g => g = b) V0 R2 from ⟨hp, HR.out.2.trans (hk.mono fun _ _ e => .inl e)⟩)
      clear hp hk
      have e2 : IntKind.i64.wrap ((i : Int) + 1 + 1) = (i : Int) + 1 + 1 := IntWalk.i64_in _ (by omega)
      go_wp2
      go_roundw
      case rel => exact ⟨i + 1, by omega, by go_num, HR⟩
      case measure => simp [intOf]; omega
    · have q1 : ¬ (i : Int) + 1 ≤ 48 := by omega
      have hi8 : i = 48 := by omega
      have HE : Hid (Wn b 3 false 96 48 wr ∧ Keep (fun g => g = b) V0 wr) := by have h := HR.out; rw [hi8] at h; exact Lib.hid h
      clear HR
      go_wp2_with fail
      refine (cl_any (o := ⟨1, 3, 1000, 0, 0, 0, (0, 0)⟩) (er := 40) (P := Wn b 3 false 96 48) wr (HB6.out.keep HE.out.2 (fun e => HN6.out e)) (fun W hk => c_many (k := 3) (HE.out.1.keep hk) 1000 (by decide) (by decide) (by decide) (by decide)) (fun _ _ hk p => p.keep hk)).mono ?_
      rintro e S1 ⟨rfl, hp, hk⟩
      replace HE := Lib.hid (show Wn b 3 false 96 48 S1 ∧ Keep (fun g => g = b) V0 S1 from ⟨hp, HE.out.2.trans (hk.mono fun _ _ e => .inl e)⟩)
      clear hp hk
      have HB7 := Lib.hid (HB6.out.keep HE.out.2 (fun e => HN6.out e))
      have p0 := HB7.out.cell 0
      simp at p0
      go_wp2_with fail
      have s43 : S1.cell? ⟨b, 43, none⟩ = some (.int .i64 48) := by obtain ⟨_, _, _, _, _, _, hw, _⟩ := HE.out.1; exact (hw.blk.cell 43).trans rfl
      refine (wStarts_any b 48 S1 s43).mono ?_
      rintro e S2 ⟨rfl, rfl⟩
      clear s43
      go_wp2_with fail
      refine (wNode_nil 1 _).mono ?_
      rintro e S3 ⟨rfl, rfl⟩
      go_wp2_with fail
      refine (wNet_nil _).mono ?_
      rintro e S4 ⟨rfl, rfl⟩
      go_wp2_with fail
      refine (wArb_nil _).mono ?_
      rintro e S5 ⟨rfl, rfl⟩
      go_wp2_with fail
      refine (wStarts_nil _).mono ?_
      rintro e S6 ⟨rfl, rfl⟩
      go_wp2_with fail
      refine (wCopy_nil _).mono ?_
      rintro e S7 ⟨rfl, rfl⟩
      go_wp2_with fail
      refine (wNode_out b 0 _ (by omega)).mono ?_
      rintro e S8 ⟨rfl, rfl⟩
      go_wp2_with fail
      refine (wNode_out b 13 _ (by omega)).mono ?_
      rintro e S9 ⟨rfl, rfl⟩
      go_wp2_with fail
      refine (awake_any _).mono ?_
      rintro e SA ⟨rfl, hk⟩
      have HF := Lib.hid ((HK1.out.trans (HE.out.2.mono fun g _ e => .inr (by rw [e]; exact HLb.out))).trans (hk.mono fun _ _ e => e.elim))
      clear hk
      go_wp2
      go_ret
      exact ⟨rfl, HF.out⟩
theorem walkWorldNames {w : World} : Calls Tryz.prog 3 #[] w fun e w' => e = .returned (.bool true) ∧ Below w.heap.size w w' := (worldNames_tell w).mono fun _ _ ⟨h, k⟩ => ⟨h, k.b⟩
end Go.Proofs.YtlfpefnlgiohbaaGreat
