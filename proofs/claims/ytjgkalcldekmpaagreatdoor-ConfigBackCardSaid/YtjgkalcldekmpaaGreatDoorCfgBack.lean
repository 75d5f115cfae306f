/-
  ConfigBack. Written by gen_back.py.
-/
import Derived.Test.YtjgkalcldekmpaaGreatDoorCfgZ
import Derived.Test.YtjgkalcldekmpaaGreatDoorCfgOp
import Derived.Test.YtjgkalcldekmpaaGreatDoorCfgRows
namespace Go.Proofs.YtjgkalcldekmpaaGreatDoor
open Go.RowKit Go Go.Shelf
set_option maxRecDepth 100000
attribute [local go_sem] bs_toList bs_size bs_zero

theorem parse_forms (s : Bs) : (∃ d, parseM s = (d, 0, 0) ∧ mayM d = true) ∨ parseM s = (zeroCfg, 0, 1) ∨ ∃ l er, parseM s = (zeroCfg, l, er) ∧ 0 < l ∧ (er = 4 ∨ er = 6) := by
  cases hf : pfold (nl s) with
  | error e =>
    obtain ⟨k, _, e1, e2, _⟩ := wrong_at (ls := spl 10 s) hf
    refine .inr (.inr ⟨e.1, e.2, ?_, by omega, e2⟩)
    unfold parseM
    rw [hf]
  | ok st =>
    by_cases hm : mayM st.1 = true
    · exact .inl ⟨st.1, by rw [parseM_ok hf, if_pos hm], hm⟩
    · exact .inr (.inl (by rw [parseM_ok hf, if_neg hm]))
theorem rd_none {w : World} : RdN w none zeroCfg.seeds.length zeroCfg.seeds := ⟨rfl, fun j hj => by simp [zeroCfg] at hj⟩
set_option maxHeartbeats 8000000 in
theorem walkConfigBack {w : World} (v0 : Value) (w0 : IsCfgW w v0) (s1 : ByteArray) (_w1 : s1.size ≤ maxLen) (hE : Env w) :
    Calls Tryz.prog 8 #[v0, .string s1] w fun e w' => e = .returned (.bool true) ∧ Below w.heap.size w w' := by
  obtain ⟨s, rfl⟩ : ∃ s, s1 = bs s := ⟨s1.data.toList, (bs_of s1).symm⟩
  obtain ⟨A, cap, c, rfl, hml, hR, hs64, hv64, h8a, h8b⟩ := w0
  clear _w1
  have hk0 : Keep (fun _ => False) w (w.alloc (.cells (cfgA (.slice A c.seeds.length cap) c.v) 25)) := (Keep.refl _ w).alloc _
  have hX := Blk.new w 25 (cfgA (.slice A c.seeds.length cap) c.v)
  obtain ⟨W0, hW0⟩ : ∃ W0, w.alloc (.cells (cfgA (.slice A c.seeds.length cap) c.v) 25) = W0 := ⟨_, rfl⟩
  rw [hW0] at hk0 hX
  have c0 := hX.cell 0
  rw [cfgA_get _ _ (by decide)] at c0
  simp only [cfgC, if_true] at c0
  have HX := Lib.hid hX
  have HK0 := Lib.hid hk0
  have HE0 := Lib.hid (hE.keep0 hk0)
  have HE := Lib.hid hE
  have HR := Lib.hid (hR.keep0 hk0)
  clear hX hk0 hE hR
  go_enter Tryz.func8, Tryz.ntmps8
  by_cases h1 : 3000 < s.length
  · have q1 : (3000 : Int) < (s.length : Int) := by omega
    go_wp2_with fail
    refine (awake_any W0 HE0.out).mono ?_
    rintro e W1 ⟨rfl, hk⟩
    have HK := Lib.hid (keep0_trans _ _ _ HK0.out hk)
    clear hk hW0
    go_wp2
    go_ret
    exact ⟨rfl, below_of HK.out⟩
  have q1 : ¬ (3000 : Int) < (s.length : Int) := by omega
  by_cases h2 : 100 < c.seeds.length
  · have q2 : (100 : Int) < (c.seeds.length : Int) := by omega
    go_wp2_with fail
    refine (awake_any W0 HE0.out).mono ?_
    rintro e W1 ⟨rfl, hk⟩
    have HK := Lib.hid (keep0_trans _ _ _ HK0.out hk)
    clear hk hW0
    go_wp2
    go_ret
    exact ⟨rfl, below_of HK.out⟩
  have q2 : ¬ (100 : Int) < (c.seeds.length : Int) := by omega
  have HW := Lib.hid (show WfC c from ⟨hs64, hv64, ⟨h8a, h8b⟩, by omega⟩)
  clear hs64 hv64 h8a h8b hml
  go_wp2_with fail
  refine (awake_any W0 HE0.out).mono ?_
  rintro e W1 ⟨rfl, hk⟩
  have HK1 := Lib.hid (keep0_trans _ _ _ HK0.out hk)
  have HX1 := Lib.hid (HX.out.keep hk (fun h => h))
  have HR1 := Lib.hid (HR.out.keep0 hk)
  clear hk hW0 c0 HX HR HK0 HE0
  go_wp2_with (refine wpList_load_row rfl 25 _ rfl w.heap.size rfl 25 _ (0, 0) _ HX1.out Tryz.underlying25 rfl infoCfg ?_)
  refine (cshow_any c A cap HW.out W1 (HE.out.keep0 HK1.out) HR1.out).mono ?_
  rintro e W2 ⟨rfl, hk⟩
  have HK2 := Lib.hid (keep0_trans _ _ _ HK1.out hk)
  have HX2 := Lib.hid (HX1.out.keep hk (fun h => h))
  have HR2 := Lib.hid (HR1.out.keep0 hk)
  clear hk HX1 HR1 HK1
  rcases Bool.eq_false_or_eq_true (mayM c) with hm | hm
  case inr =>
    rw [showR_no hm]
    go_wp2_with (refine wpList_load_row rfl 25 _ rfl w.heap.size rfl 25 _ (0, 0) _ HX2.out Tryz.underlying25 rfl infoCfg ?_)
    refine (mayM_any c A cap W2 HR2.out (by omega)).mono ?_
    rintro e W3 ⟨rfl, hk⟩
    have HK3 := Lib.hid (keep0_trans _ _ _ HK2.out hk)
    rw [hm]
    clear hk hm
    go_wp2_with fail
    rcases parse_forms s with ⟨d, hp, hmd⟩ | hp | ⟨l, er, hp, hl, her⟩
    case inl =>
      have HP := Lib.hid hp
      have HMd := Lib.hid hmd
      have HWd := Lib.hid (may_wf hmd)
      have HMp := Lib.hid ((may_part d).trans hmd)
      have HWp := Lib.hid (may_wf HMp.out)
      have hTl := text_len hmd
      have hpb := back hmd
      have hdl := (may_ok hmd).len
      obtain ⟨T, hT⟩ : ∃ T, textM d 17 = T := ⟨_, rfl⟩
      have HT := Lib.hid hT
      rw [hT] at hTl hpb
      have HPb := Lib.hid hpb
      clear hp hmd hpb hT
      refine (parse_is HP.out _ (HE.out.keep0 HK3.out) (by omega)).mono ?_
      rintro e W6 ⟨row, A6, cap6, rfl, hs, hr, hk⟩
      have hk6x := Lib.hid hk
      have HR6 := Lib.hid hs.rd
      have HKw6 := Lib.hid (keep0_trans _ _ _ HK3.out hk)
      clear hs hr hk
      go_wp2_with (first | (refine wpList_store_row rfl 25 _ _ rfl W6.heap.size (cfgA (.slice A6 d.seeds.length cap6) d.v) rfl rfl 25 _ (Blk.new _ _ _) infoCfg rfl (cfgA_one _ _ _ _) ?_; obtain ⟨hbv, hkv⟩ := row_new (t := 25) W6 zc (cfgA (.slice A6 d.seeds.length cap6) d.v); unfold zc at hbv hkv; have HBn := Lib.hid hbv; have HKn := Lib.hid hkv; clear hbv hkv; generalize (W6.alloc (.cells #[.slice none 0 0, .int .i64 0, .int .i64 0, .int .i64 0, .int .i64 0, .int .i64 0, .int .i64 0, .int .i64 0, .int .u8 0, .int .i64 0, .bool false, .bool false, .int .i64 0, .int .i64 0, .int .i64 0, .int .i64 0, .int .i64 0] 25)).setRow W6.heap.size (cfgA (.slice A6 d.seeds.length cap6) d.v) = V6 at *) | (refine wpList_load_row rfl 25 _ rfl W6.heap.size rfl 25 _ (0, 0) _ HBn.out Tryz.underlying25 rfl infoCfg ?_))
      have HKV6 := Lib.hid (keep0_trans _ _ _ HKw6.out HKn.out)
      have HRV6 := Lib.hid (HR6.out.keep0 HKn.out)
      have HB6 := Lib.hid HBn.out
      clear HBn HKn HR6 HKw6
      refine (cshow_any d A6 cap6 HWd.out V6 (HE.out.keep0 HKV6.out) HRV6.out).mono ?_
      rintro e W7 ⟨rfl, hk7⟩
      have HK7 := Lib.hid (keep0_trans _ _ _ HKV6.out hk7)
      have HB7 := Lib.hid (HB6.out.keep hk7 (fun h => h))
      have HR7 := Lib.hid (HRV6.out.keep0 hk7)
      clear hk7
      rw [showR_ok HMd.out, HT.out]
      go_wp2_with fail
      refine (parse_is HPb.out _ (HE.out.keep0 HK7.out) (by omega)).mono ?_
      rintro e W8 ⟨row, A8, cap8, rfl, hs, hr, hk⟩
      have hk8x := Lib.hid hk
      have HR8 := Lib.hid hs.rd
      have HKw8 := Lib.hid (keep0_trans _ _ _ HK7.out hk)
      clear hs hr hk
      go_wp2_with (first | (refine wpList_store_row rfl 25 _ _ rfl W8.heap.size (cfgA (.slice A8 (part d 17).seeds.length cap8) (part d 17).v) rfl rfl 25 _ (Blk.new _ _ _) infoCfg rfl (cfgA_one _ _ _ _) ?_; obtain ⟨hbv, hkv⟩ := row_new (t := 25) W8 zc (cfgA (.slice A8 (part d 17).seeds.length cap8) (part d 17).v); unfold zc at hbv hkv; have HBn := Lib.hid hbv; have HKn := Lib.hid hkv; clear hbv hkv; generalize (W8.alloc (.cells #[.slice none 0 0, .int .i64 0, .int .i64 0, .int .i64 0, .int .i64 0, .int .i64 0, .int .i64 0, .int .i64 0, .int .u8 0, .int .i64 0, .bool false, .bool false, .int .i64 0, .int .i64 0, .int .i64 0, .int .i64 0, .int .i64 0] 25)).setRow W8.heap.size (cfgA (.slice A8 (part d 17).seeds.length cap8) (part d 17).v) = V8 at *; have hk7x := Lib.hid (keep0_trans _ _ _ hk8x.out HKn.out); have HB8x := Lib.hid (HB7.out.keep hk7x.out (fun h => h)); have HR8x := Lib.hid (HR7.out.keep0 hk7x.out)) | (refine wpList_load_row rfl 25 _ rfl W8.heap.size rfl 25 _ (0, 0) _ HBn.out Tryz.underlying25 rfl infoCfg ?_))
      have HKV8 := Lib.hid (keep0_trans _ _ _ HKw8.out HKn.out)
      have HRV8 := Lib.hid (HR8.out.keep0 HKn.out)
      have HB8 := Lib.hid HBn.out
      clear HBn HKn HR8 HKw8
      refine (cshow_any (part d 17) A8 cap8 HWp.out V8 (HE.out.keep0 HKV8.out) HRV8.out).mono ?_
      rintro e W9 ⟨rfl, hk9⟩
      have HK9 := Lib.hid (keep0_trans _ _ _ HKV8.out hk9)
      have HB9 := Lib.hid (HB8x.out.keep hk9 (fun h => h))
      have HR9 := Lib.hid (HR8x.out.keep0 hk9)
      have HC9 := Lib.hid (HB8.out.keep hk9 (fun h => h))
      have HS9 := Lib.hid (HRV8.out.keep0 hk9)
      clear hk9
      rw [showR_ok HMp.out, text_part, HT.out]
      go_wp2_with (refine wpList_load_row rfl 25 _ rfl W6.heap.size rfl 25 _ (0, 0) _ HB9.out Tryz.underlying25 rfl infoCfg ?_)
      refine (mayM_any d A6 cap6 W9 HR9.out (by omega)).mono ?_
      rintro e W10 ⟨rfl, hk10⟩
      have HK10 := Lib.hid (keep0_trans _ _ _ HK9.out hk10)
      have HB10 := Lib.hid (HB9.out.keep hk10 (fun h => h))
      have HR10 := Lib.hid (HR9.out.keep0 hk10)
      have HC10 := Lib.hid (HC9.out.keep hk10 (fun h => h))
      have HS10 := Lib.hid (HS9.out.keep0 hk10)
      clear hk10
      rw [HMd.out]
      go_wp2_with (first | (refine wpList_load_rowG rfl 25 _ rfl W8.heap.size rfl 25 _ (0, 0) _ HC10.out Tryz.underlying25 rfl infoCfg ?_) | (refine wpList_load_rowG rfl 25 _ rfl W6.heap.size rfl 25 _ (0, 0) _ HB10.out Tryz.underlying25 rfl infoCfg ?_))
      refine (same_any (part d 17) d A8 A6 cap8 cap6 HWp.out HWd.out W10 (HE.out.keep0 HK10.out) HS10.out HR10.out).mono ?_
      rintro e W11 ⟨rfl, hk11⟩
      have HK11 := Lib.hid (keep0_trans _ _ _ HK10.out hk11)
      clear hk11
      rw [(same_part d).2]
      go_wp2
      go_ret
      exact ⟨rfl, below_of HK11.out⟩
    case inr.inl =>
      have HP := Lib.hid hp
      clear hp
      refine (parse_is HP.out _ (HE.out.keep0 HK3.out) (by omega)).mono ?_
      rintro e W6 ⟨row, A6, cap6, rfl, hs, hr, hk⟩
      have hk6x := Lib.hid hk
      have HR6 := Lib.hid hs.rd
      have HKw6 := Lib.hid (keep0_trans _ _ _ HK3.out hk)
      clear hs hr hk
      go_wp2_with (first | (refine wpList_store_row rfl 25 _ _ rfl W6.heap.size (cfgA (.slice A6 zeroCfg.seeds.length cap6) zeroCfg.v) rfl rfl 25 _ (Blk.new _ _ _) infoCfg rfl (cfgA_one _ _ _ _) ?_; obtain ⟨hbv, hkv⟩ := row_new (t := 25) W6 zc (cfgA (.slice A6 zeroCfg.seeds.length cap6) zeroCfg.v); unfold zc at hbv hkv; have HBn := Lib.hid hbv; have HKn := Lib.hid hkv; clear hbv hkv; generalize (W6.alloc (.cells #[.slice none 0 0, .int .i64 0, .int .i64 0, .int .i64 0, .int .i64 0, .int .i64 0, .int .i64 0, .int .i64 0, .int .u8 0, .int .i64 0, .bool false, .bool false, .int .i64 0, .int .i64 0, .int .i64 0, .int .i64 0, .int .i64 0] 25)).setRow W6.heap.size (cfgA (.slice A6 zeroCfg.seeds.length cap6) zeroCfg.v) = V6 at *) | (refine wpList_load_row rfl 25 _ rfl W6.heap.size rfl 25 _ (0, 0) _ HBn.out Tryz.underlying25 rfl infoCfg ?_))
      have HKV6 := Lib.hid (keep0_trans _ _ _ HKw6.out HKn.out)
      have HRV6 := Lib.hid (HR6.out.keep0 HKn.out)
      have HB6 := Lib.hid HBn.out
      clear HBn HKn HR6 HKw6
      refine (same_any zeroCfg zeroCfg A6 none cap6 0 zero_wf zero_wf V6 (HE.out.keep0 HKV6.out) HRV6.out rd_none).mono ?_
      rintro e W7 ⟨rfl, hk7⟩
      have HK7 := Lib.hid (keep0_trans _ _ _ HKV6.out hk7)
      clear hk7
      rw [sameM_refl]
      go_wp2
      go_ret
      exact ⟨rfl, below_of HK7.out⟩
    case inr.inr =>
      have HP := Lib.hid hp
      clear hp
      rcases her with rfl | rfl
      all_goals
        refine (parse_is HP.out _ (HE.out.keep0 HK3.out) (by omega)).mono ?_
        rintro e W6 ⟨row, A6, cap6, rfl, hs, hr, hk⟩
        have hk6x := Lib.hid hk
        have HR6 := Lib.hid hs.rd
        have HKw6 := Lib.hid (keep0_trans _ _ _ HK3.out hk)
        clear hs hr hk
        go_wp2_with (first | (refine wpList_store_row rfl 25 _ _ rfl W6.heap.size (cfgA (.slice A6 zeroCfg.seeds.length cap6) zeroCfg.v) rfl rfl 25 _ (Blk.new _ _ _) infoCfg rfl (cfgA_one _ _ _ _) ?_; obtain ⟨hbv, hkv⟩ := row_new (t := 25) W6 zc (cfgA (.slice A6 zeroCfg.seeds.length cap6) zeroCfg.v); unfold zc at hbv hkv; have HBn := Lib.hid hbv; have HKn := Lib.hid hkv; clear hbv hkv; generalize (W6.alloc (.cells #[.slice none 0 0, .int .i64 0, .int .i64 0, .int .i64 0, .int .i64 0, .int .i64 0, .int .i64 0, .int .i64 0, .int .u8 0, .int .i64 0, .bool false, .bool false, .int .i64 0, .int .i64 0, .int .i64 0, .int .i64 0, .int .i64 0] 25)).setRow W6.heap.size (cfgA (.slice A6 zeroCfg.seeds.length cap6) zeroCfg.v) = V6 at *) | (refine wpList_load_row rfl 25 _ rfl W6.heap.size rfl 25 _ (0, 0) _ HBn.out Tryz.underlying25 rfl infoCfg ?_))
        have HKV6 := Lib.hid (keep0_trans _ _ _ HKw6.out HKn.out)
        have HRV6 := Lib.hid (HR6.out.keep0 HKn.out)
        have HB6 := Lib.hid HBn.out
        clear HBn HKn HR6 HKw6
        refine (same_any zeroCfg zeroCfg A6 none cap6 0 zero_wf zero_wf V6 (HE.out.keep0 HKV6.out) HRV6.out rd_none).mono ?_
        rintro e W7 ⟨rfl, hk7⟩
        have HK7 := Lib.hid (keep0_trans _ _ _ HKV6.out hk7)
        clear hk7
        rw [sameM_refl]
        go_wp2
        go_ret
        exact ⟨rfl, below_of HK7.out⟩
  case inl =>
    have HM := Lib.hid hm
    have HWq := Lib.hid (may_wf ((may_part c).trans hm))
    have htl := text_len hm
    have hpa := back hm
    obtain ⟨U, hU⟩ : ∃ U, textM c 17 = U := ⟨_, rfl⟩
    rw [showR_ok hm, hU]
    rw [hU] at htl hpa
    have HPa := Lib.hid hpa
    clear hU hpa
    go_wp2_with (refine wpList_load_row rfl 25 _ rfl w.heap.size rfl 25 _ (0, 0) _ HX2.out Tryz.underlying25 rfl infoCfg ?_)
    refine (mayM_any c A cap W2 HR2.out (by omega)).mono ?_
    rintro e W3 ⟨rfl, hk⟩
    have HK3 := Lib.hid (keep0_trans _ _ _ HK2.out hk)
    have HX3 := Lib.hid (HX2.out.keep hk (fun h => h))
    have HR3 := Lib.hid (HR2.out.keep0 hk)
    rw [hm]
    clear hk hm HX2 HR2 HK2
    go_wp2_with fail
    refine (parse_is HPa.out _ (HE.out.keep0 HK3.out) (by omega)).mono ?_
    rintro e W4 ⟨row, A4, cap4, rfl, hs, hr, hk⟩
    have hk4x := Lib.hid hk
    have HR4 := Lib.hid hs.rd
    have HKw4 := Lib.hid (keep0_trans _ _ _ HK3.out hk)
    clear hs hr hk
    go_wp2_with (first | (refine wpList_store_row rfl 25 _ _ rfl W4.heap.size (cfgA (.slice A4 (part c 17).seeds.length cap4) (part c 17).v) rfl rfl 25 _ (Blk.new _ _ _) infoCfg rfl (cfgA_one _ _ _ _) ?_; obtain ⟨hbv, hkv⟩ := row_new (t := 25) W4 zc (cfgA (.slice A4 (part c 17).seeds.length cap4) (part c 17).v); unfold zc at hbv hkv; have HBn := Lib.hid hbv; have HKn := Lib.hid hkv; clear hbv hkv; generalize (W4.alloc (.cells #[.slice none 0 0, .int .i64 0, .int .i64 0, .int .i64 0, .int .i64 0, .int .i64 0, .int .i64 0, .int .i64 0, .int .u8 0, .int .i64 0, .bool false, .bool false, .int .i64 0, .int .i64 0, .int .i64 0, .int .i64 0, .int .i64 0] 25)).setRow W4.heap.size (cfgA (.slice A4 (part c 17).seeds.length cap4) (part c 17).v) = V4 at *; have hk3x := Lib.hid (keep0_trans _ _ _ hk4x.out HKn.out); have HX4x := Lib.hid (HX3.out.keep hk3x.out (fun h => h)); have HR4x := Lib.hid (HR3.out.keep0 hk3x.out)) | (first | (refine wpList_load_rowG rfl 25 _ rfl w.heap.size rfl 25 _ (0, 0) _ HX4x.out Tryz.underlying25 rfl infoCfg ?_) | (refine wpList_load_rowG rfl 25 _ rfl W4.heap.size rfl 25 _ (0, 0) _ HBn.out Tryz.underlying25 rfl infoCfg ?_)))
    have HKV4 := Lib.hid (keep0_trans _ _ _ HKw4.out HKn.out)
    have HRV4 := Lib.hid (HR4.out.keep0 HKn.out)
    have HB4 := Lib.hid HBn.out
    clear HBn HKn HR4 HKw4
    refine (same_any c (part c 17) A A4 cap cap4 HW.out HWq.out V4 (HE.out.keep0 HKV4.out) HR4x.out HRV4.out).mono ?_
    rintro e W5 ⟨rfl, hk5⟩
    have HK5 := Lib.hid (keep0_trans _ _ _ HKV4.out hk5)
    clear hk5
    rw [(same_part c).1]
    go_wp2_with fail
    rcases parse_forms s with ⟨d, hp, hmd⟩ | hp | ⟨l, er, hp, hl, her⟩
    case inl =>
      have HP := Lib.hid hp
      have HMd := Lib.hid hmd
      have HWd := Lib.hid (may_wf hmd)
      have HMp := Lib.hid ((may_part d).trans hmd)
      have HWp := Lib.hid (may_wf HMp.out)
      have hTl := text_len hmd
      have hpb := back hmd
      have hdl := (may_ok hmd).len
      obtain ⟨T, hT⟩ : ∃ T, textM d 17 = T := ⟨_, rfl⟩
      have HT := Lib.hid hT
      rw [hT] at hTl hpb
      have HPb := Lib.hid hpb
      clear hp hmd hpb hT
      refine (parse_is HP.out _ (HE.out.keep0 HK5.out) (by omega)).mono ?_
      rintro e W6 ⟨row, A6, cap6, rfl, hs, hr, hk⟩
      have hk6x := Lib.hid hk
      have HR6 := Lib.hid hs.rd
      have HKw6 := Lib.hid (keep0_trans _ _ _ HK5.out hk)
      clear hs hr hk
      go_wp2_with (first | (refine wpList_store_row rfl 25 _ _ rfl W6.heap.size (cfgA (.slice A6 d.seeds.length cap6) d.v) rfl rfl 25 _ (Blk.new _ _ _) infoCfg rfl (cfgA_one _ _ _ _) ?_; obtain ⟨hbv, hkv⟩ := row_new (t := 25) W6 zc (cfgA (.slice A6 d.seeds.length cap6) d.v); unfold zc at hbv hkv; have HBn := Lib.hid hbv; have HKn := Lib.hid hkv; clear hbv hkv; generalize (W6.alloc (.cells #[.slice none 0 0, .int .i64 0, .int .i64 0, .int .i64 0, .int .i64 0, .int .i64 0, .int .i64 0, .int .i64 0, .int .u8 0, .int .i64 0, .bool false, .bool false, .int .i64 0, .int .i64 0, .int .i64 0, .int .i64 0, .int .i64 0] 25)).setRow W6.heap.size (cfgA (.slice A6 d.seeds.length cap6) d.v) = V6 at *) | (refine wpList_load_row rfl 25 _ rfl W6.heap.size rfl 25 _ (0, 0) _ HBn.out Tryz.underlying25 rfl infoCfg ?_))
      have HKV6 := Lib.hid (keep0_trans _ _ _ HKw6.out HKn.out)
      have HRV6 := Lib.hid (HR6.out.keep0 HKn.out)
      have HB6 := Lib.hid HBn.out
      clear HBn HKn HR6 HKw6
      refine (cshow_any d A6 cap6 HWd.out V6 (HE.out.keep0 HKV6.out) HRV6.out).mono ?_
      rintro e W7 ⟨rfl, hk7⟩
      have HK7 := Lib.hid (keep0_trans _ _ _ HKV6.out hk7)
      have HB7 := Lib.hid (HB6.out.keep hk7 (fun h => h))
      have HR7 := Lib.hid (HRV6.out.keep0 hk7)
      clear hk7
      rw [showR_ok HMd.out, HT.out]
      go_wp2_with fail
      refine (parse_is HPb.out _ (HE.out.keep0 HK7.out) (by omega)).mono ?_
      rintro e W8 ⟨row, A8, cap8, rfl, hs, hr, hk⟩
      have hk8x := Lib.hid hk
      have HR8 := Lib.hid hs.rd
      have HKw8 := Lib.hid (keep0_trans _ _ _ HK7.out hk)
      clear hs hr hk
      go_wp2_with (first | (refine wpList_store_row rfl 25 _ _ rfl W8.heap.size (cfgA (.slice A8 (part d 17).seeds.length cap8) (part d 17).v) rfl rfl 25 _ (Blk.new _ _ _) infoCfg rfl (cfgA_one _ _ _ _) ?_; obtain ⟨hbv, hkv⟩ := row_new (t := 25) W8 zc (cfgA (.slice A8 (part d 17).seeds.length cap8) (part d 17).v); unfold zc at hbv hkv; have HBn := Lib.hid hbv; have HKn := Lib.hid hkv; clear hbv hkv; generalize (W8.alloc (.cells #[.slice none 0 0, .int .i64 0, .int .i64 0, .int .i64 0, .int .i64 0, .int .i64 0, .int .i64 0, .int .i64 0, .int .u8 0, .int .i64 0, .bool false, .bool false, .int .i64 0, .int .i64 0, .int .i64 0, .int .i64 0, .int .i64 0] 25)).setRow W8.heap.size (cfgA (.slice A8 (part d 17).seeds.length cap8) (part d 17).v) = V8 at *; have hk7x := Lib.hid (keep0_trans _ _ _ hk8x.out HKn.out); have HB8x := Lib.hid (HB7.out.keep hk7x.out (fun h => h)); have HR8x := Lib.hid (HR7.out.keep0 hk7x.out)) | (refine wpList_load_row rfl 25 _ rfl W8.heap.size rfl 25 _ (0, 0) _ HBn.out Tryz.underlying25 rfl infoCfg ?_))
      have HKV8 := Lib.hid (keep0_trans _ _ _ HKw8.out HKn.out)
      have HRV8 := Lib.hid (HR8.out.keep0 HKn.out)
      have HB8 := Lib.hid HBn.out
      clear HBn HKn HR8 HKw8
      refine (cshow_any (part d 17) A8 cap8 HWp.out V8 (HE.out.keep0 HKV8.out) HRV8.out).mono ?_
      rintro e W9 ⟨rfl, hk9⟩
      have HK9 := Lib.hid (keep0_trans _ _ _ HKV8.out hk9)
      have HB9 := Lib.hid (HB8x.out.keep hk9 (fun h => h))
      have HR9 := Lib.hid (HR8x.out.keep0 hk9)
      have HC9 := Lib.hid (HB8.out.keep hk9 (fun h => h))
      have HS9 := Lib.hid (HRV8.out.keep0 hk9)
      clear hk9
      rw [showR_ok HMp.out, text_part, HT.out]
      go_wp2_with (refine wpList_load_row rfl 25 _ rfl W6.heap.size rfl 25 _ (0, 0) _ HB9.out Tryz.underlying25 rfl infoCfg ?_)
      refine (mayM_any d A6 cap6 W9 HR9.out (by omega)).mono ?_
      rintro e W10 ⟨rfl, hk10⟩
      have HK10 := Lib.hid (keep0_trans _ _ _ HK9.out hk10)
      have HB10 := Lib.hid (HB9.out.keep hk10 (fun h => h))
      have HR10 := Lib.hid (HR9.out.keep0 hk10)
      have HC10 := Lib.hid (HC9.out.keep hk10 (fun h => h))
      have HS10 := Lib.hid (HS9.out.keep0 hk10)
      clear hk10
      rw [HMd.out]
      go_wp2_with (first | (refine wpList_load_rowG rfl 25 _ rfl W8.heap.size rfl 25 _ (0, 0) _ HC10.out Tryz.underlying25 rfl infoCfg ?_) | (refine wpList_load_rowG rfl 25 _ rfl W6.heap.size rfl 25 _ (0, 0) _ HB10.out Tryz.underlying25 rfl infoCfg ?_))
      refine (same_any (part d 17) d A8 A6 cap8 cap6 HWp.out HWd.out W10 (HE.out.keep0 HK10.out) HS10.out HR10.out).mono ?_
      rintro e W11 ⟨rfl, hk11⟩
      have HK11 := Lib.hid (keep0_trans _ _ _ HK10.out hk11)
      clear hk11
      rw [(same_part d).2]
      go_wp2
      go_ret
      exact ⟨rfl, below_of HK11.out⟩
    case inr.inl =>
      have HP := Lib.hid hp
      clear hp
      refine (parse_is HP.out _ (HE.out.keep0 HK5.out) (by omega)).mono ?_
      rintro e W6 ⟨row, A6, cap6, rfl, hs, hr, hk⟩
      have hk6x := Lib.hid hk
      have HR6 := Lib.hid hs.rd
      have HKw6 := Lib.hid (keep0_trans _ _ _ HK5.out hk)
      clear hs hr hk
      go_wp2_with (first | (refine wpList_store_row rfl 25 _ _ rfl W6.heap.size (cfgA (.slice A6 zeroCfg.seeds.length cap6) zeroCfg.v) rfl rfl 25 _ (Blk.new _ _ _) infoCfg rfl (cfgA_one _ _ _ _) ?_; obtain ⟨hbv, hkv⟩ := row_new (t := 25) W6 zc (cfgA (.slice A6 zeroCfg.seeds.length cap6) zeroCfg.v); unfold zc at hbv hkv; have HBn := Lib.hid hbv; have HKn := Lib.hid hkv; clear hbv hkv; generalize (W6.alloc (.cells #[.slice none 0 0, .int .i64 0, .int .i64 0, .int .i64 0, .int .i64 0, .int .i64 0, .int .i64 0, .int .i64 0, .int .u8 0, .int .i64 0, .bool false, .bool false, .int .i64 0, .int .i64 0, .int .i64 0, .int .i64 0, .int .i64 0] 25)).setRow W6.heap.size (cfgA (.slice A6 zeroCfg.seeds.length cap6) zeroCfg.v) = V6 at *) | (refine wpList_load_row rfl 25 _ rfl W6.heap.size rfl 25 _ (0, 0) _ HBn.out Tryz.underlying25 rfl infoCfg ?_))
      have HKV6 := Lib.hid (keep0_trans _ _ _ HKw6.out HKn.out)
      have HRV6 := Lib.hid (HR6.out.keep0 HKn.out)
      have HB6 := Lib.hid HBn.out
      clear HBn HKn HR6 HKw6
      refine (same_any zeroCfg zeroCfg A6 none cap6 0 zero_wf zero_wf V6 (HE.out.keep0 HKV6.out) HRV6.out rd_none).mono ?_
      rintro e W7 ⟨rfl, hk7⟩
      have HK7 := Lib.hid (keep0_trans _ _ _ HKV6.out hk7)
      clear hk7
      rw [sameM_refl]
      go_wp2
      go_ret
      exact ⟨rfl, below_of HK7.out⟩
    case inr.inr =>
      have HP := Lib.hid hp
      clear hp
      rcases her with rfl | rfl
      all_goals
        refine (parse_is HP.out _ (HE.out.keep0 HK5.out) (by omega)).mono ?_
        rintro e W6 ⟨row, A6, cap6, rfl, hs, hr, hk⟩
        have hk6x := Lib.hid hk
        have HR6 := Lib.hid hs.rd
        have HKw6 := Lib.hid (keep0_trans _ _ _ HK5.out hk)
        clear hs hr hk
        go_wp2_with (first | (refine wpList_store_row rfl 25 _ _ rfl W6.heap.size (cfgA (.slice A6 zeroCfg.seeds.length cap6) zeroCfg.v) rfl rfl 25 _ (Blk.new _ _ _) infoCfg rfl (cfgA_one _ _ _ _) ?_; obtain ⟨hbv, hkv⟩ := row_new (t := 25) W6 zc (cfgA (.slice A6 zeroCfg.seeds.length cap6) zeroCfg.v); unfold zc at hbv hkv; have HBn := Lib.hid hbv; have HKn := Lib.hid hkv; clear hbv hkv; generalize (W6.alloc (.cells #[.slice none 0 0, .int .i64 0, .int .i64 0, .int .i64 0, .int .i64 0, .int .i64 0, .int .i64 0, .int .i64 0, .int .u8 0, .int .i64 0, .bool false, .bool false, .int .i64 0, .int .i64 0, .int .i64 0, .int .i64 0, .int .i64 0] 25)).setRow W6.heap.size (cfgA (.slice A6 zeroCfg.seeds.length cap6) zeroCfg.v) = V6 at *) | (refine wpList_load_row rfl 25 _ rfl W6.heap.size rfl 25 _ (0, 0) _ HBn.out Tryz.underlying25 rfl infoCfg ?_))
        have HKV6 := Lib.hid (keep0_trans _ _ _ HKw6.out HKn.out)
        have HRV6 := Lib.hid (HR6.out.keep0 HKn.out)
        have HB6 := Lib.hid HBn.out
        clear HBn HKn HR6 HKw6
        refine (same_any zeroCfg zeroCfg A6 none cap6 0 zero_wf zero_wf V6 (HE.out.keep0 HKV6.out) HRV6.out rd_none).mono ?_
        rintro e W7 ⟨rfl, hk7⟩
        have HK7 := Lib.hid (keep0_trans _ _ _ HKV6.out hk7)
        clear hk7
        rw [sameM_refl]
        go_wp2
        go_ret
        exact ⟨rfl, below_of HK7.out⟩
end Go.Proofs.YtjgkalcldekmpaaGreatDoor
