/-
  ConfigNames. Written by gen_names.py.
-/
import Derived.Test.YtjgkalcldekmpaaGreatDoorCfgY
import Derived.Test.YtjgkalcldekmpaaGreatDoorCfgFirst
namespace Go.Proofs.YtjgkalcldekmpaaGreatDoor
open Go.RowKit Go Go.Shelf
set_option maxRecDepth 100000
attribute [local go_sem] bs_toList bs_size bs_zero
set_option maxHeartbeats 8000000 in
theorem walkConfigNames {w : World} (hE : Env w) :
    Calls Tryz.prog 7 #[] w fun e w' => e = .returned (.bool true) ∧ Below w.heap.size w w' := by
  have HE := Lib.hid hE
  have tl : txt.length = 125 := by kernel_rfl
  have hc12 : ({ data := #[115, 101, 101, 100, 115, 32, 61, 32, 49, 44, 32, 50, 10, 119, 97, 116, 99, 104, 32, 61, 32, 51, 10, 109, 105, 110, 32, 61, 32, 51, 10, 109, 97, 120, 32, 61, 32, 57, 10, 119, 105, 110, 100, 111, 119, 32, 61, 32, 53, 10, 114, 101, 116, 114, 121, 32, 61, 32, 52, 10, 115, 116, 97, 98, 108, 101, 32, 61, 32, 52, 48, 10, 115, 116, 114, 97, 116, 101, 103, 121, 32, 61, 32, 109, 97, 106, 111, 114, 105, 116, 121, 10, 119, 101, 97, 107, 32, 61, 32, 121, 101, 115, 10, 113, 117, 101, 117, 101, 32, 61, 32, 56, 10, 101, 118, 101, 110, 116, 115, 32, 61, 32, 49, 54, 10] } : ByteArray) ++ ({ data := #[109, 97, 120, 32, 61, 32, 57] } : ByteArray) = bs (txt ++ [109, 97, 120, 32, 61, 32, 57]) := by rw [← bs_cat]; rfl
  have hc13 : ({ data := #[115, 101, 101, 100, 115, 32, 61, 32, 49, 44, 32, 50, 10, 119, 97, 116, 99, 104, 32, 61, 32, 51, 10, 109, 105, 110, 32, 61, 32, 51, 10, 109, 97, 120, 32, 61, 32, 57, 10, 119, 105, 110, 100, 111, 119, 32, 61, 32, 53, 10, 114, 101, 116, 114, 121, 32, 61, 32, 52, 10, 115, 116, 97, 98, 108, 101, 32, 61, 32, 52, 48, 10, 115, 116, 114, 97, 116, 101, 103, 121, 32, 61, 32, 109, 97, 106, 111, 114, 105, 116, 121, 10, 119, 101, 97, 107, 32, 61, 32, 121, 101, 115, 10, 113, 117, 101, 117, 101, 32, 61, 32, 56, 10, 101, 118, 101, 110, 116, 115, 32, 61, 32, 49, 54, 10] } : ByteArray) ++ ({ data := #[35, 32, 116, 104, 101, 32, 101, 110, 100] } : ByteArray) = bs (txt ++ [35, 32, 116, 104, 101, 32, 101, 110, 100]) := by rw [← bs_cat]; rfl
  have ty : bs txt = ({ data := #[115, 101, 101, 100, 115, 32, 61, 32, 49, 44, 32, 50, 10, 119, 97, 116, 99, 104, 32, 61, 32, 51, 10, 109, 105, 110, 32, 61, 32, 51, 10, 109, 97, 120, 32, 61, 32, 57, 10, 119, 105, 110, 100, 111, 119, 32, 61, 32, 53, 10, 114, 101, 116, 114, 121, 32, 61, 32, 52, 10, 115, 116, 97, 98, 108, 101, 32, 61, 32, 52, 48, 10, 115, 116, 114, 97, 116, 101, 103, 121, 32, 61, 32, 109, 97, 106, 111, 114, 105, 116, 121, 10, 119, 101, 97, 107, 32, 61, 32, 121, 101, 115, 10, 113, 117, 101, 117, 101, 32, 61, 32, 56, 10, 101, 118, 101, 110, 116, 115, 32, 61, 32, 49, 54, 10] } : ByteArray) := rfl
  clear hE
  go_enter Tryz.func7, Tryz.ntmps7
  go_wp2_with fail
  refine (some_any w).mono ?_
  rintro e W1 ⟨g, rfl, hG, hgl, hk1⟩
  have HG := Lib.hid hG
  have HK1 := Lib.hid hk1
  clear hG hgl hk1
  go_wp2_with (first | (refine wpList_store_row rfl 25 _ _ rfl W1.heap.size (cfgA (.slice (some ⟨g, 0, none⟩) 2 2) someV) rfl rfl 25 _ (Blk.new _ _ _) infoCfg rfl (cfgA_one _ _ _ _) ?_; obtain ⟨hbv, hkv⟩ := row_new (t := 25) W1 zc (cfgA (.slice (some ⟨g, 0, none⟩) 2 2) someV); unfold zc at hbv hkv; have HBn := Lib.hid hbv; have HKn := Lib.hid hkv; clear hbv hkv; generalize (W1.alloc (.cells #[.slice none 0 0, .int .i64 0, .int .i64 0, .int .i64 0, .int .i64 0, .int .i64 0, .int .i64 0, .int .i64 0, .int .u8 0, .int .i64 0, .bool false, .bool false, .int .i64 0, .int .i64 0, .int .i64 0, .int .i64 0, .int .i64 0] 25)).setRow W1.heap.size (cfgA (.slice (some ⟨g, 0, none⟩) 2 2) someV) = V1 at *) | (refine wpList_load_row rfl 25 _ rfl W1.heap.size rfl 25 _ (0, 0) _ HBn.out Tryz.underlying25 rfl infoCfg ?_))
  refine (cshow_any someC (some ⟨g, 0, none⟩) 2 some_wf V1 (HE.out.keep0 (keep0_trans _ _ _ HK1.out HKn.out)) (rd_some (HG.out.keep HKn.out (fun h => h)))).mono ?_
  rintro e W2 ⟨rfl, hk2⟩
  rw [some_show]
  have HK2 := Lib.hid (keep0_trans _ _ _ (keep0_trans _ _ _ HK1.out HKn.out) hk2)
  clear hk2 HKn HBn HG
  go_wp2
  go_loopw [4] (fun j wr => ∃ i : Nat, i ≤ 22 ∧ j = .int .i64 (i : Int) ∧ Hid (Keep (fun _ => False) w wr)) (fun j _ => 22 - (intOf j).toNat)
  case atStart => exact ⟨0, by omega, rfl, HK2⟩
  case round =>
    obtain ⟨i, hi, rfl, HKk⟩ := hrel
    by_cases hlt : i < 22
    · have q1 : (i : Int) < 22 := by omega
      go_wp2_with fail
      refine (some_any wr).mono ?_
      rintro e W3 ⟨g, rfl, hG, hgl, hk3⟩
      have HG := Lib.hid hG
      have HKr := Lib.hid hk3
      clear hG hk3
      go_upto_region 9 with (first | (refine wpList_store_row rfl 25 _ _ rfl W3.heap.size (cfgA (.slice (some ⟨g, 0, none⟩) 2 2) someV) rfl rfl 25 _ (Blk.new _ _ _) infoCfg rfl (cfgA_one _ _ _ _) ?_; obtain ⟨hbv, hkv⟩ := row_new (t := 25) W3 zc (cfgA (.slice (some ⟨g, 0, none⟩) 2 2) someV); unfold zc at hbv hkv; have HBn := Lib.hid hbv; have HKn := Lib.hid hkv; clear hbv hkv; generalize (W3.alloc (.cells #[.slice none 0 0, .int .i64 0, .int .i64 0, .int .i64 0, .int .i64 0, .int .i64 0, .int .i64 0, .int .i64 0, .int .u8 0, .int .i64 0, .bool false, .bool false, .int .i64 0, .int .i64 0, .int .i64 0, .int .i64 0, .int .i64 0] 25)).setRow W3.heap.size (cfgA (.slice (some ⟨g, 0, none⟩) 2 2) someV) = V3 at *) | fail)
      have HG3 := Lib.hid (HG.out.keep HKn.out (fun h => h))
      have HK3 := Lib.hid (keep0_trans _ _ _ HKr.out HKn.out)
      have hb3 := HKr.out.size
      have hgb : g ≠ W3.heap.size := fun e => by have := HG.out.lt; omega
      have HB3 := Lib.hid HBn.out
      clear HBn HKn HG HKr hgl
      generalize W3.heap.size = b3 at *
      have hsel : i = 0 ∨ i = 1 ∨ i = 2 ∨ i = 3 ∨ i = 4 ∨ i = 5 ∨ i = 6 ∨ i = 7 ∨ i = 8 ∨ i = 9 ∨ i = 10 ∨ i = 11 ∨ i = 12 ∨ i = 13 ∨ i = 14 ∨ i = 15 ∨ i = 16 ∨ i = 17 ∨ i = 18 ∨ i = 19 ∨ i = 20 ∨ i = 21 := by omega
      clear hi hlt q1
      rcases hsel with rfl | rfl | rfl | rfl | rfl | rfl | rfl | rfl | rfl | rfl | rfl | rfl | rfl | rfl | rfl | rfl | rfl | rfl | rfl | rfl | rfl | rfl
      · have c0 : V3.cell? ⟨b3, 0, none⟩ = some (.slice (some ⟨g, 0, none⟩) 2 2) := (HB3.out.cell 0).trans (by kernel_rfl)
        have f0 := HB3.out.frozen 0
        have HBs0 := HB3.out.set_ 0 (.slice none 0 0)
        rw [cfgA_set0] at HBs0
        have HBs := Lib.hid HBs0
        have HKs := Lib.hid (Keep.new (p := ⟨b3, 0, none⟩) HK3.out hb3 (.slice none 0 0))
        have HRs : Hid (RdN (V3.setCell ⟨b3, 0, none⟩ (.slice none 0 0)) none 0 bad0.seeds) := Lib.hid ⟨rfl, fun j hj => by simp at hj⟩
        clear HBs0
        go_upto_region 53 with fail
        clear c0 f0
        generalize V3.setCell ⟨b3, 0, none⟩ (.slice none 0 0) = V4 at HBs HKs HRs ⊢
        go_wp2_with (refine wpList_load_row rfl 25 _ rfl b3 rfl 25 _ (0, 0) _ HBs.out Tryz.underlying25 rfl infoCfg ?_)
        refine (cshow_any bad0 none 0 bad0_wf V4 (HE.out.keep0 (keep0_trans _ _ _ HKk.out HKs.out)) HRs.out).mono ?_
        rintro e W5 ⟨rfl, hk5⟩
        rw [showR_no bad0_may]
        have HBs5 := Lib.hid (HBs.out.keep hk5 (fun h => h))
        have HRs5 := Lib.hid (HRs.out.keep0 hk5)
        have HKs5 := Lib.hid (keep0_trans _ _ _ HKs.out hk5)
        clear hk5
        go_wp2_with (refine wpList_load_row rfl 25 _ rfl b3 rfl 25 _ (0, 0) _ HBs5.out Tryz.underlying25 rfl infoCfg ?_)
        refine (mayM_any bad0 none 0 W5 HRs5.out (by decide)).mono ?_
        rintro e W6 ⟨rfl, hk6⟩
        rw [bad0_may]
        have HKs6 := Lib.hid (keep0_trans _ _ _ HKk.out (keep0_trans _ _ _ HKs5.out hk6))
        clear hk6
        go_wp2
        go_roundw
        case rel => exact ⟨1, by omega, by go_num, HKs6⟩
        case measure => simp [intOf]
      · have c0 : V3.cell? ⟨b3, 0, none⟩ = some (.slice (some ⟨g, 0, none⟩) 2 2) := (HB3.out.cell 0).trans (by kernel_rfl)
        have f0 := HB3.out.frozen 0
        have hka := (Keep.refl (fun _ => False) V3).alloc (.cells #[.int .i64 2, .int .i64 1] 3)
        have c0b := hka.cell c0 (fun h => h)
        have f0b := (HB3.out.keep hka (fun h => h)).frozen 0
        have HBs0 := (HB3.out.keep hka (fun h => h)).set_ 0 (.slice (some ⟨V3.heap.size, 0, none⟩) 2 2)
        have hN := (Blk.new V3 3 #[.int .i64 2, .int .i64 1]).far (p := ⟨b3, 0, none⟩) (by have := HB3.out.lt; simp only; omega) (.slice (some ⟨V3.heap.size, 0, none⟩) 2 2)
        rw [cfgA_set0] at HBs0
        have HBs := Lib.hid HBs0
        have HKs := Lib.hid (Keep.new (p := ⟨b3, 0, none⟩) (keep0_trans _ _ _ HK3.out hka) hb3 (.slice (some ⟨V3.heap.size, 0, none⟩) 2 2))
        have HRs : Hid (RdN ((V3.alloc (.cells #[.int .i64 2, .int .i64 1] 3)).setCell ⟨b3, 0, none⟩ (.slice (some ⟨V3.heap.size, 0, none⟩) 2 2)) (some ⟨V3.heap.size, 0, none⟩) 2 bad1.seeds) := Lib.hid (RdK.of_blk hN 2 1 rfl)
        clear HBs0 hka hN
        go_upto_region 53 with fail
        clear c0 f0 c0b f0b
        generalize V3.heap.size = n3 at *
        generalize (V3.alloc (.cells #[.int .i64 2, .int .i64 1] 3)).setCell ⟨b3, 0, none⟩ (.slice (some ⟨n3, 0, none⟩) 2 2) = V4 at HBs HKs HRs ⊢
        go_wp2_with (refine wpList_load_row rfl 25 _ rfl b3 rfl 25 _ (0, 0) _ HBs.out Tryz.underlying25 rfl infoCfg ?_)
        refine (cshow_any bad1 (some ⟨n3, 0, none⟩) 2 bad1_wf V4 (HE.out.keep0 (keep0_trans _ _ _ HKk.out HKs.out)) HRs.out).mono ?_
        rintro e W5 ⟨rfl, hk5⟩
        rw [showR_no bad1_may]
        have HBs5 := Lib.hid (HBs.out.keep hk5 (fun h => h))
        have HRs5 := Lib.hid (HRs.out.keep0 hk5)
        have HKs5 := Lib.hid (keep0_trans _ _ _ HKs.out hk5)
        clear hk5
        go_wp2_with (refine wpList_load_row rfl 25 _ rfl b3 rfl 25 _ (0, 0) _ HBs5.out Tryz.underlying25 rfl infoCfg ?_)
        refine (mayM_any bad1 (some ⟨n3, 0, none⟩) 2 W5 HRs5.out (by decide)).mono ?_
        rintro e W6 ⟨rfl, hk6⟩
        rw [bad1_may]
        have HKs6 := Lib.hid (keep0_trans _ _ _ HKk.out (keep0_trans _ _ _ HKs5.out hk6))
        clear hk6
        go_wp2
        go_roundw
        case rel => exact ⟨2, by omega, by go_num, HKs6⟩
        case measure => simp [intOf]
      · have c0 : V3.cell? ⟨b3, 0, none⟩ = some (.slice (some ⟨g, 0, none⟩) 2 2) := (HB3.out.cell 0).trans (by kernel_rfl)
        have f0 := HB3.out.frozen 0
        have hka := (Keep.refl (fun _ => False) V3).alloc (.cells #[.int .i64 13] 3)
        have c0b := hka.cell c0 (fun h => h)
        have f0b := (HB3.out.keep hka (fun h => h)).frozen 0
        have HBs0 := (HB3.out.keep hka (fun h => h)).set_ 0 (.slice (some ⟨V3.heap.size, 0, none⟩) 1 1)
        have hN := (Blk.new V3 3 #[.int .i64 13]).far (p := ⟨b3, 0, none⟩) (by have := HB3.out.lt; simp only; omega) (.slice (some ⟨V3.heap.size, 0, none⟩) 1 1)
        rw [cfgA_set0] at HBs0
        have HBs := Lib.hid HBs0
        have HKs := Lib.hid (Keep.new (p := ⟨b3, 0, none⟩) (keep0_trans _ _ _ HK3.out hka) hb3 (.slice (some ⟨V3.heap.size, 0, none⟩) 1 1))
        have HRs : Hid (RdN ((V3.alloc (.cells #[.int .i64 13] 3)).setCell ⟨b3, 0, none⟩ (.slice (some ⟨V3.heap.size, 0, none⟩) 1 1)) (some ⟨V3.heap.size, 0, none⟩) 1 bad2.seeds) := Lib.hid (RdK.of_blk hN 1 1 rfl)
        clear HBs0 hka hN
        go_upto_region 53 with fail
        clear c0 f0 c0b f0b
        generalize V3.heap.size = n3 at *
        generalize (V3.alloc (.cells #[.int .i64 13] 3)).setCell ⟨b3, 0, none⟩ (.slice (some ⟨n3, 0, none⟩) 1 1) = V4 at HBs HKs HRs ⊢
        go_wp2_with (refine wpList_load_row rfl 25 _ rfl b3 rfl 25 _ (0, 0) _ HBs.out Tryz.underlying25 rfl infoCfg ?_)
        refine (cshow_any bad2 (some ⟨n3, 0, none⟩) 1 bad2_wf V4 (HE.out.keep0 (keep0_trans _ _ _ HKk.out HKs.out)) HRs.out).mono ?_
        rintro e W5 ⟨rfl, hk5⟩
        rw [showR_no bad2_may]
        have HBs5 := Lib.hid (HBs.out.keep hk5 (fun h => h))
        have HRs5 := Lib.hid (HRs.out.keep0 hk5)
        have HKs5 := Lib.hid (keep0_trans _ _ _ HKs.out hk5)
        clear hk5
        go_wp2_with (refine wpList_load_row rfl 25 _ rfl b3 rfl 25 _ (0, 0) _ HBs5.out Tryz.underlying25 rfl infoCfg ?_)
        refine (mayM_any bad2 (some ⟨n3, 0, none⟩) 1 W5 HRs5.out (by decide)).mono ?_
        rintro e W6 ⟨rfl, hk6⟩
        rw [bad2_may]
        have HKs6 := Lib.hid (keep0_trans _ _ _ HKk.out (keep0_trans _ _ _ HKs5.out hk6))
        clear hk6
        go_wp2
        go_roundw
        case rel => exact ⟨3, by omega, by go_num, HKs6⟩
        case measure => simp [intOf]
      · have c0 : (V3).cell? ⟨b3, 1, none⟩ = some (.int .i64 3) := ((HB3.out).cell 1).trans (by kernel_rfl)
        have f0 := (HB3.out).frozen 1
        have h0 := (HB3.out).set_ 1 (.int .i64 0)
        rw [show (.int .i64 0 : Value) = cV 1 0 from rfl, cfgA_set _ _ (by decide) (by decide)] at h0
        have hx0 : Blk ((V3).setCell ⟨b3, 1, none⟩ (.int .i64 0)) b3 25 _ := h0
        have k0 := Keep.new (p := ⟨b3, 1, none⟩) (HK3.out) hb3 (.int .i64 0)
        have g0 := (HG3.out).far (p := ⟨b3, 1, none⟩) (by simp only; omega) (.int .i64 0)
        have HBs := Lib.hid hx0
        have HKs := Lib.hid k0
        have HRs : Hid (RdN ((V3).setCell ⟨b3, 1, none⟩ (.int .i64 0)) (some ⟨g, 0, none⟩) 2 bad3.seeds) := Lib.hid (rd_some g0)
        clear h0 hx0 k0 g0
        go_upto_region 53 with fail
        clear c0 f0
        generalize (V3).setCell ⟨b3, 1, none⟩ (.int .i64 0) = V4 at HBs HKs HRs ⊢
        go_wp2_with (refine wpList_load_row rfl 25 _ rfl b3 rfl 25 _ (0, 0) _ HBs.out Tryz.underlying25 rfl infoCfg ?_)
        refine (cshow_any bad3 (some ⟨g, 0, none⟩) 2 bad3_wf V4 (HE.out.keep0 (keep0_trans _ _ _ HKk.out HKs.out)) HRs.out).mono ?_
        rintro e W5 ⟨rfl, hk5⟩
        rw [showR_no bad3_may]
        have HBs5 := Lib.hid (HBs.out.keep hk5 (fun h => h))
        have HRs5 := Lib.hid (HRs.out.keep0 hk5)
        have HKs5 := Lib.hid (keep0_trans _ _ _ HKs.out hk5)
        clear hk5
        go_wp2_with (refine wpList_load_row rfl 25 _ rfl b3 rfl 25 _ (0, 0) _ HBs5.out Tryz.underlying25 rfl infoCfg ?_)
        refine (mayM_any bad3 (some ⟨g, 0, none⟩) 2 W5 HRs5.out (by decide)).mono ?_
        rintro e W6 ⟨rfl, hk6⟩
        rw [bad3_may]
        have HKs6 := Lib.hid (keep0_trans _ _ _ HKk.out (keep0_trans _ _ _ HKs5.out hk6))
        clear hk6
        go_wp2
        go_roundw
        case rel => exact ⟨4, by omega, by go_num, HKs6⟩
        case measure => simp [intOf]
      · have c0 : (V3).cell? ⟨b3, 1, none⟩ = some (.int .i64 3) := ((HB3.out).cell 1).trans (by kernel_rfl)
        have f0 := (HB3.out).frozen 1
        have h0 := (HB3.out).set_ 1 (.int .i64 13)
        rw [show (.int .i64 13 : Value) = cV 1 13 from rfl, cfgA_set _ _ (by decide) (by decide)] at h0
        have hx0 : Blk ((V3).setCell ⟨b3, 1, none⟩ (.int .i64 13)) b3 25 _ := h0
        have k0 := Keep.new (p := ⟨b3, 1, none⟩) (HK3.out) hb3 (.int .i64 13)
        have g0 := (HG3.out).far (p := ⟨b3, 1, none⟩) (by simp only; omega) (.int .i64 13)
        have HBs := Lib.hid hx0
        have HKs := Lib.hid k0
        have HRs : Hid (RdN ((V3).setCell ⟨b3, 1, none⟩ (.int .i64 13)) (some ⟨g, 0, none⟩) 2 bad4.seeds) := Lib.hid (rd_some g0)
        clear h0 hx0 k0 g0
        go_upto_region 53 with fail
        clear c0 f0
        generalize (V3).setCell ⟨b3, 1, none⟩ (.int .i64 13) = V4 at HBs HKs HRs ⊢
        go_wp2_with (refine wpList_load_row rfl 25 _ rfl b3 rfl 25 _ (0, 0) _ HBs.out Tryz.underlying25 rfl infoCfg ?_)
        refine (cshow_any bad4 (some ⟨g, 0, none⟩) 2 bad4_wf V4 (HE.out.keep0 (keep0_trans _ _ _ HKk.out HKs.out)) HRs.out).mono ?_
        rintro e W5 ⟨rfl, hk5⟩
        rw [showR_no bad4_may]
        have HBs5 := Lib.hid (HBs.out.keep hk5 (fun h => h))
        have HRs5 := Lib.hid (HRs.out.keep0 hk5)
        have HKs5 := Lib.hid (keep0_trans _ _ _ HKs.out hk5)
        clear hk5
        go_wp2_with (refine wpList_load_row rfl 25 _ rfl b3 rfl 25 _ (0, 0) _ HBs5.out Tryz.underlying25 rfl infoCfg ?_)
        refine (mayM_any bad4 (some ⟨g, 0, none⟩) 2 W5 HRs5.out (by decide)).mono ?_
        rintro e W6 ⟨rfl, hk6⟩
        rw [bad4_may]
        have HKs6 := Lib.hid (keep0_trans _ _ _ HKk.out (keep0_trans _ _ _ HKs5.out hk6))
        clear hk6
        go_wp2
        go_roundw
        case rel => exact ⟨5, by omega, by go_num, HKs6⟩
        case measure => simp [intOf]
      · have c0 : (V3).cell? ⟨b3, 2, none⟩ = some (.int .i64 3) := ((HB3.out).cell 2).trans (by kernel_rfl)
        have f0 := (HB3.out).frozen 2
        have h0 := (HB3.out).set_ 2 (.int .i64 10)
        rw [show (.int .i64 10 : Value) = cV 2 10 from rfl, cfgA_set _ _ (by decide) (by decide)] at h0
        have hx0 : Blk ((V3).setCell ⟨b3, 2, none⟩ (.int .i64 10)) b3 25 _ := h0
        have k0 := Keep.new (p := ⟨b3, 2, none⟩) (HK3.out) hb3 (.int .i64 10)
        have g0 := (HG3.out).far (p := ⟨b3, 2, none⟩) (by simp only; omega) (.int .i64 10)
        have HBs := Lib.hid hx0
        have HKs := Lib.hid k0
        have HRs : Hid (RdN ((V3).setCell ⟨b3, 2, none⟩ (.int .i64 10)) (some ⟨g, 0, none⟩) 2 bad5.seeds) := Lib.hid (rd_some g0)
        clear h0 hx0 k0 g0
        go_upto_region 53 with fail
        clear c0 f0
        generalize (V3).setCell ⟨b3, 2, none⟩ (.int .i64 10) = V4 at HBs HKs HRs ⊢
        go_wp2_with (refine wpList_load_row rfl 25 _ rfl b3 rfl 25 _ (0, 0) _ HBs.out Tryz.underlying25 rfl infoCfg ?_)
        refine (cshow_any bad5 (some ⟨g, 0, none⟩) 2 bad5_wf V4 (HE.out.keep0 (keep0_trans _ _ _ HKk.out HKs.out)) HRs.out).mono ?_
        rintro e W5 ⟨rfl, hk5⟩
        rw [showR_no bad5_may]
        have HBs5 := Lib.hid (HBs.out.keep hk5 (fun h => h))
        have HRs5 := Lib.hid (HRs.out.keep0 hk5)
        have HKs5 := Lib.hid (keep0_trans _ _ _ HKs.out hk5)
        clear hk5
        go_wp2_with (refine wpList_load_row rfl 25 _ rfl b3 rfl 25 _ (0, 0) _ HBs5.out Tryz.underlying25 rfl infoCfg ?_)
        refine (mayM_any bad5 (some ⟨g, 0, none⟩) 2 W5 HRs5.out (by decide)).mono ?_
        rintro e W6 ⟨rfl, hk6⟩
        rw [bad5_may]
        have HKs6 := Lib.hid (keep0_trans _ _ _ HKk.out (keep0_trans _ _ _ HKs5.out hk6))
        clear hk6
        go_wp2
        go_roundw
        case rel => exact ⟨6, by omega, by go_num, HKs6⟩
        case measure => simp [intOf]
      · have c0 : (V3).cell? ⟨b3, 2, none⟩ = some (.int .i64 3) := ((HB3.out).cell 2).trans (by kernel_rfl)
        have f0 := (HB3.out).frozen 2
        have h0 := (HB3.out).set_ 2 (.int .i64 0)
        rw [show (.int .i64 0 : Value) = cV 2 0 from rfl, cfgA_set _ _ (by decide) (by decide)] at h0
        have hx0 : Blk ((V3).setCell ⟨b3, 2, none⟩ (.int .i64 0)) b3 25 _ := h0
        have k0 := Keep.new (p := ⟨b3, 2, none⟩) (HK3.out) hb3 (.int .i64 0)
        have g0 := (HG3.out).far (p := ⟨b3, 2, none⟩) (by simp only; omega) (.int .i64 0)
        have HBs := Lib.hid hx0
        have HKs := Lib.hid k0
        have HRs : Hid (RdN ((V3).setCell ⟨b3, 2, none⟩ (.int .i64 0)) (some ⟨g, 0, none⟩) 2 bad6.seeds) := Lib.hid (rd_some g0)
        clear h0 hx0 k0 g0
        go_upto_region 53 with fail
        clear c0 f0
        generalize (V3).setCell ⟨b3, 2, none⟩ (.int .i64 0) = V4 at HBs HKs HRs ⊢
        go_wp2_with (refine wpList_load_row rfl 25 _ rfl b3 rfl 25 _ (0, 0) _ HBs.out Tryz.underlying25 rfl infoCfg ?_)
        refine (cshow_any bad6 (some ⟨g, 0, none⟩) 2 bad6_wf V4 (HE.out.keep0 (keep0_trans _ _ _ HKk.out HKs.out)) HRs.out).mono ?_
        rintro e W5 ⟨rfl, hk5⟩
        rw [showR_no bad6_may]
        have HBs5 := Lib.hid (HBs.out.keep hk5 (fun h => h))
        have HRs5 := Lib.hid (HRs.out.keep0 hk5)
        have HKs5 := Lib.hid (keep0_trans _ _ _ HKs.out hk5)
        clear hk5
        go_wp2_with (refine wpList_load_row rfl 25 _ rfl b3 rfl 25 _ (0, 0) _ HBs5.out Tryz.underlying25 rfl infoCfg ?_)
        refine (mayM_any bad6 (some ⟨g, 0, none⟩) 2 W5 HRs5.out (by decide)).mono ?_
        rintro e W6 ⟨rfl, hk6⟩
        rw [bad6_may]
        have HKs6 := Lib.hid (keep0_trans _ _ _ HKk.out (keep0_trans _ _ _ HKs5.out hk6))
        clear hk6
        go_wp2
        go_roundw
        case rel => exact ⟨7, by omega, by go_num, HKs6⟩
        case measure => simp [intOf]
      · have c0 : (V3).cell? ⟨b3, 3, none⟩ = some (.int .i64 9) := ((HB3.out).cell 3).trans (by kernel_rfl)
        have f0 := (HB3.out).frozen 3
        have h0 := (HB3.out).set_ 3 (.int .i64 4097)
        rw [show (.int .i64 4097 : Value) = cV 3 4097 from rfl, cfgA_set _ _ (by decide) (by decide)] at h0
        have hx0 : Blk ((V3).setCell ⟨b3, 3, none⟩ (.int .i64 4097)) b3 25 _ := h0
        have k0 := Keep.new (p := ⟨b3, 3, none⟩) (HK3.out) hb3 (.int .i64 4097)
        have g0 := (HG3.out).far (p := ⟨b3, 3, none⟩) (by simp only; omega) (.int .i64 4097)
        have HBs := Lib.hid hx0
        have HKs := Lib.hid k0
        have HRs : Hid (RdN ((V3).setCell ⟨b3, 3, none⟩ (.int .i64 4097)) (some ⟨g, 0, none⟩) 2 bad7.seeds) := Lib.hid (rd_some g0)
        clear h0 hx0 k0 g0
        go_upto_region 53 with fail
        clear c0 f0
        generalize (V3).setCell ⟨b3, 3, none⟩ (.int .i64 4097) = V4 at HBs HKs HRs ⊢
        go_wp2_with (refine wpList_load_row rfl 25 _ rfl b3 rfl 25 _ (0, 0) _ HBs.out Tryz.underlying25 rfl infoCfg ?_)
        refine (cshow_any bad7 (some ⟨g, 0, none⟩) 2 bad7_wf V4 (HE.out.keep0 (keep0_trans _ _ _ HKk.out HKs.out)) HRs.out).mono ?_
        rintro e W5 ⟨rfl, hk5⟩
        rw [showR_no bad7_may]
        have HBs5 := Lib.hid (HBs.out.keep hk5 (fun h => h))
        have HRs5 := Lib.hid (HRs.out.keep0 hk5)
        have HKs5 := Lib.hid (keep0_trans _ _ _ HKs.out hk5)
        clear hk5
        go_wp2_with (refine wpList_load_row rfl 25 _ rfl b3 rfl 25 _ (0, 0) _ HBs5.out Tryz.underlying25 rfl infoCfg ?_)
        refine (mayM_any bad7 (some ⟨g, 0, none⟩) 2 W5 HRs5.out (by decide)).mono ?_
        rintro e W6 ⟨rfl, hk6⟩
        rw [bad7_may]
        have HKs6 := Lib.hid (keep0_trans _ _ _ HKk.out (keep0_trans _ _ _ HKs5.out hk6))
        clear hk6
        go_wp2
        go_roundw
        case rel => exact ⟨8, by omega, by go_num, HKs6⟩
        case measure => simp [intOf]
      · have c0 : (V3).cell? ⟨b3, 4, none⟩ = some (.int .i64 5) := ((HB3.out).cell 4).trans (by kernel_rfl)
        have f0 := (HB3.out).frozen 4
        have h0 := (HB3.out).set_ 4 (.int .i64 0)
        rw [show (.int .i64 0 : Value) = cV 4 0 from rfl, cfgA_set _ _ (by decide) (by decide)] at h0
        have hx0 : Blk ((V3).setCell ⟨b3, 4, none⟩ (.int .i64 0)) b3 25 _ := h0
        have k0 := Keep.new (p := ⟨b3, 4, none⟩) (HK3.out) hb3 (.int .i64 0)
        have g0 := (HG3.out).far (p := ⟨b3, 4, none⟩) (by simp only; omega) (.int .i64 0)
        have HBs := Lib.hid hx0
        have HKs := Lib.hid k0
        have HRs : Hid (RdN ((V3).setCell ⟨b3, 4, none⟩ (.int .i64 0)) (some ⟨g, 0, none⟩) 2 bad8.seeds) := Lib.hid (rd_some g0)
        clear h0 hx0 k0 g0
        go_upto_region 53 with fail
        clear c0 f0
        generalize (V3).setCell ⟨b3, 4, none⟩ (.int .i64 0) = V4 at HBs HKs HRs ⊢
        go_wp2_with (refine wpList_load_row rfl 25 _ rfl b3 rfl 25 _ (0, 0) _ HBs.out Tryz.underlying25 rfl infoCfg ?_)
        refine (cshow_any bad8 (some ⟨g, 0, none⟩) 2 bad8_wf V4 (HE.out.keep0 (keep0_trans _ _ _ HKk.out HKs.out)) HRs.out).mono ?_
        rintro e W5 ⟨rfl, hk5⟩
        rw [showR_no bad8_may]
        have HBs5 := Lib.hid (HBs.out.keep hk5 (fun h => h))
        have HRs5 := Lib.hid (HRs.out.keep0 hk5)
        have HKs5 := Lib.hid (keep0_trans _ _ _ HKs.out hk5)
        clear hk5
        go_wp2_with (refine wpList_load_row rfl 25 _ rfl b3 rfl 25 _ (0, 0) _ HBs5.out Tryz.underlying25 rfl infoCfg ?_)
        refine (mayM_any bad8 (some ⟨g, 0, none⟩) 2 W5 HRs5.out (by decide)).mono ?_
        rintro e W6 ⟨rfl, hk6⟩
        rw [bad8_may]
        have HKs6 := Lib.hid (keep0_trans _ _ _ HKk.out (keep0_trans _ _ _ HKs5.out hk6))
        clear hk6
        go_wp2
        go_roundw
        case rel => exact ⟨9, by omega, by go_num, HKs6⟩
        case measure => simp [intOf]
      · have c0 : (V3).cell? ⟨b3, 5, none⟩ = some (.int .i64 4) := ((HB3.out).cell 5).trans (by kernel_rfl)
        have f0 := (HB3.out).frozen 5
        have h0 := (HB3.out).set_ 5 (.int .i64 4097)
        rw [show (.int .i64 4097 : Value) = cV 5 4097 from rfl, cfgA_set _ _ (by decide) (by decide)] at h0
        have hx0 : Blk ((V3).setCell ⟨b3, 5, none⟩ (.int .i64 4097)) b3 25 _ := h0
        have k0 := Keep.new (p := ⟨b3, 5, none⟩) (HK3.out) hb3 (.int .i64 4097)
        have g0 := (HG3.out).far (p := ⟨b3, 5, none⟩) (by simp only; omega) (.int .i64 4097)
        have HBs := Lib.hid hx0
        have HKs := Lib.hid k0
        have HRs : Hid (RdN ((V3).setCell ⟨b3, 5, none⟩ (.int .i64 4097)) (some ⟨g, 0, none⟩) 2 bad9.seeds) := Lib.hid (rd_some g0)
        clear h0 hx0 k0 g0
        go_upto_region 53 with fail
        clear c0 f0
        generalize (V3).setCell ⟨b3, 5, none⟩ (.int .i64 4097) = V4 at HBs HKs HRs ⊢
        go_wp2_with (refine wpList_load_row rfl 25 _ rfl b3 rfl 25 _ (0, 0) _ HBs.out Tryz.underlying25 rfl infoCfg ?_)
        refine (cshow_any bad9 (some ⟨g, 0, none⟩) 2 bad9_wf V4 (HE.out.keep0 (keep0_trans _ _ _ HKk.out HKs.out)) HRs.out).mono ?_
        rintro e W5 ⟨rfl, hk5⟩
        rw [showR_no bad9_may]
        have HBs5 := Lib.hid (HBs.out.keep hk5 (fun h => h))
        have HRs5 := Lib.hid (HRs.out.keep0 hk5)
        have HKs5 := Lib.hid (keep0_trans _ _ _ HKs.out hk5)
        clear hk5
        go_wp2_with (refine wpList_load_row rfl 25 _ rfl b3 rfl 25 _ (0, 0) _ HBs5.out Tryz.underlying25 rfl infoCfg ?_)
        refine (mayM_any bad9 (some ⟨g, 0, none⟩) 2 W5 HRs5.out (by decide)).mono ?_
        rintro e W6 ⟨rfl, hk6⟩
        rw [bad9_may]
        have HKs6 := Lib.hid (keep0_trans _ _ _ HKk.out (keep0_trans _ _ _ HKs5.out hk6))
        clear hk6
        go_wp2
        go_roundw
        case rel => exact ⟨10, by omega, by go_num, HKs6⟩
        case measure => simp [intOf]
      · have c0 : (V3).cell? ⟨b3, 6, none⟩ = some (.int .i64 40) := ((HB3.out).cell 6).trans (by kernel_rfl)
        have f0 := (HB3.out).frozen 6
        have h0 := (HB3.out).set_ 6 (.int .i64 0)
        rw [show (.int .i64 0 : Value) = cV 6 0 from rfl, cfgA_set _ _ (by decide) (by decide)] at h0
        have hx0 : Blk ((V3).setCell ⟨b3, 6, none⟩ (.int .i64 0)) b3 25 _ := h0
        have k0 := Keep.new (p := ⟨b3, 6, none⟩) (HK3.out) hb3 (.int .i64 0)
        have g0 := (HG3.out).far (p := ⟨b3, 6, none⟩) (by simp only; omega) (.int .i64 0)
        have HBs := Lib.hid hx0
        have HKs := Lib.hid k0
        have HRs : Hid (RdN ((V3).setCell ⟨b3, 6, none⟩ (.int .i64 0)) (some ⟨g, 0, none⟩) 2 bad10.seeds) := Lib.hid (rd_some g0)
        clear h0 hx0 k0 g0
        go_upto_region 53 with fail
        clear c0 f0
        generalize (V3).setCell ⟨b3, 6, none⟩ (.int .i64 0) = V4 at HBs HKs HRs ⊢
        go_wp2_with (refine wpList_load_row rfl 25 _ rfl b3 rfl 25 _ (0, 0) _ HBs.out Tryz.underlying25 rfl infoCfg ?_)
        refine (cshow_any bad10 (some ⟨g, 0, none⟩) 2 bad10_wf V4 (HE.out.keep0 (keep0_trans _ _ _ HKk.out HKs.out)) HRs.out).mono ?_
        rintro e W5 ⟨rfl, hk5⟩
        rw [showR_no bad10_may]
        have HBs5 := Lib.hid (HBs.out.keep hk5 (fun h => h))
        have HRs5 := Lib.hid (HRs.out.keep0 hk5)
        have HKs5 := Lib.hid (keep0_trans _ _ _ HKs.out hk5)
        clear hk5
        go_wp2_with (refine wpList_load_row rfl 25 _ rfl b3 rfl 25 _ (0, 0) _ HBs5.out Tryz.underlying25 rfl infoCfg ?_)
        refine (mayM_any bad10 (some ⟨g, 0, none⟩) 2 W5 HRs5.out (by decide)).mono ?_
        rintro e W6 ⟨rfl, hk6⟩
        rw [bad10_may]
        have HKs6 := Lib.hid (keep0_trans _ _ _ HKk.out (keep0_trans _ _ _ HKs5.out hk6))
        clear hk6
        go_wp2
        go_roundw
        case rel => exact ⟨11, by omega, by go_num, HKs6⟩
        case measure => simp [intOf]
      · have c0 : (V3).cell? ⟨b3, 7, none⟩ = some (.int .i64 0) := ((HB3.out).cell 7).trans (by kernel_rfl)
        have f0 := (HB3.out).frozen 7
        have h0 := (HB3.out).set_ 7 (.int .i64 (-1))
        rw [show (.int .i64 (-1) : Value) = cV 7 (-1) from rfl, cfgA_set _ _ (by decide) (by decide)] at h0
        have hx0 : Blk ((V3).setCell ⟨b3, 7, none⟩ (.int .i64 (-1))) b3 25 _ := h0
        have k0 := Keep.new (p := ⟨b3, 7, none⟩) (HK3.out) hb3 (.int .i64 (-1))
        have g0 := (HG3.out).far (p := ⟨b3, 7, none⟩) (by simp only; omega) (.int .i64 (-1))
        have HBs := Lib.hid hx0
        have HKs := Lib.hid k0
        have HRs : Hid (RdN ((V3).setCell ⟨b3, 7, none⟩ (.int .i64 (-1))) (some ⟨g, 0, none⟩) 2 bad11.seeds) := Lib.hid (rd_some g0)
        clear h0 hx0 k0 g0
        go_upto_region 53 with fail
        clear c0 f0
        generalize (V3).setCell ⟨b3, 7, none⟩ (.int .i64 (-1)) = V4 at HBs HKs HRs ⊢
        go_wp2_with (refine wpList_load_row rfl 25 _ rfl b3 rfl 25 _ (0, 0) _ HBs.out Tryz.underlying25 rfl infoCfg ?_)
        refine (cshow_any bad11 (some ⟨g, 0, none⟩) 2 bad11_wf V4 (HE.out.keep0 (keep0_trans _ _ _ HKk.out HKs.out)) HRs.out).mono ?_
        rintro e W5 ⟨rfl, hk5⟩
        rw [showR_no bad11_may]
        have HBs5 := Lib.hid (HBs.out.keep hk5 (fun h => h))
        have HRs5 := Lib.hid (HRs.out.keep0 hk5)
        have HKs5 := Lib.hid (keep0_trans _ _ _ HKs.out hk5)
        clear hk5
        go_wp2_with (refine wpList_load_row rfl 25 _ rfl b3 rfl 25 _ (0, 0) _ HBs5.out Tryz.underlying25 rfl infoCfg ?_)
        refine (mayM_any bad11 (some ⟨g, 0, none⟩) 2 W5 HRs5.out (by decide)).mono ?_
        rintro e W6 ⟨rfl, hk6⟩
        rw [bad11_may]
        have HKs6 := Lib.hid (keep0_trans _ _ _ HKk.out (keep0_trans _ _ _ HKs5.out hk6))
        clear hk6
        go_wp2
        go_roundw
        case rel => exact ⟨12, by omega, by go_num, HKs6⟩
        case measure => simp [intOf]
      · have c0 : (V3).cell? ⟨b3, 8, none⟩ = some (.int .u8 2) := ((HB3.out).cell 8).trans (by kernel_rfl)
        have f0 := (HB3.out).frozen 8
        have h0 := (HB3.out).set_ 8 (.int .u8 0)
        rw [show (.int .u8 0 : Value) = cV 8 0 from rfl, cfgA_set _ _ (by decide) (by decide)] at h0
        have hx0 : Blk ((V3).setCell ⟨b3, 8, none⟩ (.int .u8 0)) b3 25 _ := h0
        have k0 := Keep.new (p := ⟨b3, 8, none⟩) (HK3.out) hb3 (.int .u8 0)
        have g0 := (HG3.out).far (p := ⟨b3, 8, none⟩) (by simp only; omega) (.int .u8 0)
        have HBs := Lib.hid hx0
        have HKs := Lib.hid k0
        have HRs : Hid (RdN ((V3).setCell ⟨b3, 8, none⟩ (.int .u8 0)) (some ⟨g, 0, none⟩) 2 bad12.seeds) := Lib.hid (rd_some g0)
        clear h0 hx0 k0 g0
        go_upto_region 53 with fail
        clear c0 f0
        generalize (V3).setCell ⟨b3, 8, none⟩ (.int .u8 0) = V4 at HBs HKs HRs ⊢
        go_wp2_with (refine wpList_load_row rfl 25 _ rfl b3 rfl 25 _ (0, 0) _ HBs.out Tryz.underlying25 rfl infoCfg ?_)
        refine (cshow_any bad12 (some ⟨g, 0, none⟩) 2 bad12_wf V4 (HE.out.keep0 (keep0_trans _ _ _ HKk.out HKs.out)) HRs.out).mono ?_
        rintro e W5 ⟨rfl, hk5⟩
        rw [showR_no bad12_may]
        have HBs5 := Lib.hid (HBs.out.keep hk5 (fun h => h))
        have HRs5 := Lib.hid (HRs.out.keep0 hk5)
        have HKs5 := Lib.hid (keep0_trans _ _ _ HKs.out hk5)
        clear hk5
        go_wp2_with (refine wpList_load_row rfl 25 _ rfl b3 rfl 25 _ (0, 0) _ HBs5.out Tryz.underlying25 rfl infoCfg ?_)
        refine (mayM_any bad12 (some ⟨g, 0, none⟩) 2 W5 HRs5.out (by decide)).mono ?_
        rintro e W6 ⟨rfl, hk6⟩
        rw [bad12_may]
        have HKs6 := Lib.hid (keep0_trans _ _ _ HKk.out (keep0_trans _ _ _ HKs5.out hk6))
        clear hk6
        go_wp2
        go_roundw
        case rel => exact ⟨13, by omega, by go_num, HKs6⟩
        case measure => simp [intOf]
      · have c0 : (V3).cell? ⟨b3, 8, none⟩ = some (.int .u8 2) := ((HB3.out).cell 8).trans (by kernel_rfl)
        have f0 := (HB3.out).frozen 8
        have h0 := (HB3.out).set_ 8 (.int .u8 5)
        rw [show (.int .u8 5 : Value) = cV 8 5 from rfl, cfgA_set _ _ (by decide) (by decide)] at h0
        have hx0 : Blk ((V3).setCell ⟨b3, 8, none⟩ (.int .u8 5)) b3 25 _ := h0
        have k0 := Keep.new (p := ⟨b3, 8, none⟩) (HK3.out) hb3 (.int .u8 5)
        have g0 := (HG3.out).far (p := ⟨b3, 8, none⟩) (by simp only; omega) (.int .u8 5)
        have HBs := Lib.hid hx0
        have HKs := Lib.hid k0
        have HRs : Hid (RdN ((V3).setCell ⟨b3, 8, none⟩ (.int .u8 5)) (some ⟨g, 0, none⟩) 2 bad13.seeds) := Lib.hid (rd_some g0)
        clear h0 hx0 k0 g0
        go_upto_region 53 with fail
        clear c0 f0
        generalize (V3).setCell ⟨b3, 8, none⟩ (.int .u8 5) = V4 at HBs HKs HRs ⊢
        go_wp2_with (refine wpList_load_row rfl 25 _ rfl b3 rfl 25 _ (0, 0) _ HBs.out Tryz.underlying25 rfl infoCfg ?_)
        refine (cshow_any bad13 (some ⟨g, 0, none⟩) 2 bad13_wf V4 (HE.out.keep0 (keep0_trans _ _ _ HKk.out HKs.out)) HRs.out).mono ?_
        rintro e W5 ⟨rfl, hk5⟩
        rw [showR_no bad13_may]
        have HBs5 := Lib.hid (HBs.out.keep hk5 (fun h => h))
        have HRs5 := Lib.hid (HRs.out.keep0 hk5)
        have HKs5 := Lib.hid (keep0_trans _ _ _ HKs.out hk5)
        clear hk5
        go_wp2_with (refine wpList_load_row rfl 25 _ rfl b3 rfl 25 _ (0, 0) _ HBs5.out Tryz.underlying25 rfl infoCfg ?_)
        refine (mayM_any bad13 (some ⟨g, 0, none⟩) 2 W5 HRs5.out (by decide)).mono ?_
        rintro e W6 ⟨rfl, hk6⟩
        rw [bad13_may]
        have HKs6 := Lib.hid (keep0_trans _ _ _ HKk.out (keep0_trans _ _ _ HKs5.out hk6))
        clear hk6
        go_wp2
        go_roundw
        case rel => exact ⟨14, by omega, by go_num, HKs6⟩
        case measure => simp [intOf]
      · have c0 : (V3).cell? ⟨b3, 9, none⟩ = some (.int .i64 0) := ((HB3.out).cell 9).trans (by kernel_rfl)
        have f0 := (HB3.out).frozen 9
        have h0 := (HB3.out).set_ 9 (.int .i64 1)
        rw [show (.int .i64 1 : Value) = cV 9 1 from rfl, cfgA_set _ _ (by decide) (by decide)] at h0
        have hx0 : Blk ((V3).setCell ⟨b3, 9, none⟩ (.int .i64 1)) b3 25 _ := h0
        have k0 := Keep.new (p := ⟨b3, 9, none⟩) (HK3.out) hb3 (.int .i64 1)
        have g0 := (HG3.out).far (p := ⟨b3, 9, none⟩) (by simp only; omega) (.int .i64 1)
        have HBs := Lib.hid hx0
        have HKs := Lib.hid k0
        have HRs : Hid (RdN ((V3).setCell ⟨b3, 9, none⟩ (.int .i64 1)) (some ⟨g, 0, none⟩) 2 bad14.seeds) := Lib.hid (rd_some g0)
        clear h0 hx0 k0 g0
        go_upto_region 53 with fail
        clear c0 f0
        generalize (V3).setCell ⟨b3, 9, none⟩ (.int .i64 1) = V4 at HBs HKs HRs ⊢
        go_wp2_with (refine wpList_load_row rfl 25 _ rfl b3 rfl 25 _ (0, 0) _ HBs.out Tryz.underlying25 rfl infoCfg ?_)
        refine (cshow_any bad14 (some ⟨g, 0, none⟩) 2 bad14_wf V4 (HE.out.keep0 (keep0_trans _ _ _ HKk.out HKs.out)) HRs.out).mono ?_
        rintro e W5 ⟨rfl, hk5⟩
        rw [showR_no bad14_may]
        have HBs5 := Lib.hid (HBs.out.keep hk5 (fun h => h))
        have HRs5 := Lib.hid (HRs.out.keep0 hk5)
        have HKs5 := Lib.hid (keep0_trans _ _ _ HKs.out hk5)
        clear hk5
        go_wp2_with (refine wpList_load_row rfl 25 _ rfl b3 rfl 25 _ (0, 0) _ HBs5.out Tryz.underlying25 rfl infoCfg ?_)
        refine (mayM_any bad14 (some ⟨g, 0, none⟩) 2 W5 HRs5.out (by decide)).mono ?_
        rintro e W6 ⟨rfl, hk6⟩
        rw [bad14_may]
        have HKs6 := Lib.hid (keep0_trans _ _ _ HKk.out (keep0_trans _ _ _ HKs5.out hk6))
        clear hk6
        go_wp2
        go_roundw
        case rel => exact ⟨15, by omega, by go_num, HKs6⟩
        case measure => simp [intOf]
      · have c0 : (V3).cell? ⟨b3, 10, none⟩ = some (.bool false) := ((HB3.out).cell 10).trans (by kernel_rfl)
        have f0 := (HB3.out).frozen 10
        have h0 := (HB3.out).set_ 10 (.bool true)
        rw [show (.bool true : Value) = cV 10 1 from rfl, cfgA_set _ _ (by decide) (by decide)] at h0
        have hx0 : Blk ((V3).setCell ⟨b3, 10, none⟩ (.bool true)) b3 25 _ := h0
        have k0 := Keep.new (p := ⟨b3, 10, none⟩) (HK3.out) hb3 (.bool true)
        have g0 := (HG3.out).far (p := ⟨b3, 10, none⟩) (by simp only; omega) (.bool true)
        have HBs := Lib.hid hx0
        have HKs := Lib.hid k0
        have HRs : Hid (RdN ((V3).setCell ⟨b3, 10, none⟩ (.bool true)) (some ⟨g, 0, none⟩) 2 bad15.seeds) := Lib.hid (rd_some g0)
        clear h0 hx0 k0 g0
        go_upto_region 53 with fail
        clear c0 f0
        generalize (V3).setCell ⟨b3, 10, none⟩ (.bool true) = V4 at HBs HKs HRs ⊢
        go_wp2_with (refine wpList_load_row rfl 25 _ rfl b3 rfl 25 _ (0, 0) _ HBs.out Tryz.underlying25 rfl infoCfg ?_)
        refine (cshow_any bad15 (some ⟨g, 0, none⟩) 2 bad15_wf V4 (HE.out.keep0 (keep0_trans _ _ _ HKk.out HKs.out)) HRs.out).mono ?_
        rintro e W5 ⟨rfl, hk5⟩
        rw [showR_no bad15_may]
        have HBs5 := Lib.hid (HBs.out.keep hk5 (fun h => h))
        have HRs5 := Lib.hid (HRs.out.keep0 hk5)
        have HKs5 := Lib.hid (keep0_trans _ _ _ HKs.out hk5)
        clear hk5
        go_wp2_with (refine wpList_load_row rfl 25 _ rfl b3 rfl 25 _ (0, 0) _ HBs5.out Tryz.underlying25 rfl infoCfg ?_)
        refine (mayM_any bad15 (some ⟨g, 0, none⟩) 2 W5 HRs5.out (by decide)).mono ?_
        rintro e W6 ⟨rfl, hk6⟩
        rw [bad15_may]
        have HKs6 := Lib.hid (keep0_trans _ _ _ HKk.out (keep0_trans _ _ _ HKs5.out hk6))
        clear hk6
        go_wp2
        go_roundw
        case rel => exact ⟨16, by omega, by go_num, HKs6⟩
        case measure => simp [intOf]
      · have c0 : (V3).cell? ⟨b3, 13, none⟩ = some (.int .i64 0) := ((HB3.out).cell 13).trans (by kernel_rfl)
        have f0 := (HB3.out).frozen 13
        have h0 := (HB3.out).set_ 13 (.int .i64 5)
        rw [show (.int .i64 5 : Value) = cV 13 5 from rfl, cfgA_set _ _ (by decide) (by decide)] at h0
        have hx0 : Blk ((V3).setCell ⟨b3, 13, none⟩ (.int .i64 5)) b3 25 _ := h0
        have k0 := Keep.new (p := ⟨b3, 13, none⟩) (HK3.out) hb3 (.int .i64 5)
        have g0 := (HG3.out).far (p := ⟨b3, 13, none⟩) (by simp only; omega) (.int .i64 5)
        have HBs := Lib.hid hx0
        have HKs := Lib.hid k0
        have HRs : Hid (RdN ((V3).setCell ⟨b3, 13, none⟩ (.int .i64 5)) (some ⟨g, 0, none⟩) 2 bad16.seeds) := Lib.hid (rd_some g0)
        clear h0 hx0 k0 g0
        go_upto_region 53 with fail
        clear c0 f0
        generalize (V3).setCell ⟨b3, 13, none⟩ (.int .i64 5) = V4 at HBs HKs HRs ⊢
        go_wp2_with (refine wpList_load_row rfl 25 _ rfl b3 rfl 25 _ (0, 0) _ HBs.out Tryz.underlying25 rfl infoCfg ?_)
        refine (cshow_any bad16 (some ⟨g, 0, none⟩) 2 bad16_wf V4 (HE.out.keep0 (keep0_trans _ _ _ HKk.out HKs.out)) HRs.out).mono ?_
        rintro e W5 ⟨rfl, hk5⟩
        rw [showR_no bad16_may]
        have HBs5 := Lib.hid (HBs.out.keep hk5 (fun h => h))
        have HRs5 := Lib.hid (HRs.out.keep0 hk5)
        have HKs5 := Lib.hid (keep0_trans _ _ _ HKs.out hk5)
        clear hk5
        go_wp2_with (refine wpList_load_row rfl 25 _ rfl b3 rfl 25 _ (0, 0) _ HBs5.out Tryz.underlying25 rfl infoCfg ?_)
        refine (mayM_any bad16 (some ⟨g, 0, none⟩) 2 W5 HRs5.out (by decide)).mono ?_
        rintro e W6 ⟨rfl, hk6⟩
        rw [bad16_may]
        have HKs6 := Lib.hid (keep0_trans _ _ _ HKk.out (keep0_trans _ _ _ HKs5.out hk6))
        clear hk6
        go_wp2
        go_roundw
        case rel => exact ⟨17, by omega, by go_num, HKs6⟩
        case measure => simp [intOf]
      · have c0 : (V3).cell? ⟨b3, 8, none⟩ = some (.int .u8 2) := ((HB3.out).cell 8).trans (by kernel_rfl)
        have f0 := (HB3.out).frozen 8
        have h0 := (HB3.out).set_ 8 (.int .u8 4)
        rw [show (.int .u8 4 : Value) = cV 8 4 from rfl, cfgA_set _ _ (by decide) (by decide)] at h0
        have hx0 : Blk ((V3).setCell ⟨b3, 8, none⟩ (.int .u8 4)) b3 25 _ := h0
        have k0 := Keep.new (p := ⟨b3, 8, none⟩) (HK3.out) hb3 (.int .u8 4)
        have g0 := (HG3.out).far (p := ⟨b3, 8, none⟩) (by simp only; omega) (.int .u8 4)
        have c1 : ((V3).setCell ⟨b3, 8, none⟩ (.int .u8 4)).cell? ⟨b3, 13, none⟩ = some (.int .i64 0) := ((hx0).cell 13).trans (by kernel_rfl)
        have f1 := (hx0).frozen 13
        have h1 := (hx0).set_ 13 (.int .i64 5)
        rw [show (.int .i64 5 : Value) = cV 13 5 from rfl, cfgA_set _ _ (by decide) (by decide)] at h1
        have hx1 : Blk (((V3).setCell ⟨b3, 8, none⟩ (.int .u8 4)).setCell ⟨b3, 13, none⟩ (.int .i64 5)) b3 25 _ := h1
        have k1 := Keep.new (p := ⟨b3, 13, none⟩) (k0) hb3 (.int .i64 5)
        have g1 := (g0).far (p := ⟨b3, 13, none⟩) (by simp only; omega) (.int .i64 5)
        have c2 : (((V3).setCell ⟨b3, 8, none⟩ (.int .u8 4)).setCell ⟨b3, 13, none⟩ (.int .i64 5)).cell? ⟨b3, 14, none⟩ = some (.int .i64 0) := ((hx1).cell 14).trans (by kernel_rfl)
        have f2 := (hx1).frozen 14
        have h2 := (hx1).set_ 14 (.int .i64 5)
        rw [show (.int .i64 5 : Value) = cV 14 5 from rfl, cfgA_set _ _ (by decide) (by decide)] at h2
        have hx2 : Blk ((((V3).setCell ⟨b3, 8, none⟩ (.int .u8 4)).setCell ⟨b3, 13, none⟩ (.int .i64 5)).setCell ⟨b3, 14, none⟩ (.int .i64 5)) b3 25 _ := h2
        have k2 := Keep.new (p := ⟨b3, 14, none⟩) (k1) hb3 (.int .i64 5)
        have g2 := (g1).far (p := ⟨b3, 14, none⟩) (by simp only; omega) (.int .i64 5)
        have HBs := Lib.hid hx2
        have HKs := Lib.hid k2
        have HRs : Hid (RdN ((((V3).setCell ⟨b3, 8, none⟩ (.int .u8 4)).setCell ⟨b3, 13, none⟩ (.int .i64 5)).setCell ⟨b3, 14, none⟩ (.int .i64 5)) (some ⟨g, 0, none⟩) 2 bad17.seeds) := Lib.hid (rd_some g2)
        clear h0 hx0 k0 g0 h1 hx1 k1 g1 h2 hx2 k2 g2
        go_upto_region 53 with fail
        clear c0 f0 c1 f1 c2 f2
        generalize (((V3).setCell ⟨b3, 8, none⟩ (.int .u8 4)).setCell ⟨b3, 13, none⟩ (.int .i64 5)).setCell ⟨b3, 14, none⟩ (.int .i64 5) = V4 at HBs HKs HRs ⊢
        go_wp2_with (refine wpList_load_row rfl 25 _ rfl b3 rfl 25 _ (0, 0) _ HBs.out Tryz.underlying25 rfl infoCfg ?_)
        refine (cshow_any bad17 (some ⟨g, 0, none⟩) 2 bad17_wf V4 (HE.out.keep0 (keep0_trans _ _ _ HKk.out HKs.out)) HRs.out).mono ?_
        rintro e W5 ⟨rfl, hk5⟩
        rw [showR_no bad17_may]
        have HBs5 := Lib.hid (HBs.out.keep hk5 (fun h => h))
        have HRs5 := Lib.hid (HRs.out.keep0 hk5)
        have HKs5 := Lib.hid (keep0_trans _ _ _ HKs.out hk5)
        clear hk5
        go_wp2_with (refine wpList_load_row rfl 25 _ rfl b3 rfl 25 _ (0, 0) _ HBs5.out Tryz.underlying25 rfl infoCfg ?_)
        refine (mayM_any bad17 (some ⟨g, 0, none⟩) 2 W5 HRs5.out (by decide)).mono ?_
        rintro e W6 ⟨rfl, hk6⟩
        rw [bad17_may]
        have HKs6 := Lib.hid (keep0_trans _ _ _ HKk.out (keep0_trans _ _ _ HKs5.out hk6))
        clear hk6
        go_wp2
        go_roundw
        case rel => exact ⟨18, by omega, by go_num, HKs6⟩
        case measure => simp [intOf]
      · have c0 : (V3).cell? ⟨b3, 8, none⟩ = some (.int .u8 2) := ((HB3.out).cell 8).trans (by kernel_rfl)
        have f0 := (HB3.out).frozen 8
        have h0 := (HB3.out).set_ 8 (.int .u8 4)
        rw [show (.int .u8 4 : Value) = cV 8 4 from rfl, cfgA_set _ _ (by decide) (by decide)] at h0
        have hx0 : Blk ((V3).setCell ⟨b3, 8, none⟩ (.int .u8 4)) b3 25 _ := h0
        have k0 := Keep.new (p := ⟨b3, 8, none⟩) (HK3.out) hb3 (.int .u8 4)
        have g0 := (HG3.out).far (p := ⟨b3, 8, none⟩) (by simp only; omega) (.int .u8 4)
        have c1 : ((V3).setCell ⟨b3, 8, none⟩ (.int .u8 4)).cell? ⟨b3, 13, none⟩ = some (.int .i64 0) := ((hx0).cell 13).trans (by kernel_rfl)
        have f1 := (hx0).frozen 13
        have h1 := (hx0).set_ 13 (.int .i64 5)
        rw [show (.int .i64 5 : Value) = cV 13 5 from rfl, cfgA_set _ _ (by decide) (by decide)] at h1
        have hx1 : Blk (((V3).setCell ⟨b3, 8, none⟩ (.int .u8 4)).setCell ⟨b3, 13, none⟩ (.int .i64 5)) b3 25 _ := h1
        have k1 := Keep.new (p := ⟨b3, 13, none⟩) (k0) hb3 (.int .i64 5)
        have g1 := (g0).far (p := ⟨b3, 13, none⟩) (by simp only; omega) (.int .i64 5)
        have HBs := Lib.hid hx1
        have HKs := Lib.hid k1
        have HRs : Hid (RdN (((V3).setCell ⟨b3, 8, none⟩ (.int .u8 4)).setCell ⟨b3, 13, none⟩ (.int .i64 5)) (some ⟨g, 0, none⟩) 2 bad18.seeds) := Lib.hid (rd_some g1)
        clear h0 hx0 k0 g0 h1 hx1 k1 g1
        go_upto_region 53 with fail
        clear c0 f0 c1 f1
        generalize ((V3).setCell ⟨b3, 8, none⟩ (.int .u8 4)).setCell ⟨b3, 13, none⟩ (.int .i64 5) = V4 at HBs HKs HRs ⊢
        go_wp2_with (refine wpList_load_row rfl 25 _ rfl b3 rfl 25 _ (0, 0) _ HBs.out Tryz.underlying25 rfl infoCfg ?_)
        refine (cshow_any bad18 (some ⟨g, 0, none⟩) 2 bad18_wf V4 (HE.out.keep0 (keep0_trans _ _ _ HKk.out HKs.out)) HRs.out).mono ?_
        rintro e W5 ⟨rfl, hk5⟩
        rw [showR_no bad18_may]
        have HBs5 := Lib.hid (HBs.out.keep hk5 (fun h => h))
        have HRs5 := Lib.hid (HRs.out.keep0 hk5)
        have HKs5 := Lib.hid (keep0_trans _ _ _ HKs.out hk5)
        clear hk5
        go_wp2_with (refine wpList_load_row rfl 25 _ rfl b3 rfl 25 _ (0, 0) _ HBs5.out Tryz.underlying25 rfl infoCfg ?_)
        refine (mayM_any bad18 (some ⟨g, 0, none⟩) 2 W5 HRs5.out (by decide)).mono ?_
        rintro e W6 ⟨rfl, hk6⟩
        rw [bad18_may]
        have HKs6 := Lib.hid (keep0_trans _ _ _ HKk.out (keep0_trans _ _ _ HKs5.out hk6))
        clear hk6
        go_wp2
        go_roundw
        case rel => exact ⟨19, by omega, by go_num, HKs6⟩
        case measure => simp [intOf]
      · have c0 : (V3).cell? ⟨b3, 15, none⟩ = some (.int .i64 8) := ((HB3.out).cell 15).trans (by kernel_rfl)
        have f0 := (HB3.out).frozen 15
        have h0 := (HB3.out).set_ 15 (.int .i64 0)
        rw [show (.int .i64 0 : Value) = cV 15 0 from rfl, cfgA_set _ _ (by decide) (by decide)] at h0
        have hx0 : Blk ((V3).setCell ⟨b3, 15, none⟩ (.int .i64 0)) b3 25 _ := h0
        have k0 := Keep.new (p := ⟨b3, 15, none⟩) (HK3.out) hb3 (.int .i64 0)
        have g0 := (HG3.out).far (p := ⟨b3, 15, none⟩) (by simp only; omega) (.int .i64 0)
        have HBs := Lib.hid hx0
        have HKs := Lib.hid k0
        have HRs : Hid (RdN ((V3).setCell ⟨b3, 15, none⟩ (.int .i64 0)) (some ⟨g, 0, none⟩) 2 bad19.seeds) := Lib.hid (rd_some g0)
        clear h0 hx0 k0 g0
        go_upto_region 53 with fail
        clear c0 f0
        generalize (V3).setCell ⟨b3, 15, none⟩ (.int .i64 0) = V4 at HBs HKs HRs ⊢
        go_wp2_with (refine wpList_load_row rfl 25 _ rfl b3 rfl 25 _ (0, 0) _ HBs.out Tryz.underlying25 rfl infoCfg ?_)
        refine (cshow_any bad19 (some ⟨g, 0, none⟩) 2 bad19_wf V4 (HE.out.keep0 (keep0_trans _ _ _ HKk.out HKs.out)) HRs.out).mono ?_
        rintro e W5 ⟨rfl, hk5⟩
        rw [showR_no bad19_may]
        have HBs5 := Lib.hid (HBs.out.keep hk5 (fun h => h))
        have HRs5 := Lib.hid (HRs.out.keep0 hk5)
        have HKs5 := Lib.hid (keep0_trans _ _ _ HKs.out hk5)
        clear hk5
        go_wp2_with (refine wpList_load_row rfl 25 _ rfl b3 rfl 25 _ (0, 0) _ HBs5.out Tryz.underlying25 rfl infoCfg ?_)
        refine (mayM_any bad19 (some ⟨g, 0, none⟩) 2 W5 HRs5.out (by decide)).mono ?_
        rintro e W6 ⟨rfl, hk6⟩
        rw [bad19_may]
        have HKs6 := Lib.hid (keep0_trans _ _ _ HKk.out (keep0_trans _ _ _ HKs5.out hk6))
        clear hk6
        go_wp2
        go_roundw
        case rel => exact ⟨20, by omega, by go_num, HKs6⟩
        case measure => simp [intOf]
      · have c0 : (V3).cell? ⟨b3, 8, none⟩ = some (.int .u8 2) := ((HB3.out).cell 8).trans (by kernel_rfl)
        have f0 := (HB3.out).frozen 8
        have h0 := (HB3.out).set_ 8 (.int .u8 1)
        rw [show (.int .u8 1 : Value) = cV 8 1 from rfl, cfgA_set _ _ (by decide) (by decide)] at h0
        have hx0 : Blk ((V3).setCell ⟨b3, 8, none⟩ (.int .u8 1)) b3 25 _ := h0
        have k0 := Keep.new (p := ⟨b3, 8, none⟩) (HK3.out) hb3 (.int .u8 1)
        have g0 := (HG3.out).far (p := ⟨b3, 8, none⟩) (by simp only; omega) (.int .u8 1)
        have HBs := Lib.hid hx0
        have HKs := Lib.hid k0
        have HRs : Hid (RdN ((V3).setCell ⟨b3, 8, none⟩ (.int .u8 1)) (some ⟨g, 0, none⟩) 2 bad20.seeds) := Lib.hid (rd_some g0)
        clear h0 hx0 k0 g0
        go_upto_region 53 with fail
        clear c0 f0
        generalize (V3).setCell ⟨b3, 8, none⟩ (.int .u8 1) = V4 at HBs HKs HRs ⊢
        go_wp2_with (refine wpList_load_row rfl 25 _ rfl b3 rfl 25 _ (0, 0) _ HBs.out Tryz.underlying25 rfl infoCfg ?_)
        refine (cshow_any bad20 (some ⟨g, 0, none⟩) 2 bad20_wf V4 (HE.out.keep0 (keep0_trans _ _ _ HKk.out HKs.out)) HRs.out).mono ?_
        rintro e W5 ⟨rfl, hk5⟩
        rw [showR_no bad20_may]
        have HBs5 := Lib.hid (HBs.out.keep hk5 (fun h => h))
        have HRs5 := Lib.hid (HRs.out.keep0 hk5)
        have HKs5 := Lib.hid (keep0_trans _ _ _ HKs.out hk5)
        clear hk5
        go_wp2_with (refine wpList_load_row rfl 25 _ rfl b3 rfl 25 _ (0, 0) _ HBs5.out Tryz.underlying25 rfl infoCfg ?_)
        refine (mayM_any bad20 (some ⟨g, 0, none⟩) 2 W5 HRs5.out (by decide)).mono ?_
        rintro e W6 ⟨rfl, hk6⟩
        rw [bad20_may]
        have HKs6 := Lib.hid (keep0_trans _ _ _ HKk.out (keep0_trans _ _ _ HKs5.out hk6))
        clear hk6
        go_wp2
        go_roundw
        case rel => exact ⟨21, by omega, by go_num, HKs6⟩
        case measure => simp [intOf]
      · have c0 : (V3).cell? ⟨b3, 16, none⟩ = some (.int .i64 16) := ((HB3.out).cell 16).trans (by kernel_rfl)
        have f0 := (HB3.out).frozen 16
        have h0 := (HB3.out).set_ 16 (.int .i64 4097)
        rw [show (.int .i64 4097 : Value) = cV 16 4097 from rfl, cfgA_set _ _ (by decide) (by decide)] at h0
        have hx0 : Blk ((V3).setCell ⟨b3, 16, none⟩ (.int .i64 4097)) b3 25 _ := h0
        have k0 := Keep.new (p := ⟨b3, 16, none⟩) (HK3.out) hb3 (.int .i64 4097)
        have g0 := (HG3.out).far (p := ⟨b3, 16, none⟩) (by simp only; omega) (.int .i64 4097)
        have HBs := Lib.hid hx0
        have HKs := Lib.hid k0
        have HRs : Hid (RdN ((V3).setCell ⟨b3, 16, none⟩ (.int .i64 4097)) (some ⟨g, 0, none⟩) 2 bad21.seeds) := Lib.hid (rd_some g0)
        clear h0 hx0 k0 g0
        go_upto_region 53 with fail
        clear c0 f0
        generalize (V3).setCell ⟨b3, 16, none⟩ (.int .i64 4097) = V4 at HBs HKs HRs ⊢
        go_wp2_with (refine wpList_load_row rfl 25 _ rfl b3 rfl 25 _ (0, 0) _ HBs.out Tryz.underlying25 rfl infoCfg ?_)
        refine (cshow_any bad21 (some ⟨g, 0, none⟩) 2 bad21_wf V4 (HE.out.keep0 (keep0_trans _ _ _ HKk.out HKs.out)) HRs.out).mono ?_
        rintro e W5 ⟨rfl, hk5⟩
        rw [showR_no bad21_may]
        have HBs5 := Lib.hid (HBs.out.keep hk5 (fun h => h))
        have HRs5 := Lib.hid (HRs.out.keep0 hk5)
        have HKs5 := Lib.hid (keep0_trans _ _ _ HKs.out hk5)
        clear hk5
        go_wp2_with (refine wpList_load_row rfl 25 _ rfl b3 rfl 25 _ (0, 0) _ HBs5.out Tryz.underlying25 rfl infoCfg ?_)
        refine (mayM_any bad21 (some ⟨g, 0, none⟩) 2 W5 HRs5.out (by decide)).mono ?_
        rintro e W6 ⟨rfl, hk6⟩
        rw [bad21_may]
        have HKs6 := Lib.hid (keep0_trans _ _ _ HKk.out (keep0_trans _ _ _ HKs5.out hk6))
        clear hk6
        go_wp2
        go_roundw
        case rel => exact ⟨22, by omega, by go_num, HKs6⟩
        case measure => simp [intOf]
    · have q1 : ¬ (i : Int) < 22 := by omega
      clear hlt
      go_upto_region 57 with fail
      have HBk := Lib.hid (show Blk (wr.alloc (.cells #[.string { data := #[] }, .int .i64 0, .int .i64 1, .string { data := #[109, 105, 110, 32, 61, 32, 48, 55] }, .int .i64 1, .int .i64 4, .string { data := #[10, 35, 97, 10, 109, 105, 110] }, .int .i64 3, .int .i64 4, .string { data := #[109, 105, 110, 32, 61, 32, 49, 10, 109, 105, 110, 32, 61, 32, 49, 10, 120] }, .int .i64 2, .int .i64 6, .string { data := #[115, 101, 101, 100, 115, 32, 61, 32, 49, 44, 44, 50] }, .int .i64 1, .int .i64 4, .string { data := #[115, 101, 101, 100, 115, 32, 61] }, .int .i64 1, .int .i64 4, .string { data := #[97, 108, 111, 110, 101, 32, 61, 32, 109, 97, 121, 98, 101] }, .int .i64 1, .int .i64 4, .string { data := #[115, 116, 114, 97, 116, 101, 103, 121, 32, 61, 32] }, .int .i64 1, .int .i64 4, .string { data := #[109, 105, 110, 32, 61, 32, 49, 48, 57, 57, 53, 49, 49, 54, 50, 55, 55, 55, 55] }, .int .i64 1, .int .i64 4, .string { data := #[109, 105, 110, 32, 61, 32, 49, 48, 57, 57, 53, 49, 49, 54, 50, 55, 55, 55, 54] }, .int .i64 0, .int .i64 1, .string { data := #[77, 105, 110, 32, 61, 32, 49] }, .int .i64 1, .int .i64 4, .string { data := #[109, 105, 110, 32, 61, 32, 49, 32, 50] }, .int .i64 1, .int .i64 4, .string (bs (txt ++ [109, 97, 120, 32, 61, 32, 57])), .int .i64 12, .int .i64 6, .string (bs (txt ++ [35, 32, 116, 104, 101, 32, 101, 110, 100])), .int .i64 0, .int .i64 0] 42)) wr.heap.size 42 (rowsL.flatMap rowC).toArray from Blk.new _ _ _)
      have HKa := Lib.hid (keep0_trans _ _ _ HKk.out ((Keep.refl (fun _ => False) wr).alloc (.cells #[.string { data := #[] }, .int .i64 0, .int .i64 1, .string { data := #[109, 105, 110, 32, 61, 32, 48, 55] }, .int .i64 1, .int .i64 4, .string { data := #[10, 35, 97, 10, 109, 105, 110] }, .int .i64 3, .int .i64 4, .string { data := #[109, 105, 110, 32, 61, 32, 49, 10, 109, 105, 110, 32, 61, 32, 49, 10, 120] }, .int .i64 2, .int .i64 6, .string { data := #[115, 101, 101, 100, 115, 32, 61, 32, 49, 44, 44, 50] }, .int .i64 1, .int .i64 4, .string { data := #[115, 101, 101, 100, 115, 32, 61] }, .int .i64 1, .int .i64 4, .string { data := #[97, 108, 111, 110, 101, 32, 61, 32, 109, 97, 121, 98, 101] }, .int .i64 1, .int .i64 4, .string { data := #[115, 116, 114, 97, 116, 101, 103, 121, 32, 61, 32] }, .int .i64 1, .int .i64 4, .string { data := #[109, 105, 110, 32, 61, 32, 49, 48, 57, 57, 53, 49, 49, 54, 50, 55, 55, 55, 55] }, .int .i64 1, .int .i64 4, .string { data := #[109, 105, 110, 32, 61, 32, 49, 48, 57, 57, 53, 49, 49, 54, 50, 55, 55, 55, 54] }, .int .i64 0, .int .i64 1, .string { data := #[77, 105, 110, 32, 61, 32, 49] }, .int .i64 1, .int .i64 4, .string { data := #[109, 105, 110, 32, 61, 32, 49, 32, 50] }, .int .i64 1, .int .i64 4, .string (bs (txt ++ [109, 97, 120, 32, 61, 32, 57])), .int .i64 12, .int .i64 6, .string (bs (txt ++ [35, 32, 116, 104, 101, 32, 101, 110, 100])), .int .i64 0, .int .i64 0] 42)))
      clear HKk hi
      generalize wr.alloc (.cells #[.string { data := #[] }, .int .i64 0, .int .i64 1, .string { data := #[109, 105, 110, 32, 61, 32, 48, 55] }, .int .i64 1, .int .i64 4, .string { data := #[10, 35, 97, 10, 109, 105, 110] }, .int .i64 3, .int .i64 4, .string { data := #[109, 105, 110, 32, 61, 32, 49, 10, 109, 105, 110, 32, 61, 32, 49, 10, 120] }, .int .i64 2, .int .i64 6, .string { data := #[115, 101, 101, 100, 115, 32, 61, 32, 49, 44, 44, 50] }, .int .i64 1, .int .i64 4, .string { data := #[115, 101, 101, 100, 115, 32, 61] }, .int .i64 1, .int .i64 4, .string { data := #[97, 108, 111, 110, 101, 32, 61, 32, 109, 97, 121, 98, 101] }, .int .i64 1, .int .i64 4, .string { data := #[115, 116, 114, 97, 116, 101, 103, 121, 32, 61, 32] }, .int .i64 1, .int .i64 4, .string { data := #[109, 105, 110, 32, 61, 32, 49, 48, 57, 57, 53, 49, 49, 54, 50, 55, 55, 55, 55] }, .int .i64 1, .int .i64 4, .string { data := #[109, 105, 110, 32, 61, 32, 49, 48, 57, 57, 53, 49, 49, 54, 50, 55, 55, 55, 54] }, .int .i64 0, .int .i64 1, .string { data := #[77, 105, 110, 32, 61, 32, 49] }, .int .i64 1, .int .i64 4, .string { data := #[109, 105, 110, 32, 61, 32, 49, 32, 50] }, .int .i64 1, .int .i64 4, .string (bs (txt ++ [109, 97, 120, 32, 61, 32, 57])), .int .i64 12, .int .i64 6, .string (bs (txt ++ [35, 32, 116, 104, 101, 32, 101, 110, 100])), .int .i64 0, .int .i64 0] 42) = Wa at *
      generalize wr.heap.size = ga at *
      go_wp2
      go_loopw [135] (fun j wr => ∃ k : Nat, k ≤ 14 ∧ j = .int .i64 (k : Int) ∧ Hid (Keep (fun _ => False) Wa wr)) (fun j _ => 14 - (intOf j).toNat)
      case atStart => exact ⟨0, by omega, rfl, Lib.hid (Keep.refl _ _)⟩
      case round =>
        obtain ⟨k, hk, rfl, HKk⟩ := hrel
        have e2 : IntKind.i64.wrap ((k : Int) + 1) = (k : Int) + 1 := IntWalk.i64_in _ (by omega)
        by_cases hlt : k < 14
        · have q1 : (k : Int) < 14 := by omega
          have q2 : (0 : Int) ≤ (k : Int) := by omega
          obtain ⟨s, l, er, c, hr, hp, hsl⟩ := rows_at hlt
          obtain ⟨k0, k1, k2⟩ := rows_cell (HBk.out.keep HKk.out (fun h => h)) hr
          have HP := Lib.hid hp
          clear hr hp
          have HBz := Lib.hid (Blk.new wr 42 #[.string (bs s), .int .i64 l, .int .i64 er])
          have hka := (Keep.refl (fun _ => False) wr).alloc (.cells #[.string (bs s), .int .i64 l, .int .i64 er] 42)
          have HK3 := Lib.hid (keep0_trans _ _ _ HKk.out hka)
          clear hka
          go_upto_region 59 with fail
          generalize hW3 : wr.alloc (.cells #[.string (bs s), .int .i64 l, .int .i64 er] 42) = W3 at *
          generalize hS3 : wr.heap.size = s3 at *
          have d0 : W3.cell? ⟨s3, 0, none⟩ = some (.string (bs s)) := HBz.out.cell 0
          clear hW3 k0 k1 k2
          go_wp2_with fail
          refine (parse_is HP.out _ (HE.out.keep0 (keep0_trans _ _ _ HKa.out HK3.out)) (by omega)).mono ?_
          rintro e W5 ⟨row, A5, cap5, rfl, hs, hr, hk⟩
          have hk5x := Lib.hid hk
          have HR5 := Lib.hid hs.rd
          have HKw5 := Lib.hid (keep0_trans _ _ _ HK3.out hk)
          clear hs hr hk
          go_upto_region 60 with (first | (refine wpList_store_row rfl 25 _ _ rfl W5.heap.size (cfgA (.slice A5 c.seeds.length cap5) c.v) rfl rfl 25 _ (Blk.new _ _ _) infoCfg rfl (cfgA_one _ _ _ _) ?_; obtain ⟨hbv, hkv⟩ := row_new (t := 25) W5 zc (cfgA (.slice A5 c.seeds.length cap5) c.v); unfold zc at hbv hkv; have HBn := Lib.hid hbv; have HKn := Lib.hid hkv; clear hbv hkv; generalize (W5.alloc (.cells #[.slice none 0 0, .int .i64 0, .int .i64 0, .int .i64 0, .int .i64 0, .int .i64 0, .int .i64 0, .int .i64 0, .int .u8 0, .int .i64 0, .bool false, .bool false, .int .i64 0, .int .i64 0, .int .i64 0, .int .i64 0, .int .i64 0] 25)).setRow W5.heap.size (cfgA (.slice A5 c.seeds.length cap5) c.v) = V5 at *; have HBq := Lib.hid (HBz.out.keep (keep0_trans _ _ _ hk5x.out HKn.out) (fun h => h)); have d1 : V5.cell? ⟨s3, 1, none⟩ = some (.int .i64 l) := HBq.out.cell 1; have d2 : V5.cell? ⟨s3, 2, none⟩ = some (.int .i64 er) := HBq.out.cell 2) | fail)
          have HKV5 := Lib.hid (keep0_trans _ _ _ HKw5.out HKn.out)
          have HRV5 := Lib.hid (HR5.out.keep0 HKn.out)
          have HB5 := Lib.hid HBn.out
          clear HBn HKn HR5 HKw5
          clear HRV5 HB5
          go_wp2
          go_roundw
          case rel => exact ⟨k + 1, by omega, by go_num, HKV5⟩
          case measure => simp [intOf]; omega
        · obtain rfl : k = 14 := by omega
          go_wp2_with fail
          refine (awake_any wr (HE.out.keep0 (keep0_trans _ _ _ HKa.out HKk.out))).mono ?_
          rintro e W1 ⟨rfl, hk⟩
          have HK := Lib.hid (keep0_trans _ _ _ (keep0_trans _ _ _ HKa.out HKk.out) hk)
          clear hk
          go_wp2
          go_ret
          exact ⟨rfl, below_of HK.out⟩
end Go.Proofs.YtjgkalcldekmpaaGreatDoor
