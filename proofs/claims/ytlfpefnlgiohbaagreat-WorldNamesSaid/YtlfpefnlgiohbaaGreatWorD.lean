/-
  What a world does: give (of nothing), crash, start. Written by gen_word.py.
-/
import Derived.Test.YtlfpefnlgiohbaaGreatWorC
namespace Go.Proofs.YtlfpefnlgiohbaaGreat
open Go.RowKit Go
set_option maxRecDepth 100000
attribute [local irreducible] kAll kAllP
attribute [local go_sem] kQuiet kQuietUpon

set_option maxHeartbeats 2000000 in
theorem wGive_none (b bn : Nat) (row : Option Nat) (A : Option Addr) (cap : Nat) (c : NC) (nd : Nat → Value) (nw : Nat → Int) (st : Int) (o : OpM) (d : Int) (nv : Value) (w : World) (hn : o.n = 0) (hw : Wd w b row A cap c nd nw st bn) :
    Calls Tryz.prog 15 #[.pointer (some ⟨b, 0, none⟩), .agg (actC o d nv)] w (Tell (ansV 5) w) := by
  obtain ⟨kind, addr, inc, n, at_, x, ab⟩ := o
  simp only at hn
  subst hn
  have HWd := Lib.hid hw
  clear hw
  go_enter Tryz.func15, Tryz.ntmps15
  go_upto_region 1 with (fail)
  have hbx := Blk.new w 62 (actC ⟨kind, addr, inc, 0, at_, x, ab⟩ d nv)
  have hk1 := (Keep.refl (fun _ => False) w).alloc (.cells (actC ⟨kind, addr, inc, 0, at_, x, ab⟩ d nv) 62)
  have hs1 : (w.alloc (.cells (actC ⟨kind, addr, inc, 0, at_, x, ab⟩ d nv) 62)).heap.size = w.heap.size + 1 := by simp
  generalize w.alloc (.cells (actC ⟨kind, addr, inc, 0, at_, x, ab⟩ d nv) 62) = V1 at *
  have hbz := Blk.new V1 34 ansC
  have hk2 := (Keep.refl (fun _ => False) V1).alloc (.cells ansC 34)
  rw [hs1] at hbz
  have hs2 : (V1.alloc (.cells ansC 34)).heap.size = w.heap.size + 2 := by simp [hs1]
  generalize V1.alloc (.cells ansC 34) = V2 at *
  have HBx := Lib.hid (hbx.keep hk2 (fun h => h))
  have HBz := Lib.hid hbz
  have HK0 := Lib.hid (keep0_trans _ _ _ hk1 hk2)
  have HWd2 := Lib.hid (HWd.out.keep HK0.out)
  clear hbx hk1 hs1 hbz hk2
  refine wp_region_krip (Keep (fun _ => False)) (Keep.refl _) keep0_trans 14 (by kernel_rfl) (by kernel_rfl) (Ts := [none, none, none, some (.inl (.pointer (some ⟨bn, 0, none⟩))), none, none, some (.inl (.int .i64 0)), some (.inl (.tuple #[.string ⟨#[]⟩, .int .i64 0, .int .i64 5])), none, none, none, none, none, none]) ?_
  simp only [List.take, List.drop]
  refine kAll_p (fun K hK => ?_)
  go_simp
  generalize hZ : (Act.mk _ _) = Z
  refine hK Z ?_
  subst hZ
  clear hK K
  refine kAll_p (fun K hK => ?_)
  go_simp
  generalize hZ : (Act.mk _ _) = Z
  refine hK Z ?_
  subst hZ
  clear hK K
  refine kAll_p (fun K hK => ?_)
  go_simp
  generalize hZ : (Act.mk _ _) = Z
  refine hK Z ?_
  subst hZ
  clear hK K
  refine kAll_dn _ (fun W hW hF => kStep_of fun K Q hK => ?_) (fun K hK => ?_)
  · have c0 := (HWd2.out.blk.keep (keepD (Keep.refl _ _) hW) (fun h => h)).cell 44
    simp at c0
    go_simp
    exact hK _ _ (Keep.refl _ _) rfl
  go_simp
  generalize hZ : (Act.mk _ _) = Z
  refine hK Z ?_
  subst hZ
  clear hK K
  refine kAll_p (fun K hK => ?_)
  go_simp
  generalize hZ : (Act.mk _ _) = Z
  refine hK Z ?_
  subst hZ
  clear hK K
  refine kAll_p (fun K hK => ?_)
  go_simp
  generalize hZ : (Act.mk _ _) = Z
  refine hK Z ?_
  subst hZ
  clear hK K
  refine kAll_dn _ (fun W hW hF => kStep_of fun K Q hK => ?_) (fun K hK => ?_)
  · have c0 := (HBx.out.keep (keepD (Keep.refl _ _) hW) (fun h => h)).cell 3
    simp at c0
    go_simp
    exact hK _ _ (Keep.refl _ _) rfl
  go_simp
  generalize hZ : (Act.mk _ _) = Z
  refine hK Z ?_
  subst hZ
  clear hK K
  refine kAll_dn _ (fun W hW hF => kStep_of fun K Q hK => ?_) (fun K hK => ?_)
  · go_simp
    refine (netGive_none bn W (HWd2.out.net.keep (keepD (Keep.refl _ _) hW) (fun h => h))).mono ?_
    rintro e w' ⟨rfl, hk⟩
    exact hK _ _ hk rfl
  go_simp
  generalize hZ : (Act.mk _ _) = Z
  refine hK Z ?_
  subst hZ
  clear hK K
  refine kAll_p (fun K hK => ?_)
  go_simp
  generalize hZ : (Act.mk _ _) = Z
  refine hK Z ?_
  subst hZ
  clear hK K
  refine kAll_p (fun K hK => ?_)
  go_simp
  generalize hZ : (Act.mk _ _) = Z
  refine hK Z ?_
  subst hZ
  clear hK K
  refine kAll_p (fun K hK => ?_)
  go_simp
  generalize hZ : (Act.mk _ _) = Z
  refine hK Z ?_
  subst hZ
  clear hK K
  refine kAll_p (fun K hK => ?_)
  go_simp
  generalize hZ : (Act.mk _ _) = Z
  refine hK Z ?_
  subst hZ
  clear hK K
  refine kAll_p (fun K hK => ?_)
  go_simp
  generalize hZ : (Act.mk _ _) = Z
  refine hK Z ?_
  subst hZ
  clear hK K
  refine kAll_p (fun K hK => ?_)
  go_simp
  generalize hZ : (Act.mk _ _) = Z
  refine hK Z ?_
  subst hZ
  clear hK K
  refine kAll_nil (fun W hW hF => ?_)
  have HBz2 := Lib.hid (HBz.out.keep (keepD (Keep.refl _ _) hW) (fun h => h))
  have HKf := Lib.hid (keep0_trans _ _ _ HK0.out (keepD (Keep.refl _ _) hW))
  clear hF hW HBx HBz HK0 HWd hs2
  go_wp2_with (first | (refine wpList_store_row rfl 34 _ _ rfl (w.heap.size + 1) ansC rfl rfl 34 _ HBz2.out sizeAns rfl oneAns ?_; rw [setRow_same HBz2.out]) | fail)
  exact bodyPost_ret (v := ansV 5) (results_ans Tryz.results15 _ _ _ HBz2.out rfl rfl) rfl ⟨rfl, HKf.out⟩
set_option maxHeartbeats 2000000 in
theorem wCrash_ok (b bn : Nat) (row : Option Nat) (A : Option Addr) (cap : Nat) (c : NC) (nd : Nat → Value) (nw : Nat → Int) (st : Int) (o : OpM) (d : Int) (nv : Value) (k : Nat) (w : World) (ha : o.addr = (k : Int)) (h1 : 1 ≤ k) (h2 : k ≤ 12) (hw : Wd w b row A cap c nd nw st bn) :
    Calls Tryz.prog 20 #[.pointer (some ⟨b, 0, none⟩), .agg (actC o d nv)] w fun e w' => e = .returned (ansV 0) ∧ Wd w' b row A cap c (ndSet nd k (.pointer none)) nw st bn ∧ Keep (fun g => g = b) w w' := by
  obtain ⟨kind, addr, inc, n, at_, x, ab⟩ := o
  simp only at ha
  subst ha
  have HWd := Lib.hid hw
  clear hw
  go_enter Tryz.func20, Tryz.ntmps20
  go_upto_region 1 with (fail)
  have hbx := Blk.new w 62 (actC ⟨kind, (k : Int), inc, n, at_, x, ab⟩ d nv)
  have hk1 := (Keep.refl (fun _ => False) w).alloc (.cells (actC ⟨kind, (k : Int), inc, n, at_, x, ab⟩ d nv) 62)
  have hs1 : (w.alloc (.cells (actC ⟨kind, (k : Int), inc, n, at_, x, ab⟩ d nv) 62)).heap.size = w.heap.size + 1 := by simp
  generalize w.alloc (.cells (actC ⟨kind, (k : Int), inc, n, at_, x, ab⟩ d nv) 62) = V1 at *
  have hbz := Blk.new V1 34 ansC
  have hk2 := (Keep.refl (fun _ => False) V1).alloc (.cells ansC 34)
  rw [hs1] at hbz
  have hs2 : (V1.alloc (.cells ansC 34)).heap.size = w.heap.size + 2 := by simp [hs1]
  generalize V1.alloc (.cells ansC 34) = V2 at *
  have HBx := Lib.hid (hbx.keep hk2 (fun h => h))
  have HBz := Lib.hid hbz
  have HK0 := Lib.hid (keep0_trans _ _ _ hk1 hk2)
  have HWd2 := Lib.hid (HWd.out.keep HK0.out)
  clear hbx hk1 hs1 hbz hk2
  refine wp_region_krip (Keep (fun _ => False)) (Keep.refl _) keep0_trans 6 (by kernel_rfl) (by kernel_rfl) (Ts := [none, none, none, some (.inl (.int .i64 (k : Int))), none, none]) ?_
  simp only [List.take, List.drop]
  refine kAll_p (fun K hK => ?_)
  go_simp
  generalize hZ : (Act.mk _ _) = Z
  refine hK Z ?_
  subst hZ
  clear hK K
  refine kAll_p (fun K hK => ?_)
  go_simp
  generalize hZ : (Act.mk _ _) = Z
  refine hK Z ?_
  subst hZ
  clear hK K
  refine kAll_p (fun K hK => ?_)
  go_simp
  generalize hZ : (Act.mk _ _) = Z
  refine hK Z ?_
  subst hZ
  clear hK K
  refine kAll_dn _ (fun W hW hF => kStep_of fun K Q hK => ?_) (fun K hK => ?_)
  · have c0 := (HBx.out.keep (keepD (Keep.refl _ _) hW) (fun h => h)).cell 1
    simp at c0
    go_simp
    exact hK _ _ (Keep.refl _ _) rfl
  go_simp
  generalize hZ : (Act.mk _ _) = Z
  refine hK Z ?_
  subst hZ
  clear hK K
  refine kAll_p (fun K hK => ?_)
  go_simp
  generalize hZ : (Act.mk _ _) = Z
  refine hK Z ?_
  subst hZ
  clear hK K
  refine kAll_p (fun K hK => ?_)
  go_simp
  generalize hZ : (Act.mk _ _) = Z
  refine hK Z ?_
  subst hZ
  clear hK K
  refine kAll_nil (fun W hW hF => ?_)
  have HBz2 := Lib.hid (HBz.out.keep (keepD (Keep.refl _ _) hW) (fun h => h))
  have HKf := Lib.hid (keep0_trans _ _ _ HK0.out (keepD (Keep.refl _ _) hW))
  have HW3 := Lib.hid (HWd2.out.keep (keepD (Keep.refl _ _) hW))
  clear hF hW HBx HBz HK0 HWd hs2
  have c0 : W.cell? ⟨b, 17 + k, none⟩ = some (nd k) := by rw [HW3.out.blk.cell]; exact wldA_nd _ _ _ _ _ _ (by omega)
  have f0 := HW3.out.blk.frozen (17 + k)
  have q1 : (k : Int) < 13 := by omega
  have q2 : (0 : Int) ≤ (k : Int) := by omega
  go_upto_region 2 with (fail)
  have kc := (Keep.refl (fun g => g = b) W).setCell (p := ⟨b, 17 + k, none⟩) (fun _ => rfl) (.pointer none)
  have hb4 : Blk (W.setCell ⟨b, 17 + k, none⟩ (.pointer none)) b 70 (wldA (.slice A c.seeds.length cap) c (ndSet nd k (.pointer none)) nw st bn) := by
    have := HW3.out.blk.set_ (17 + k) (.pointer none)
    rwa [wldA_setN _ _ _ _ _ _ (by omega)] at this
  have hz4 := HBz2.out.keep kc (fun e => (Blk.ne_ HBz2.out HW3.out.blk (by decide)) e)
  generalize W.setCell ⟨b, 17 + k, none⟩ (.pointer none) = W4 at *
  have HZ4 := Lib.hid hz4
  have HF4 := Lib.hid (show Wd W4 b row A cap c (ndSet nd k (.pointer none)) nw st bn ∧ Keep (fun g => g = b) w W4 from ⟨HW3.out.wrote kc hb4, (HKf.out.mono (fun _ _ e => e.elim)).trans (kc.mono fun _ _ e => .inl e)⟩)
  clear kc hb4 hz4 c0 f0 HBz2 HW3
  go_wp2_with (first | (refine wpList_store_row rfl 34 _ _ rfl (w.heap.size + 1) ansC rfl rfl 34 _ HZ4.out sizeAns rfl oneAns ?_; rw [setRow_same HZ4.out]) | fail)
  exact bodyPost_ret (v := ansV 0) (results_ans Tryz.results20 _ _ _ HZ4.out rfl rfl) rfl ⟨rfl, HF4.out⟩
set_option maxHeartbeats 2000000 in
theorem wStart_arg (b bn : Nat) (row : Option Nat) (A : Option Addr) (cap : Nat) (c : NC) (nd : Nat → Value) (nw : Nat → Int) (st : Int) (o : OpM) (d : Int) (nv : Value) (w : World) (hm : mayID (o.addr, o.inc) = false) (hw : Wd w b row A cap c nd nw st bn) :
    Calls Tryz.prog 14 #[.pointer (some ⟨b, 0, none⟩), .agg (actC o d nv)] w (Tell (ansV 1) w) := by
  obtain ⟨kind, addr, inc, n, at_, x, ab⟩ := o
  have HMay := Lib.hid hm
  simp only at HMay
  clear hm
  have HWd := Lib.hid hw
  clear hw
  go_enter Tryz.func14, Tryz.ntmps14
  go_upto_region 1 with (fail)
  have hbx := Blk.new w 62 (actC ⟨kind, addr, inc, n, at_, x, ab⟩ d nv)
  have hk1 := (Keep.refl (fun _ => False) w).alloc (.cells (actC ⟨kind, addr, inc, n, at_, x, ab⟩ d nv) 62)
  have hs1 : (w.alloc (.cells (actC ⟨kind, addr, inc, n, at_, x, ab⟩ d nv) 62)).heap.size = w.heap.size + 1 := by simp
  generalize w.alloc (.cells (actC ⟨kind, addr, inc, n, at_, x, ab⟩ d nv) 62) = V1 at *
  have hbz := Blk.new V1 34 ansC
  have hk2 := (Keep.refl (fun _ => False) V1).alloc (.cells ansC 34)
  rw [hs1] at hbz
  have hs2 : (V1.alloc (.cells ansC 34)).heap.size = w.heap.size + 2 := by simp [hs1]
  generalize V1.alloc (.cells ansC 34) = V2 at *
  have HBx := Lib.hid (hbx.keep hk2 (fun h => h))
  have HBz := Lib.hid hbz
  have HK0 := Lib.hid (keep0_trans _ _ _ hk1 hk2)
  have HWd2 := Lib.hid (HWd.out.keep HK0.out)
  clear hbx hk1 hs1 hbz hk2
  have x1 := HBx.out.cell 1
  have x2 := HBx.out.cell 2
  simp at x1 x2
  obtain ⟨V3, hV3⟩ : ∃ V, V2.alloc (.cells #[.int .i64 addr, .int .i64 inc] 30) = V := ⟨_, rfl⟩
  have hbi : Blk V3 (w.heap.size + 2) 30 #[.int .i64 addr, .int .i64 inc] := by rw [← hV3]; exact Blk.new_ hs2 _ _
  have hk3 : Keep (fun _ => False) V2 V3 := by rw [← hV3]; exact (Keep.refl _ _).alloc _
  have HBi := Lib.hid hbi
  replace HBx := Lib.hid (HBx.out.keep hk3 (fun h => h))
  replace HBz := Lib.hid (HBz.out.keep hk3 (fun h => h))
  replace HK0 := Lib.hid (keep0_trans _ _ _ HK0.out hk3)
  replace HWd2 := Lib.hid (HWd2.out.keep hk3)
  have d0 := hbi.cell 0
  have d1 := hbi.cell 1
  simp at d0 d1
  clear hbi hk3 HWd
  go_upto_region 2 with (fail)
  clear x1 x2 hV3
  go_wp2_with fail
  refine (may_any (addr, inc) _).mono ?_
  rintro e V4 ⟨rfl, hk⟩
  rw [HMay.out]
  replace HBi := Lib.hid (HBi.out.keep hk (fun h => h))
  replace HBx := Lib.hid (HBx.out.keep hk (fun h => h))
  replace HBz := Lib.hid (HBz.out.keep hk (fun h => h))
  replace HK0 := Lib.hid (keep0_trans _ _ _ HK0.out hk)
  replace HWd2 := Lib.hid (HWd2.out.keep hk)
  clear hk d0 d1 hs2
  go_wp2_with (first | (refine wpList_store_row rfl 34 _ _ rfl (w.heap.size + 1) ansC rfl rfl 34 _ HBz.out sizeAns rfl oneAns ?_; rw [setRow_same HBz.out]) | fail)
  exact bodyPost_ret (v := ansV 1) (results_ans Tryz.results14 _ _ _ HBz.out rfl rfl) rfl ⟨rfl, HK0.out⟩
set_option maxHeartbeats 2000000 in
theorem wStart_twice (b bn : Nat) (row : Option Nat) (A : Option Addr) (cap : Nat) (c : NC) (nd : Nat → Value) (nw : Nat → Int) (st : Int) (o : OpM) (d : Int) (nb : Nat) (w : World) (hm : mayID (o.addr, o.inc) = true) (hw : Wd w b row A cap c nd nw st bn) (he : w.cell? ⟨nb, 48, none⟩ = some (.bool false)) :
    Calls Tryz.prog 14 #[.pointer (some ⟨b, 0, none⟩), .agg (actC o d (.pointer (some ⟨nb, 0, none⟩)))] w (Tell (ansV 6) w) := by
  obtain ⟨kind, addr, inc, n, at_, x, ab⟩ := o
  have HMay := Lib.hid hm
  simp only at HMay
  have HE := Lib.hid he
  clear hm he
  have HWd := Lib.hid hw
  clear hw
  go_enter Tryz.func14, Tryz.ntmps14
  go_upto_region 1 with (fail)
  have hbx := Blk.new w 62 (actC ⟨kind, addr, inc, n, at_, x, ab⟩ d (.pointer (some ⟨nb, 0, none⟩)))
  have hk1 := (Keep.refl (fun _ => False) w).alloc (.cells (actC ⟨kind, addr, inc, n, at_, x, ab⟩ d (.pointer (some ⟨nb, 0, none⟩))) 62)
  have hs1 : (w.alloc (.cells (actC ⟨kind, addr, inc, n, at_, x, ab⟩ d (.pointer (some ⟨nb, 0, none⟩))) 62)).heap.size = w.heap.size + 1 := by simp
  generalize w.alloc (.cells (actC ⟨kind, addr, inc, n, at_, x, ab⟩ d (.pointer (some ⟨nb, 0, none⟩))) 62) = V1 at *
  have hbz := Blk.new V1 34 ansC
  have hk2 := (Keep.refl (fun _ => False) V1).alloc (.cells ansC 34)
  rw [hs1] at hbz
  have hs2 : (V1.alloc (.cells ansC 34)).heap.size = w.heap.size + 2 := by simp [hs1]
  generalize V1.alloc (.cells ansC 34) = V2 at *
  have HBx := Lib.hid (hbx.keep hk2 (fun h => h))
  have HBz := Lib.hid hbz
  have HK0 := Lib.hid (keep0_trans _ _ _ hk1 hk2)
  have HWd2 := Lib.hid (HWd.out.keep HK0.out)
  clear hbx hk1 hs1 hbz hk2
  have x1 := HBx.out.cell 1
  have x2 := HBx.out.cell 2
  simp at x1 x2
  obtain ⟨V3, hV3⟩ : ∃ V, V2.alloc (.cells #[.int .i64 addr, .int .i64 inc] 30) = V := ⟨_, rfl⟩
  have hbi : Blk V3 (w.heap.size + 2) 30 #[.int .i64 addr, .int .i64 inc] := by rw [← hV3]; exact Blk.new_ hs2 _ _
  have hk3 : Keep (fun _ => False) V2 V3 := by rw [← hV3]; exact (Keep.refl _ _).alloc _
  have HBi := Lib.hid hbi
  replace HBx := Lib.hid (HBx.out.keep hk3 (fun h => h))
  replace HBz := Lib.hid (HBz.out.keep hk3 (fun h => h))
  replace HK0 := Lib.hid (keep0_trans _ _ _ HK0.out hk3)
  replace HWd2 := Lib.hid (HWd2.out.keep hk3)
  have d0 := hbi.cell 0
  have d1 := hbi.cell 1
  simp at d0 d1
  clear hbi hk3 HWd
  go_upto_region 2 with (fail)
  clear x1 x2 hV3
  go_wp2_with fail
  refine (may_any (addr, inc) _).mono ?_
  rintro e V4 ⟨rfl, hk⟩
  rw [HMay.out]
  replace HBi := Lib.hid (HBi.out.keep hk (fun h => h))
  replace HBx := Lib.hid (HBx.out.keep hk (fun h => h))
  replace HBz := Lib.hid (HBz.out.keep hk (fun h => h))
  replace HK0 := Lib.hid (keep0_trans _ _ _ HK0.out hk)
  replace HWd2 := Lib.hid (HWd2.out.keep hk)
  clear hk d0 d1 hs2
  have x9 := HBx.out.cell 9
  simp at x9
  go_wp2_with fail
  refine (ended_no nb _ (HK0.out.cell HE.out (fun h => h))).mono ?_
  rintro e w' ⟨rfl, rfl⟩
  go_wp2_with (first | (refine wpList_store_row rfl 34 _ _ rfl (w.heap.size + 1) ansC rfl rfl 34 _ HBz.out sizeAns rfl oneAns ?_; rw [setRow_same HBz.out]) | fail)
  exact bodyPost_ret (v := ansV 6) (results_ans Tryz.results14 _ _ _ HBz.out rfl rfl) rfl ⟨rfl, HK0.out⟩
set_option maxHeartbeats 2000000 in
theorem wStart_old (b bn : Nat) (row : Option Nat) (A : Option Addr) (cap : Nat) (c : NC) (nd : Nat → Value) (nw : Nat → Int) (st : Int) (o : OpM) (d : Int) (k : Nat) (w : World) (ha : o.addr = (k : Int)) (k1 : 1 ≤ k) (k2 : k ≤ 12) (hi : o.inc ≤ nw k) (hm : mayID (o.addr, o.inc) = true) (hw : Wd w b row A cap c nd nw st bn) :
    Calls Tryz.prog 14 #[.pointer (some ⟨b, 0, none⟩), .agg (actC o d (.pointer none))] w (Tell (ansV 42) w) := by
  obtain ⟨kind, addr, inc, n, at_, x, ab⟩ := o
  simp only at ha hi
  subst ha
  have HMay := Lib.hid hm
  simp only at HMay
  have q1 : (k : Int) < 13 := by omega
  have q2 : (0 : Int) ≤ (k : Int) := by omega
  clear hm
  have HWd := Lib.hid hw
  clear hw
  go_enter Tryz.func14, Tryz.ntmps14
  go_upto_region 1 with (fail)
  have hbx := Blk.new w 62 (actC ⟨kind, (k : Int), inc, n, at_, x, ab⟩ d (.pointer none))
  have hk1 := (Keep.refl (fun _ => False) w).alloc (.cells (actC ⟨kind, (k : Int), inc, n, at_, x, ab⟩ d (.pointer none)) 62)
  have hs1 : (w.alloc (.cells (actC ⟨kind, (k : Int), inc, n, at_, x, ab⟩ d (.pointer none)) 62)).heap.size = w.heap.size + 1 := by simp
  generalize w.alloc (.cells (actC ⟨kind, (k : Int), inc, n, at_, x, ab⟩ d (.pointer none)) 62) = V1 at *
  have hbz := Blk.new V1 34 ansC
  have hk2 := (Keep.refl (fun _ => False) V1).alloc (.cells ansC 34)
  rw [hs1] at hbz
  have hs2 : (V1.alloc (.cells ansC 34)).heap.size = w.heap.size + 2 := by simp [hs1]
  generalize V1.alloc (.cells ansC 34) = V2 at *
  have HBx := Lib.hid (hbx.keep hk2 (fun h => h))
  have HBz := Lib.hid hbz
  have HK0 := Lib.hid (keep0_trans _ _ _ hk1 hk2)
  have HWd2 := Lib.hid (HWd.out.keep HK0.out)
  clear hbx hk1 hs1 hbz hk2
  have x1 := HBx.out.cell 1
  have x2 := HBx.out.cell 2
  simp at x1 x2
  obtain ⟨V3, hV3⟩ : ∃ V, V2.alloc (.cells #[.int .i64 (k : Int), .int .i64 inc] 30) = V := ⟨_, rfl⟩
  have hbi : Blk V3 (w.heap.size + 2) 30 #[.int .i64 (k : Int), .int .i64 inc] := by rw [← hV3]; exact Blk.new_ hs2 _ _
  have hk3 : Keep (fun _ => False) V2 V3 := by rw [← hV3]; exact (Keep.refl _ _).alloc _
  have HBi := Lib.hid hbi
  replace HBx := Lib.hid (HBx.out.keep hk3 (fun h => h))
  replace HBz := Lib.hid (HBz.out.keep hk3 (fun h => h))
  replace HK0 := Lib.hid (keep0_trans _ _ _ HK0.out hk3)
  replace HWd2 := Lib.hid (HWd2.out.keep hk3)
  have d0 := hbi.cell 0
  have d1 := hbi.cell 1
  simp at d0 d1
  clear hbi hk3 HWd
  go_upto_region 2 with (fail)
  clear x1 x2 hV3
  go_wp2_with fail
  refine (may_any ((k : Int), inc) _).mono ?_
  rintro e V4 ⟨rfl, hk⟩
  rw [HMay.out]
  replace HBi := Lib.hid (HBi.out.keep hk (fun h => h))
  replace HBx := Lib.hid (HBx.out.keep hk (fun h => h))
  replace HBz := Lib.hid (HBz.out.keep hk (fun h => h))
  replace HK0 := Lib.hid (keep0_trans _ _ _ HK0.out hk)
  replace HWd2 := Lib.hid (HWd2.out.keep hk)
  clear hk d0 d1 hs2
  have x9 := HBx.out.cell 9
  simp at x9
  go_upto_region 6 with (fail)
  clear x9
  refine wp_region_krip (Keep (fun _ => False)) (Keep.refl _) keep0_trans 11 (by kernel_rfl) (by kernel_rfl) (Ts := [none, some (.inl (.int .i64 inc)), none, none, some (.inl (.int .i64 (k : Int))), none, none, none, some (.inl (.int .i64 (nw k))), none, none]) ?_
  simp only [List.take, List.drop]
  refine kAll_p (fun K hK => ?_)
  go_simp
  generalize hZ : (Act.mk _ _) = Z
  refine hK Z ?_
  subst hZ
  clear hK K
  refine kAll_dn _ (fun W hW hF => kStep_of fun K Q hK => ?_) (fun K hK => ?_)
  · have c0 := (HBi.out.keep (keepD (Keep.refl _ _) hW) (fun h => h)).cell 1
    simp at c0
    go_simp
    exact hK _ _ (Keep.refl _ _) rfl
  go_simp
  generalize hZ : (Act.mk _ _) = Z
  refine hK Z ?_
  subst hZ
  clear hK K
  refine kAll_p (fun K hK => ?_)
  go_simp
  generalize hZ : (Act.mk _ _) = Z
  refine hK Z ?_
  subst hZ
  clear hK K
  refine kAll_p (fun K hK => ?_)
  go_simp
  generalize hZ : (Act.mk _ _) = Z
  refine hK Z ?_
  subst hZ
  clear hK K
  refine kAll_dn _ (fun W hW hF => kStep_of fun K Q hK => ?_) (fun K hK => ?_)
  · have c0 := (HBi.out.keep (keepD (Keep.refl _ _) hW) (fun h => h)).cell 0
    simp at c0
    go_simp
    exact hK _ _ (Keep.refl _ _) rfl
  go_simp
  generalize hZ : (Act.mk _ _) = Z
  refine hK Z ?_
  subst hZ
  clear hK K
  refine kAll_p (fun K hK => ?_)
  go_simp
  generalize hZ : (Act.mk _ _) = Z
  refine hK Z ?_
  subst hZ
  clear hK K
  refine kAll_p (fun K hK => ?_)
  go_simp
  generalize hZ : (Act.mk _ _) = Z
  refine hK Z ?_
  subst hZ
  clear hK K
  refine kAll_p (fun K hK => ?_)
  go_simp
  generalize hZ : (Act.mk _ _) = Z
  refine hK Z ?_
  subst hZ
  clear hK K
  refine kAll_dn _ (fun W hW hF => kStep_of fun K Q hK => ?_) (fun K hK => ?_)
  · have c0 : W.cell? ⟨b, 30 + k, none⟩ = some (.int .i64 (nw k)) := by rw [(HWd2.out.blk.keep (keepD (Keep.refl _ _) hW) (fun h => h)).cell]; exact wldA_nw _ _ _ _ _ _ (by omega)
    go_simp
    exact hK _ _ (Keep.refl _ _) rfl
  go_simp
  generalize hZ : (Act.mk _ _) = Z
  refine hK Z ?_
  subst hZ
  clear hK K
  refine kAll_p (fun K hK => ?_)
  go_simp
  generalize hZ : (Act.mk _ _) = Z
  refine hK Z ?_
  subst hZ
  clear hK K
  refine kAll_p (fun K hK => ?_)
  go_simp
  generalize hZ : (Act.mk _ _) = Z
  refine hK Z ?_
  subst hZ
  clear hK K
  refine kAll_nil (fun W hW hF => ?_)
  replace HBi := Lib.hid (HBi.out.keep (keepD (Keep.refl _ _) hW) (fun h => h))
  replace HBz := Lib.hid (HBz.out.keep (keepD (Keep.refl _ _) hW) (fun h => h))
  replace HK0 := Lib.hid (keep0_trans _ _ _ HK0.out (keepD (Keep.refl _ _) hW))
  replace HWd2 := Lib.hid (HWd2.out.keep (keepD (Keep.refl _ _) hW))
  clear hW hF HBx
  go_wp2_with (first | (refine wpList_store_row rfl 34 _ _ rfl (w.heap.size + 1) ansC rfl rfl 34 _ HBz.out sizeAns rfl oneAns ?_; rw [setRow_same HBz.out]) | fail)
  exact bodyPost_ret (v := ansV 42) (results_ans Tryz.results14 _ _ _ HBz.out rfl rfl) rfl ⟨rfl, HK0.out⟩
set_option maxHeartbeats 2000000 in
theorem wStart_many (b bn : Nat) (row : Option Nat) (A : Option Addr) (cap : Nat) (c : NC) (nd : Nat → Value) (nw : Nat → Int) (st : Int) (o : OpM) (d : Int) (k : Nat) (w : World) (ha : o.addr = (k : Int)) (k1 : 1 ≤ k) (k2 : k ≤ 12) (hi : ¬ o.inc ≤ nw k) (hst : st = 48) (hm : mayID (o.addr, o.inc) = true) (hw : Wd w b row A cap c nd nw st bn) :
    Calls Tryz.prog 14 #[.pointer (some ⟨b, 0, none⟩), .agg (actC o d (.pointer none))] w (Tell (ansV 40) w) := by
  subst hst
  obtain ⟨kind, addr, inc, n, at_, x, ab⟩ := o
  simp only at ha hi
  subst ha
  have HMay := Lib.hid hm
  simp only at HMay
  have q1 : (k : Int) < 13 := by omega
  have q2 : (0 : Int) ≤ (k : Int) := by omega
  clear hm
  have HWd := Lib.hid hw
  clear hw
  go_enter Tryz.func14, Tryz.ntmps14
  go_upto_region 1 with (fail)
  have hbx := Blk.new w 62 (actC ⟨kind, (k : Int), inc, n, at_, x, ab⟩ d (.pointer none))
  have hk1 := (Keep.refl (fun _ => False) w).alloc (.cells (actC ⟨kind, (k : Int), inc, n, at_, x, ab⟩ d (.pointer none)) 62)
  have hs1 : (w.alloc (.cells (actC ⟨kind, (k : Int), inc, n, at_, x, ab⟩ d (.pointer none)) 62)).heap.size = w.heap.size + 1 := by simp
  generalize w.alloc (.cells (actC ⟨kind, (k : Int), inc, n, at_, x, ab⟩ d (.pointer none)) 62) = V1 at *
  have hbz := Blk.new V1 34 ansC
  have hk2 := (Keep.refl (fun _ => False) V1).alloc (.cells ansC 34)
  rw [hs1] at hbz
  have hs2 : (V1.alloc (.cells ansC 34)).heap.size = w.heap.size + 2 := by simp [hs1]
  generalize V1.alloc (.cells ansC 34) = V2 at *
  have HBx := Lib.hid (hbx.keep hk2 (fun h => h))
  have HBz := Lib.hid hbz
  have HK0 := Lib.hid (keep0_trans _ _ _ hk1 hk2)
  have HWd2 := Lib.hid (HWd.out.keep HK0.out)
  clear hbx hk1 hs1 hbz hk2
  have x1 := HBx.out.cell 1
  have x2 := HBx.out.cell 2
  simp at x1 x2
  obtain ⟨V3, hV3⟩ : ∃ V, V2.alloc (.cells #[.int .i64 (k : Int), .int .i64 inc] 30) = V := ⟨_, rfl⟩
  have hbi : Blk V3 (w.heap.size + 2) 30 #[.int .i64 (k : Int), .int .i64 inc] := by rw [← hV3]; exact Blk.new_ hs2 _ _
  have hk3 : Keep (fun _ => False) V2 V3 := by rw [← hV3]; exact (Keep.refl _ _).alloc _
  have HBi := Lib.hid hbi
  replace HBx := Lib.hid (HBx.out.keep hk3 (fun h => h))
  replace HBz := Lib.hid (HBz.out.keep hk3 (fun h => h))
  replace HK0 := Lib.hid (keep0_trans _ _ _ HK0.out hk3)
  replace HWd2 := Lib.hid (HWd2.out.keep hk3)
  have d0 := hbi.cell 0
  have d1 := hbi.cell 1
  simp at d0 d1
  clear hbi hk3 HWd
  go_upto_region 2 with (fail)
  clear x1 x2 hV3
  go_wp2_with fail
  refine (may_any ((k : Int), inc) _).mono ?_
  rintro e V4 ⟨rfl, hk⟩
  rw [HMay.out]
  replace HBi := Lib.hid (HBi.out.keep hk (fun h => h))
  replace HBx := Lib.hid (HBx.out.keep hk (fun h => h))
  replace HBz := Lib.hid (HBz.out.keep hk (fun h => h))
  replace HK0 := Lib.hid (keep0_trans _ _ _ HK0.out hk)
  replace HWd2 := Lib.hid (HWd2.out.keep hk)
  clear hk d0 d1 hs2
  have x9 := HBx.out.cell 9
  simp at x9
  go_upto_region 6 with (fail)
  clear x9
  refine wp_region_krip (Keep (fun _ => False)) (Keep.refl _) keep0_trans 11 (by kernel_rfl) (by kernel_rfl) (Ts := [none, some (.inl (.int .i64 inc)), none, none, some (.inl (.int .i64 (k : Int))), none, none, none, some (.inl (.int .i64 (nw k))), none, none]) ?_
  simp only [List.take, List.drop]
  refine kAll_p (fun K hK => ?_)
  go_simp
  generalize hZ : (Act.mk _ _) = Z
  refine hK Z ?_
  subst hZ
  clear hK K
  refine kAll_dn _ (fun W hW hF => kStep_of fun K Q hK => ?_) (fun K hK => ?_)
  · have c0 := (HBi.out.keep (keepD (Keep.refl _ _) hW) (fun h => h)).cell 1
    simp at c0
    go_simp
    exact hK _ _ (Keep.refl _ _) rfl
  go_simp
  generalize hZ : (Act.mk _ _) = Z
  refine hK Z ?_
  subst hZ
  clear hK K
  refine kAll_p (fun K hK => ?_)
  go_simp
  generalize hZ : (Act.mk _ _) = Z
  refine hK Z ?_
  subst hZ
  clear hK K
  refine kAll_p (fun K hK => ?_)
  go_simp
  generalize hZ : (Act.mk _ _) = Z
  refine hK Z ?_
  subst hZ
  clear hK K
  refine kAll_dn _ (fun W hW hF => kStep_of fun K Q hK => ?_) (fun K hK => ?_)
  · have c0 := (HBi.out.keep (keepD (Keep.refl _ _) hW) (fun h => h)).cell 0
    simp at c0
    go_simp
    exact hK _ _ (Keep.refl _ _) rfl
  go_simp
  generalize hZ : (Act.mk _ _) = Z
  refine hK Z ?_
  subst hZ
  clear hK K
  refine kAll_p (fun K hK => ?_)
  go_simp
  generalize hZ : (Act.mk _ _) = Z
  refine hK Z ?_
  subst hZ
  clear hK K
  refine kAll_p (fun K hK => ?_)
  go_simp
  generalize hZ : (Act.mk _ _) = Z
  refine hK Z ?_
  subst hZ
  clear hK K
  refine kAll_p (fun K hK => ?_)
  go_simp
  generalize hZ : (Act.mk _ _) = Z
  refine hK Z ?_
  subst hZ
  clear hK K
  refine kAll_dn _ (fun W hW hF => kStep_of fun K Q hK => ?_) (fun K hK => ?_)
  · have c0 : W.cell? ⟨b, 30 + k, none⟩ = some (.int .i64 (nw k)) := by rw [(HWd2.out.blk.keep (keepD (Keep.refl _ _) hW) (fun h => h)).cell]; exact wldA_nw _ _ _ _ _ _ (by omega)
    go_simp
    exact hK _ _ (Keep.refl _ _) rfl
  go_simp
  generalize hZ : (Act.mk _ _) = Z
  refine hK Z ?_
  subst hZ
  clear hK K
  refine kAll_p (fun K hK => ?_)
  go_simp
  generalize hZ : (Act.mk _ _) = Z
  refine hK Z ?_
  subst hZ
  clear hK K
  refine kAll_p (fun K hK => ?_)
  go_simp
  generalize hZ : (Act.mk _ _) = Z
  refine hK Z ?_
  subst hZ
  clear hK K
  refine kAll_nil (fun W hW hF => ?_)
  replace HBi := Lib.hid (HBi.out.keep (keepD (Keep.refl _ _) hW) (fun h => h))
  replace HBz := Lib.hid (HBz.out.keep (keepD (Keep.refl _ _) hW) (fun h => h))
  replace HK0 := Lib.hid (keep0_trans _ _ _ HK0.out (keepD (Keep.refl _ _) hW))
  replace HWd2 := Lib.hid (HWd2.out.keep (keepD (Keep.refl _ _) hW))
  clear hW hF HBx
  have x43 := HWd2.out.blk.cell 43
  simp at x43
  go_wp2_with (first | (refine wpList_store_row rfl 34 _ _ rfl (w.heap.size + 1) ansC rfl rfl 34 _ HBz.out sizeAns rfl oneAns ?_; rw [setRow_same HBz.out]) | fail)
  exact bodyPost_ret (v := ansV 40) (results_ans Tryz.results14 _ _ _ HBz.out rfl rfl) rfl ⟨rfl, HK0.out⟩
/-- a node that has not ended -/
def Fresh (w : World) (base : Nat) (v : Value) : Prop := ∃ nb ar, v = .pointer (some ⟨nb, 0, none⟩) ∧ Blk w nb 115 ar ∧ ar[48]? = some (.bool false) ∧ base ≤ nb
set_option maxHeartbeats 4000000 in
theorem wStart_ok (b bn : Nat) (row : Option Nat) (A : Option Addr) (cap : Nat) (c : NC) (nd : Nat → Value) (nw : Nat → Int) (st : Int) (o : OpM) (d : Int) (k : Nat) (w : World) (ha : o.addr = (k : Int)) (k1 : 1 ≤ k) (k2 : k ≤ 12) (hi : ¬ o.inc ≤ nw k) (hst : ¬ st = 48) (hs0 : 0 ≤ st) (hs1 : st ≤ 100) (hm : mayID (o.addr, o.inc) = true) (hc : mayNC c = true) (h4 : c.strategy ≠ 4) (hln : c.seeds.length ≤ 1000000) (hw : Wd w b row A cap c nd nw st bn) :
    Calls Tryz.prog 14 #[.pointer (some ⟨b, 0, none⟩), .agg (actC o d (.pointer none))] w fun e w' => e = .returned (ansV 0) ∧ ∃ v, Wd w' b row A cap c (ndSet nd k v) (nwSet nw k o.inc) (st + 1) bn ∧ Fresh w' w.heap.size v ∧ Keep (fun g => g = b) w w' := by
  obtain ⟨kind, addr, inc, n, at_, x, ab⟩ := o
  simp only at ha hi
  subst ha
  have HMay := Lib.hid hm
  simp only at HMay
  have q1 : (k : Int) < 13 := by omega
  have q2 : (0 : Int) ≤ (k : Int) := by omega
  clear hm
  have HMc := Lib.hid hc
  have HS4 := Lib.hid h4
  have HLn := Lib.hid hln
  clear hc h4 hln
  have HWd := Lib.hid hw
  clear hw
  go_enter Tryz.func14, Tryz.ntmps14
  go_upto_region 1 with (fail)
  have hbx := Blk.new w 62 (actC ⟨kind, (k : Int), inc, n, at_, x, ab⟩ d (.pointer none))
  have hk1 := (Keep.refl (fun _ => False) w).alloc (.cells (actC ⟨kind, (k : Int), inc, n, at_, x, ab⟩ d (.pointer none)) 62)
  have hs1 : (w.alloc (.cells (actC ⟨kind, (k : Int), inc, n, at_, x, ab⟩ d (.pointer none)) 62)).heap.size = w.heap.size + 1 := by simp
  generalize w.alloc (.cells (actC ⟨kind, (k : Int), inc, n, at_, x, ab⟩ d (.pointer none)) 62) = V1 at *
  have hbz := Blk.new V1 34 ansC
  have hk2 := (Keep.refl (fun _ => False) V1).alloc (.cells ansC 34)
  rw [hs1] at hbz
  have hs2 : (V1.alloc (.cells ansC 34)).heap.size = w.heap.size + 2 := by simp [hs1]
  generalize V1.alloc (.cells ansC 34) = V2 at *
  have HBx := Lib.hid (hbx.keep hk2 (fun h => h))
  have HBz := Lib.hid hbz
  have HK0 := Lib.hid (keep0_trans _ _ _ hk1 hk2)
  have HWd2 := Lib.hid (HWd.out.keep HK0.out)
  clear hbx hk1 hs1 hbz hk2
  have x1 := HBx.out.cell 1
  have x2 := HBx.out.cell 2
  simp at x1 x2
  obtain ⟨V3, hV3⟩ : ∃ V, V2.alloc (.cells #[.int .i64 (k : Int), .int .i64 inc] 30) = V := ⟨_, rfl⟩
  have hbi : Blk V3 (w.heap.size + 2) 30 #[.int .i64 (k : Int), .int .i64 inc] := by rw [← hV3]; exact Blk.new_ hs2 _ _
  have hk3 : Keep (fun _ => False) V2 V3 := by rw [← hV3]; exact (Keep.refl _ _).alloc _
  have HBi := Lib.hid hbi
  replace HBx := Lib.hid (HBx.out.keep hk3 (fun h => h))
  replace HBz := Lib.hid (HBz.out.keep hk3 (fun h => h))
  replace HK0 := Lib.hid (keep0_trans _ _ _ HK0.out hk3)
  replace HWd2 := Lib.hid (HWd2.out.keep hk3)
  have d0 := hbi.cell 0
  have d1 := hbi.cell 1
  simp at d0 d1
  clear hbi hk3 HWd
  go_upto_region 2 with (fail)
  clear x1 x2 hV3
  go_wp2_with fail
  refine (may_any ((k : Int), inc) _).mono ?_
  rintro e V4 ⟨rfl, hk⟩
  rw [HMay.out]
  replace HBi := Lib.hid (HBi.out.keep hk (fun h => h))
  replace HBx := Lib.hid (HBx.out.keep hk (fun h => h))
  replace HBz := Lib.hid (HBz.out.keep hk (fun h => h))
  replace HK0 := Lib.hid (keep0_trans _ _ _ HK0.out hk)
  replace HWd2 := Lib.hid (HWd2.out.keep hk)
  clear hk d0 d1 hs2
  have x9 := HBx.out.cell 9
  simp at x9
  go_upto_region 6 with (fail)
  clear x9
  refine wp_region_krip (Keep (fun _ => False)) (Keep.refl _) keep0_trans 11 (by kernel_rfl) (by kernel_rfl) (Ts := [none, some (.inl (.int .i64 inc)), none, none, some (.inl (.int .i64 (k : Int))), none, none, none, some (.inl (.int .i64 (nw k))), none, none]) ?_
  simp only [List.take, List.drop]
  refine kAll_p (fun K hK => ?_)
  go_simp
  generalize hZ : (Act.mk _ _) = Z
  refine hK Z ?_
  subst hZ
  clear hK K
  refine kAll_dn _ (fun W hW hF => kStep_of fun K Q hK => ?_) (fun K hK => ?_)
  · have c0 := (HBi.out.keep (keepD (Keep.refl _ _) hW) (fun h => h)).cell 1
    simp at c0
    go_simp
    exact hK _ _ (Keep.refl _ _) rfl
  go_simp
  generalize hZ : (Act.mk _ _) = Z
  refine hK Z ?_
  subst hZ
  clear hK K
  refine kAll_p (fun K hK => ?_)
  go_simp
  generalize hZ : (Act.mk _ _) = Z
  refine hK Z ?_
  subst hZ
  clear hK K
  refine kAll_p (fun K hK => ?_)
  go_simp
  generalize hZ : (Act.mk _ _) = Z
  refine hK Z ?_
  subst hZ
  clear hK K
  refine kAll_dn _ (fun W hW hF => kStep_of fun K Q hK => ?_) (fun K hK => ?_)
  · have c0 := (HBi.out.keep (keepD (Keep.refl _ _) hW) (fun h => h)).cell 0
    simp at c0
    go_simp
    exact hK _ _ (Keep.refl _ _) rfl
  go_simp
  generalize hZ : (Act.mk _ _) = Z
  refine hK Z ?_
  subst hZ
  clear hK K
  refine kAll_p (fun K hK => ?_)
  go_simp
  generalize hZ : (Act.mk _ _) = Z
  refine hK Z ?_
  subst hZ
  clear hK K
  refine kAll_p (fun K hK => ?_)
  go_simp
  generalize hZ : (Act.mk _ _) = Z
  refine hK Z ?_
  subst hZ
  clear hK K
  refine kAll_p (fun K hK => ?_)
  go_simp
  generalize hZ : (Act.mk _ _) = Z
  refine hK Z ?_
  subst hZ
  clear hK K
  refine kAll_dn _ (fun W hW hF => kStep_of fun K Q hK => ?_) (fun K hK => ?_)
  · have c0 : W.cell? ⟨b, 30 + k, none⟩ = some (.int .i64 (nw k)) := by rw [(HWd2.out.blk.keep (keepD (Keep.refl _ _) hW) (fun h => h)).cell]; exact wldA_nw _ _ _ _ _ _ (by omega)
    go_simp
    exact hK _ _ (Keep.refl _ _) rfl
  go_simp
  generalize hZ : (Act.mk _ _) = Z
  refine hK Z ?_
  subst hZ
  clear hK K
  refine kAll_p (fun K hK => ?_)
  go_simp
  generalize hZ : (Act.mk _ _) = Z
  refine hK Z ?_
  subst hZ
  clear hK K
  refine kAll_p (fun K hK => ?_)
  go_simp
  generalize hZ : (Act.mk _ _) = Z
  refine hK Z ?_
  subst hZ
  clear hK K
  refine kAll_nil (fun W hW hF => ?_)
  replace HBi := Lib.hid (HBi.out.keep (keepD (Keep.refl _ _) hW) (fun h => h))
  replace HBz := Lib.hid (HBz.out.keep (keepD (Keep.refl _ _) hW) (fun h => h))
  replace HK0 := Lib.hid (keep0_trans _ _ _ HK0.out (keepD (Keep.refl _ _) hW))
  replace HWd2 := Lib.hid (HWd2.out.keep (keepD (Keep.refl _ _) hW))
  clear hW hF HBx
  have x43 := HWd2.out.blk.cell 43
  simp at x43
  go_upto_region 10 with (fail)
  clear x43
  refine wp_region_krip (Keep (fun _ => False)) (Keep.refl _) keep0_trans 11 (by kernel_rfl) (by kernel_rfl) (Ts := [none, none, none, some (.inl (.agg #[.slice A c.seeds.length cap, .int .i64 c.watch, .int .i64 c.mn, .int .i64 c.mx, .int .i64 c.window, .int .i64 c.retry, .int .i64 c.stable, .int .i64 c.unstable, .int .u8 c.strategy, .int .i64 c.quorum, .bool c.alone, .bool c.weak, .int .i64 c.delay, .int .i64 c.term, .int .i64 c.hold, .int .i64 c.queue, .int .i64 c.events])), some (.inl (.agg #[.int .i64 (k : Int), .int .i64 inc])), some (.inr (fun v W => ∃ nb_0 ar_0, v = .tuple #[.pointer (some ⟨nb_0, 0, none⟩), .int .i64 0] ∧ Blk W nb_0 115 ar_0 ∧ ar_0[48]? = some (.bool false) ∧ w.heap.size ≤ nb_0)), some (.inr (fun v W => ∃ nb_0 ar_0, v = .tuple #[.pointer (some ⟨nb_0, 0, none⟩), .int .i64 0] ∧ Blk W nb_0 115 ar_0 ∧ ar_0[48]? = some (.bool false) ∧ w.heap.size ≤ nb_0)), some (.inr (fun v W => ∃ nb_0 ar_0, v = .pointer (some ⟨nb_0, 0, none⟩) ∧ Blk W nb_0 115 ar_0 ∧ ar_0[48]? = some (.bool false) ∧ w.heap.size ≤ nb_0)), some (.inl (.int .i64 0)), none, none]) ?_
  simp only [List.take, List.drop]
  refine kAll_p (fun K hK => ?_)
  go_simp
  generalize hZ : (Act.mk _ _) = Z
  refine hK Z ?_
  subst hZ
  clear hK K
  refine kAll_p (fun K hK => ?_)
  go_simp
  generalize hZ : (Act.mk _ _) = Z
  refine hK Z ?_
  subst hZ
  clear hK K
  refine kAll_p (fun K hK => ?_)
  go_simp
  generalize hZ : (Act.mk _ _) = Z
  refine hK Z ?_
  subst hZ
  clear hK K
  refine kAll_dn _ (fun W hW hF => kStep_of fun K Q hK => ?_) (fun K hK => ?_)
  · exact wp_load_at 45 _ rfl _ 0 rfl [.slice A c.seeds.length cap, .int .i64 c.watch, .int .i64 c.mn, .int .i64 c.mx, .int .i64 c.window, .int .i64 c.retry, .int .i64 c.stable, .int .i64 c.unstable, .int .u8 c.strategy, .int .i64 c.quorum, .bool c.alone, .bool c.weak, .int .i64 c.delay, .int .i64 c.term, .int .i64 c.hold, .int .i64 c.queue, .int .i64 c.events] _ (cells_at (HWd2.out.blk.keep (keepD (Keep.refl _ _) hW) (fun h => h)) 0 _ (sub_at 0 (by kernel_rfl))) Tryz.underlying45 rfl (by kernel_rfl) (hK _ _ (Keep.refl _ _) rfl)
  go_simp
  generalize hZ : (Act.mk _ _) = Z
  refine hK Z ?_
  subst hZ
  clear hK K
  refine kAll_dn _ (fun W hW hF => kStep_of fun K Q hK => ?_) (fun K hK => ?_)
  · have c0 := (HBi.out.keep (keepD (Keep.refl _ _) hW) (fun h => h)).cell 0
    have c1 := (HBi.out.keep (keepD (Keep.refl _ _) hW) (fun h => h)).cell 1
    simp at c0 c1
    go_simp
    exact hK _ _ (Keep.refl _ _) rfl
  go_simp
  generalize hZ : (Act.mk _ _) = Z
  refine hK Z ?_
  subst hZ
  clear hK K
  refine kAll_tn _ (fun v W W' hk h => by obtain ⟨nb_0, ar_0, e, h0, h1, h2⟩ := h; exact ⟨_, _, e, (h0.keep hk (fun h => h)), (h1), (h2)⟩) (fun W hW hF => kStep_of fun K Q hK => ?_) (fun u0 K hK => ?_)
  · go_simp
    refine (nodeNew_ok c ((k : Int), inc) A c.seeds.length cap W (HWd2.out.seeds.keep (keepD (Keep.refl _ _) hW) (fun _ _ h => h)).rd HLn.out HMay.out HMc.out HS4.out).mono ?_
    rintro e w' ⟨nb, row1, A1, c1, bl, ml, bw, bt, wt, mw, en, rowE, AE, cE, ev, bx, rfl, hb, hl, _, _, _, _, _, _, _, _, hk⟩
    exact hK _ _ hk ⟨nb, _, rfl, hb, rfl, Nat.le_trans (keep0_trans _ _ _ HK0.out (keepD (Keep.refl _ _) hW)).size hl⟩
  go_simp
  generalize hZ : (Act.mk _ _) = Z
  refine hK Z ?_
  subst hZ
  clear hK K
  refine kAll_tn _ (fun v W W' hk h => by obtain ⟨nb_0, ar_0, e, h0, h1, h2⟩ := h; exact ⟨_, _, e, (h0.keep hk (fun h => h)), (h1), (h2)⟩) (fun W hW hF => kStep_of fun K Q hK => ?_) (fun u1 K hK => ?_)
  · obtain ⟨nb_0, ar_0, rfl, k0_0, k0_1, k0_2⟩ := (kHas_at hF 0 rfl (by kernel_rfl) : (fun v W => ∃ nb_0 ar_0, v = .tuple #[.pointer (some ⟨nb_0, 0, none⟩), .int .i64 0] ∧ Blk W nb_0 115 ar_0 ∧ ar_0[48]? = some (.bool false) ∧ w.heap.size ≤ nb_0) u0 W)
    go_simp
    exact hK _ _ (Keep.refl _ _) ⟨_, _, rfl, k0_0, k0_1, k0_2⟩
  go_simp
  generalize hZ : (Act.mk _ _) = Z
  refine hK Z ?_
  subst hZ
  clear hK K
  refine kAll_tn _ (fun v W W' hk h => by obtain ⟨nb_0, ar_0, e, h0, h1, h2⟩ := h; exact ⟨_, _, e, (h0.keep hk (fun h => h)), (h1), (h2)⟩) (fun W hW hF => kStep_of fun K Q hK => ?_) (fun u2 K hK => ?_)
  · obtain ⟨nb_0, ar_0, rfl, k1_0, k1_1, k1_2⟩ := (kHas_at hF 0 rfl (by kernel_rfl) : (fun v W => ∃ nb_0 ar_0, v = .tuple #[.pointer (some ⟨nb_0, 0, none⟩), .int .i64 0] ∧ Blk W nb_0 115 ar_0 ∧ ar_0[48]? = some (.bool false) ∧ w.heap.size ≤ nb_0) u1 W)
    go_simp
    exact hK _ _ (Keep.refl _ _) ⟨_, _, rfl, k1_0, k1_1, k1_2⟩
  go_simp
  generalize hZ : (Act.mk _ _) = Z
  refine hK Z ?_
  subst hZ
  clear hK K
  refine kAll_dn _ (fun W hW hF => kStep_of fun K Q hK => ?_) (fun K hK => ?_)
  · obtain ⟨nb_0, ar_0, rfl, k1_0, k1_1, k1_2⟩ := (kHas_at hF 1 rfl (by kernel_rfl) : (fun v W => ∃ nb_0 ar_0, v = .tuple #[.pointer (some ⟨nb_0, 0, none⟩), .int .i64 0] ∧ Blk W nb_0 115 ar_0 ∧ ar_0[48]? = some (.bool false) ∧ w.heap.size ≤ nb_0) u1 W)
    go_simp
    exact hK _ _ (Keep.refl _ _) rfl
  go_simp
  generalize hZ : (Act.mk _ _) = Z
  refine hK Z ?_
  subst hZ
  clear hK K
  refine kAll_p (fun K hK => ?_)
  go_simp
  generalize hZ : (Act.mk _ _) = Z
  refine hK Z ?_
  subst hZ
  clear hK K
  refine kAll_p (fun K hK => ?_)
  go_simp
  generalize hZ : (Act.mk _ _) = Z
  refine hK Z ?_
  subst hZ
  clear hK K
  refine kAll_nil (fun W hW hF => ?_)
  obtain ⟨nb, ar, rfl, hnb, har, hnl⟩ := kAllHas_at hF 0 rfl
  replace HBi := Lib.hid (HBi.out.keep (keepD (Keep.refl _ _) hW) (fun h => h))
  replace HBz := Lib.hid (HBz.out.keep (keepD (Keep.refl _ _) hW) (fun h => h))
  replace HK0 := Lib.hid (keep0_trans _ _ _ HK0.out (keepD (Keep.refl _ _) hW))
  replace HWd2 := Lib.hid (HWd2.out.keep (keepD (Keep.refl _ _) hW))
  have HNb := Lib.hid hnb
  have HAr := Lib.hid har
  have HNl := Lib.hid hnl
  clear hW hF hnb har hnl
  have x43 := HWd2.out.blk.cell 43
  have f43 := HWd2.out.blk.frozen 43
  simp at x43
  go_upto_region 13 with (fail)
  go_upto_region 14 with (fail)
  have kc := (Keep.refl (fun g => g = b) W).setCell (p := ⟨b, 43, none⟩) (fun _ => rfl) (.int .i64 (st + 1))
  have hb5 : Blk (W.setCell ⟨b, 43, none⟩ (.int .i64 (st + 1))) b 70 (wldA (.slice A c.seeds.length cap) c nd nw (st + 1) bn) := by
    have := HWd2.out.blk.set_ 43 (.int .i64 (st + 1))
    simpa using this
  have hi5 := HBi.out.keep kc (fun e => (Blk.ne_ HBi.out HWd2.out.blk (by decide)) e)
  have hz5 := HBz.out.keep kc (fun e => (Blk.ne_ HBz.out HWd2.out.blk (by decide)) e)
  have hn5 := HNb.out.keep kc (fun e => (Blk.ne_ HNb.out HWd2.out.blk (by decide)) e)
  have hw5 := HWd2.out.wrote kc hb5
  have hk5 := (HK0.out.mono (fun _ _ e => e.elim)).trans (S := fun g => g = b) (kc.mono fun _ _ e => .inl e)
  generalize W.setCell ⟨b, 43, none⟩ (.int .i64 (st + 1)) = W5 at *
  have HWd5 := Lib.hid hw5
  have HK5 := Lib.hid hk5
  replace HBi := Lib.hid hi5
  replace HBz := Lib.hid hz5
  replace HNb := Lib.hid hn5
  clear kc hb5 hi5 hz5 hn5 hw5 hk5 x43 f43 HWd2 HK0
  refine wp_region_kpiv (KeepC b (17 + k)) (Keep (fun _ => False)) 12 (KeepC.refl _ _) (KeepC.trans _ _) (Keep.refl _) keep0_trans (KeepC.of0 _ _) 15 (by kernel_rfl) (by kernel_rfl) (Ts := [none, none, some (.inl (.int .i64 (k : Int))), none, none, some (.inl (.int .i64 (k : Int))), none, none, some (.inl (.int .i64 inc)), none, none, none, some (.inr (fun v W => Blk W b 70 (wldA (.slice A c.seeds.length cap) c (ndSet nd k (.pointer (some ⟨nb, 0, none⟩))) nw (st + 1) bn))), none, none]) ?_
  simp only [List.take, List.drop]
  refine kAllP_p (fun K hK => ?_)
  go_simp
  generalize hZ : (Act.mk _ _) = Z
  refine hK Z ?_
  subst hZ
  clear hK K
  refine kAllP_p (fun K hK => ?_)
  go_simp
  generalize hZ : (Act.mk _ _) = Z
  refine hK Z ?_
  subst hZ
  clear hK K
  refine kAllP_dn _ (by decide) (fun W hW hF => kStep_of fun K Q hK => ?_) (fun K hK => ?_)
  · have c0 := (HBi.out.keep (KeepC.d hW).1 (fun e => (Blk.ne_ HBi.out HWd5.out.blk (by decide)) e)).cell 0
    simp at c0
    go_simp
    exact hK _ _ (Keep.refl _ _) rfl
  go_simp
  generalize hZ : (Act.mk _ _) = Z
  refine hK Z ?_
  subst hZ
  clear hK K
  refine kAllP_p (fun K hK => ?_)
  go_simp
  generalize hZ : (Act.mk _ _) = Z
  refine hK Z ?_
  subst hZ
  clear hK K
  refine kAllP_p (fun K hK => ?_)
  go_simp
  generalize hZ : (Act.mk _ _) = Z
  refine hK Z ?_
  subst hZ
  clear hK K
  refine kAllP_dn _ (by decide) (fun W hW hF => kStep_of fun K Q hK => ?_) (fun K hK => ?_)
  · have c0 := (HBi.out.keep (KeepC.d hW).1 (fun e => (Blk.ne_ HBi.out HWd5.out.blk (by decide)) e)).cell 0
    simp at c0
    go_simp
    exact hK _ _ (Keep.refl _ _) rfl
  go_simp
  generalize hZ : (Act.mk _ _) = Z
  refine hK Z ?_
  subst hZ
  clear hK K
  refine kAllP_p (fun K hK => ?_)
  go_simp
  generalize hZ : (Act.mk _ _) = Z
  refine hK Z ?_
  subst hZ
  clear hK K
  refine kAllP_p (fun K hK => ?_)
  go_simp
  generalize hZ : (Act.mk _ _) = Z
  refine hK Z ?_
  subst hZ
  clear hK K
  refine kAllP_dn _ (by decide) (fun W hW hF => kStep_of fun K Q hK => ?_) (fun K hK => ?_)
  · have c0 := (HBi.out.keep (KeepC.d hW).1 (fun e => (Blk.ne_ HBi.out HWd5.out.blk (by decide)) e)).cell 1
    simp at c0
    go_simp
    exact hK _ _ (Keep.refl _ _) rfl
  go_simp
  generalize hZ : (Act.mk _ _) = Z
  refine hK Z ?_
  subst hZ
  clear hK K
  refine kAllP_p (fun K hK => ?_)
  go_simp
  generalize hZ : (Act.mk _ _) = Z
  refine hK Z ?_
  subst hZ
  clear hK K
  refine kAllP_p (fun K hK => ?_)
  go_simp
  generalize hZ : (Act.mk _ _) = Z
  refine hK Z ?_
  subst hZ
  clear hK K
  refine kAllP_p (fun K hK => ?_)
  go_simp
  generalize hZ : (Act.mk _ _) = Z
  refine hK Z ?_
  subst hZ
  clear hK K
  refine kAllP_tn _ rfl (fun v W W' hk h =>  by exact h.keep hk (fun h => h)) (fun W hW hF => kStep_of fun K Q hK => ?_) (fun u0 K hK => ?_)
  · have hbW := HWd5.out.blk.keep (keepD (Keep.refl _ _) hW) (fun h => h)
    have c0 : W.cell? ⟨b, 17 + k, none⟩ = some (nd k) := by rw [hbW.cell]; exact wldA_nd _ _ _ _ _ _ (by omega)
    have f0 := hbW.frozen (17 + k)
    go_simp
    exact hK undef _ (KeepC.set b (17 + k) W _) (by have := hbW.set_ (17 + k) (.pointer (some ⟨nb, 0, none⟩)); rwa [wldA_setN _ _ _ _ _ _ (by omega)] at this)
  go_simp
  generalize hZ : (Act.mk _ _) = Z
  refine hK Z ?_
  subst hZ
  clear hK K
  refine kAllP_p (fun K hK => ?_)
  go_simp
  generalize hZ : (Act.mk _ _) = Z
  refine hK Z ?_
  subst hZ
  clear hK K
  refine kAllP_p (fun K hK => ?_)
  go_simp
  generalize hZ : (Act.mk _ _) = Z
  refine hK Z ?_
  subst hZ
  clear hK K
  refine kAllP_nil (fun W6 hW hF => ?_)
  have hb6 := kAllHas_at hF 0 rfl
  have hwd6 := HWd5.out.wrote (KeepC.d hW).1 hb6
  have hz6 := HBz.out.keep (KeepC.d hW).1 (fun e => (Blk.ne_ HBz.out HWd5.out.blk (by decide)) e)
  have hn6 := HNb.out.keep (KeepC.d hW).1 (fun e => (Blk.ne_ HNb.out HWd5.out.blk (by decide)) e)
  have hk6 := HK5.out.trans ((KeepC.d hW).1.mono fun _ _ e => .inl e)
  have HWd6 := Lib.hid hwd6
  have HBz6 := Lib.hid hz6
  have HNb6 := Lib.hid hn6
  have HK6 := Lib.hid hk6
  clear hF hW hb6 hwd6 hz6 hn6 hk6 HBi HBz HNb HK5 HWd5
  have c0 : W6.cell? ⟨b, 30 + k, none⟩ = some (.int .i64 (nw k)) := by rw [HWd6.out.blk.cell]; exact wldA_nw _ _ _ _ _ _ (by omega)
  have f0 := HWd6.out.blk.frozen (30 + k)
  go_upto_region 15 with (fail)
  have kc := (Keep.refl (fun g => g = b) W6).setCell (p := ⟨b, 30 + k, none⟩) (fun _ => rfl) (.int .i64 inc)
  have hb7 : Blk (W6.setCell ⟨b, 30 + k, none⟩ (.int .i64 inc)) b 70 (wldA (.slice A c.seeds.length cap) c (ndSet nd k (.pointer (some ⟨nb, 0, none⟩))) (nwSet nw k inc) (st + 1) bn) := by
    have := HWd6.out.blk.set_ (30 + k) (.int .i64 inc)
    rwa [wldA_setW _ _ _ _ _ _ (by omega)] at this
  have hz7 := HBz6.out.keep kc (fun e => (Blk.ne_ HBz6.out HWd6.out.blk (by decide)) e)
  have hn7 := HNb6.out.keep kc (fun e => (Blk.ne_ HNb6.out HWd6.out.blk (by decide)) e)
  have hw7 := HWd6.out.wrote kc hb7
  have hk7 := HK6.out.trans (kc.mono fun _ _ e => .inl e)
  generalize W6.setCell ⟨b, 30 + k, none⟩ (.int .i64 inc) = W7 at *
  have HZ7 := Lib.hid hz7
  have HF7 := Lib.hid (show ∃ v, Wd W7 b row A cap c (ndSet nd k v) (nwSet nw k inc) (st + 1) bn ∧ Fresh W7 w.heap.size v ∧ Keep (fun g => g = b) w W7 from ⟨_, hw7, ⟨nb, ar, rfl, hn7, HAr.out, HNl.out⟩, hk7⟩)
  clear kc hb7 hz7 hn7 hw7 hk7 c0 f0 HWd6 HBz6 HNb6 HK6
  go_wp2_with (first | (refine wpList_store_row rfl 34 _ _ rfl (w.heap.size + 1) ansC rfl rfl 34 _ HZ7.out sizeAns rfl oneAns ?_; rw [setRow_same HZ7.out]) | fail)
  exact bodyPost_ret (v := ansV 0) (results_ans Tryz.results14 _ _ _ HZ7.out rfl rfl) rfl ⟨rfl, HF7.out⟩
end Go.Proofs.YtlfpefnlgiohbaaGreat
