/-
  coveylaw05.works, large.
-/
import Derived.Test.YtljmpjkfdkcjnaaCloQ
namespace Go.Proofs.Ytljmpjkfdkcjnaa
open Go.RowKit

abbrev tA : List Tick := [((1, 1), 2), ((2, 1), 1)]
abbrev tB : List Tick := [((1, 1), 1), ((3, 1), 1)]
abbrev tJ : List Tick := [((1, 1), 2), ((2, 1), 1), ((3, 1), 1)]
theorem ex1 : joinM tA tB = tJ := by rw [joinM_f]; decide +kernel
theorem ex2 : cmpM tA tB = 4 := by rw [cmpM_f]; decide +kernel
theorem ex3 : upE [] (2, 1) = 0 := by decide +kernel
theorem ex4 : upL [] (2, 1) = [((2, 1), 1)] := by decide +kernel
theorem ex5 : cmpM [] [((1, 1), 0)] = 1 := by rw [cmpM_f]; decide +kernel
set_option maxRecDepth 100000 in
set_option maxHeartbeats 2000000 in
theorem works_any (w : World) : Calls Try.prog 8 #[] w (Tell (.bool true) w) := by
  go_enter Try.func8, Try.ntmps8
  go_wp2_with fail
  refine (of_any _ 2 _ tA _ rfl (RdK.of_blk (Blk.new _ _ _) 6 1 rfl) (by decide)).mono ?_
  rintro e w1 ⟨row1, A1, c1, rfl, hs1, _, hk1⟩
  have HA := Lib.hid hs1.tsl.1
  have HK1 := Lib.hid (keep0_trans _ _ _ ((Keep.refl _ w).alloc _) hk1)
  clear hs1 hk1
  go_wp2_with fail
  refine (of_any _ 2 _ tB _ rfl (RdK.of_blk (Blk.new _ _ _) 6 1 rfl) (by decide)).mono ?_
  rintro e w2 ⟨row2, A2, c2, rfl, hs2, _, hk2⟩
  have HB := Lib.hid hs2.tsl.1
  have HKx := Lib.hid (keep0_trans _ _ _ ((Keep.refl _ w1).alloc _) hk2)
  have HK2 := Lib.hid (keep0_trans _ _ _ HK1.out HKx.out)
  clear hs2 hk2
  go_wp2_with fail
  refine (up_any none 0 0 [] (2, 1) _ (RdT.none_ _ _) (by decide)).mono ?_
  rintro e w3 ⟨A3, n3, c3, rfl, hs3, hk3⟩
  rw [ex3]
  rw [ex4] at hs3
  have HU := Lib.hid hs3.1
  have HK3 := Lib.hid (keep0_trans _ _ _ HK2.out hk3)
  have HKy := Lib.hid hk3
  clear hs3 hk3
  go_wp2_with fail
  refine (joinC_any A1 A2 _ _ c1 c2 tA tB _ (HA.out.keep0 (keep0_trans _ _ _ HKx.out HKy.out)) (HB.out.keep0 HKy.out) (by decide) (by decide)).mono ?_
  rintro e w4 ⟨row4, A4, c4, rfl, hs4, _, hk4⟩
  rw [ex1] at hs4
  rw [ex1]
  have HJ := Lib.hid hs4.tsl.1
  have HKz := Lib.hid hk4
  clear hs4 hk4
  go_wp2_with fail
  refine (of_any _ 3 _ tJ _ rfl (RdK.of_blk (Blk.new _ _ _) 9 1 rfl) (by decide)).mono ?_
  rintro e w5 ⟨row5, A5, c5, rfl, hs5, _, hk5⟩
  have HO := Lib.hid hs5.tsl.1
  have HK5 := Lib.hid (keep0_trans _ _ _ ((Keep.refl _ w4).alloc _) hk5)
  clear hs5 hk5
  go_wp2_with fail
  refine (ticks_any A4 A5 _ _ c4 c5 tJ tJ _ (HJ.out.keep0 HK5.out) HO.out (by decide) (by decide)).mono ?_
  rintro e w6 ⟨rfl, hk6⟩
  have HK6 := Lib.hid (keep0_trans _ _ _ HKy.out (keep0_trans _ _ _ HKz.out (keep0_trans _ _ _ HK5.out hk6)))
  have HKv := Lib.hid (keep0_trans _ _ _ HKz.out (keep0_trans _ _ _ HK5.out hk6))
  rw [decide_eq_true rfl]
  clear hk6
  go_wp2_with fail
  refine (compareC_any A1 A2 _ _ c1 c2 tA tB _ (HA.out.keep0 (keep0_trans _ _ _ HKx.out HK6.out)) (HB.out.keep0 HK6.out) (by decide) (by decide)).mono ?_
  rintro e w7 ⟨rfl, hk7⟩
  rw [ex2]
  have HK7 := Lib.hid (keep0_trans _ _ _ HK6.out hk7)
  have HKw := Lib.hid (keep0_trans _ _ _ HKv.out hk7)
  clear hk7
  go_wp2_with fail
  refine (of_any _ 1 _ [((2, 1), 1)] _ rfl (RdK.of_blk (Blk.new _ _ _) 3 1 rfl) (by decide)).mono ?_
  rintro e w8 ⟨row8, A8, c8, rfl, hs8, _, hk8⟩
  have HO8 := Lib.hid hs8.tsl.1
  have HK8 := Lib.hid (keep0_trans _ _ _ ((Keep.refl _ w7).alloc _) hk8)
  clear hs8 hk8
  go_wp2_with fail
  refine (ticks_any A3 A8 _ _ c3 c8 [((2, 1), 1)] [((2, 1), 1)] _ (HU.out.keep0 (keep0_trans _ _ _ HKw.out HK8.out)) HO8.out (by have := HU.out.1; simp at this; omega) (by decide)).mono ?_
  rintro e w9 ⟨rfl, hk9⟩
  rw [decide_eq_true rfl]
  have HK9 := Lib.hid (keep0_trans _ _ _ HK8.out hk9)
  clear hk9
  go_wp2_with fail
  refine (of_any _ 1 _ [((1, 1), 0)] _ rfl (RdK.of_blk (Blk.new _ _ _) 3 1 rfl) (by decide)).mono ?_
  rintro e w10 ⟨row10, A10, c10, rfl, hs10, _, hk10⟩
  have HO10 := Lib.hid hs10.tsl.1
  have HK10 := Lib.hid (keep0_trans _ _ _ HK9.out (keep0_trans _ _ _ ((Keep.refl _ w9).alloc _) hk10))
  clear hs10 hk10
  go_wp2_with fail
  refine (compareC_any none A10 0 _ 0 c10 [] [((1, 1), 0)] _ (RdT.none_ _ _) HO10.out (by decide) (by decide)).mono ?_
  rintro e w11 ⟨rfl, hk11⟩
  rw [ex5]
  have HK11 := Lib.hid (keep0_trans _ _ _ HK10.out hk11)
  clear hk11
  go_wp2
  go_ret
  exact ⟨rfl, keep0_trans _ _ _ HK2.out (keep0_trans _ _ _ HK7.out HK11.out)⟩
end Go.Proofs.Ytljmpjkfdkcjnaa
