/-
  The statement ClockNames. Written by gen_names.py.
-/
import Derived.Test.YtljmpjkfdkcjnaaCloL
import Derived.Test.YtljmpjkfdkcjnaaKord
namespace Go.Proofs.Ytljmpjkfdkcjnaa
open Go.RowKit
attribute [local irreducible] kAll
attribute [local go_sem] kQuiet kQuietUpon

set_option maxRecDepth 100000 in
set_option maxHeartbeats 4000000 in
theorem names_tell (w : World) : Calls Try.prog 3 #[] w (Tell (.bool true) w) := by
  have K0 := Lib.hid (Keep.refl (fun _ => False) w)
  go_enter Try.func3, Try.ntmps3
  go_upto_region 1 with (fail)
  refine wp_region_kord (Keep (fun _ => False)) (Keep.refl _) keep0_trans 14 (Ts := [some (.inl (.bool true)), none, none, none, none, none, none, none, none, none, none, none, none, none]) ?_
  simp only [List.take, List.drop]
  refine kAll_dn _ (fun W hW hF => kStep_of fun K Q hK => ?_) (fun K hK => ?_)
  · go_simp
    refine (works_any W).mono ?_
    rintro e w' ⟨rfl, hk⟩
    exact hK _ _ hk rfl
  go_simp
  generalize hZ : (Act.mk _ _) = Z
  refine hK Z ?_
  subst hZ
  clear hK K
  refine kAll_p (fun K hK => ?_)
  go_simp
  generalize hZ : (Act.mk _ _) = Z
  refine hK Z ?_
  subst hZ
  clear hK K
  refine kAll_p (fun K hK => ?_)
  go_simp
  generalize hZ : (Act.mk _ _) = Z
  refine hK Z ?_
  subst hZ
  clear hK K
  refine kAll_p (fun K hK => ?_)
  go_simp
  generalize hZ : (Act.mk _ _) = Z
  refine hK Z ?_
  subst hZ
  clear hK K
  refine kAll_p (fun K hK => ?_)
  go_simp
  generalize hZ : (Act.mk _ _) = Z
  refine hK Z ?_
  subst hZ
  clear hK K
  refine kAll_p (fun K hK => ?_)
  go_simp
  generalize hZ : (Act.mk _ _) = Z
  refine hK Z ?_
  subst hZ
  clear hK K
  refine kAll_p (fun K hK => ?_)
  go_simp
  generalize hZ : (Act.mk _ _) = Z
  refine hK Z ?_
  subst hZ
  clear hK K
  refine kAll_p (fun K hK => ?_)
  go_simp
  generalize hZ : (Act.mk _ _) = Z
  refine hK Z ?_
  subst hZ
  clear hK K
  refine kAll_p (fun K hK => ?_)
  go_simp
  generalize hZ : (Act.mk _ _) = Z
  refine hK Z ?_
  subst hZ
  clear hK K
  refine kAll_p (fun K hK => ?_)
  go_simp
  generalize hZ : (Act.mk _ _) = Z
  refine hK Z ?_
  subst hZ
  clear hK K
  refine kAll_p (fun K hK => ?_)
  go_simp
  generalize hZ : (Act.mk _ _) = Z
  refine hK Z ?_
  subst hZ
  clear hK K
  refine kAll_p (fun K hK => ?_)
  go_simp
  generalize hZ : (Act.mk _ _) = Z
  refine hK Z ?_
  subst hZ
  clear hK K
  refine kAll_p (fun K hK => ?_)
  go_simp
  generalize hZ : (Act.mk _ _) = Z
  refine hK Z ?_
  subst hZ
  clear hK K
  refine kAll_p (fun K hK => ?_)
  go_simp
  generalize hZ : (Act.mk _ _) = Z
  refine hK Z ?_
  subst hZ
  clear hK K
  refine kAll_nil (fun W1 hW hF => ?_)
  clear hF
  have hk_2 : Keep (fun _ => False) _ W1 := hW
  have K_3 := Lib.hid (keep0_trans _ _ _ K0.out hk_2)
  clear hk_2 K0
  clear hW
  go_upto_region 3 with (fail)
  refine wp_region_kord (Keep (fun _ => False)) (Keep.refl _) keep0_trans 40 (Ts := [some (.inr (fun v W => IsIn W v [((1, 1), 1)])), some (.inr (fun v W => IsTB 1 W v [((1, 1), 1)])), some (.inl (.int .u8 2)), none, none, some (.inr (fun v W => IsIn W v [((1, 1), 2)])), some (.inr (fun v W => IsTB 1 W v [((1, 1), 2)])), some (.inr (fun v W => IsIn W v [((1, 1), 1)])), some (.inr (fun v W => IsTB 1 W v [((1, 1), 1)])), some (.inl (.int .u8 3)), none, none, none, some (.inr (fun v W => IsIn W v [((1, 1), 1)])), some (.inr (fun v W => IsTB 1 W v [((1, 1), 1)])), some (.inr (fun v W => IsIn W v [((1, 2), 1)])), some (.inr (fun v W => IsTB 1 W v [((1, 2), 1)])), some (.inl (.int .u8 4)), none, none, none, some (.inr (fun v W => IsIn W v [((2, 1), 1), ((1, 1), 3)])), some (.inr (fun v W => IsTB 2 W v [((2, 1), 1), ((1, 1), 3)])), some (.inr (fun v W => IsIn W v [((1, 1), 3), ((2, 1), 1)])), some (.inr (fun v W => IsTB 2 W v [((1, 1), 3), ((2, 1), 1)])), some (.inl (.int .u8 1)), none, none, none, some (.inr (fun v W => IsIn W v [((1, 1), 2), ((1, 1), 5), ((1, 1), (-3))])), some (.inr (fun v W => IsTB 3 W v [((1, 1), 2), ((1, 1), 5), ((1, 1), (-3))])), none, some (.inl (.int .i64 5)), none, none, none, none, some (.inl (.int .i64 0)), none, none]) ?_
  simp only [List.take, List.drop]
  refine kAll_tn _ (fun v W W' hk h => h.keep0 hk) (fun W hW hF => kStep_of fun K Q hK => ?_) (fun u0 K hK => ?_)
  · go_simp
    exact hK _ _ ((Keep.refl _ _).alloc _) ⟨_, 1, _, rfl, rfl, RdK.of_blk (Blk.new _ _ _) 3 1 rfl⟩
  go_simp
  generalize hZ : (Act.mk _ _) = Z
  refine hK Z ?_
  subst hZ
  clear hK K
  refine kAll_tn _ (fun v W W' hk h => h.keep0 hk) (fun W hW hF => kStep_of fun K Q hK => ?_) (fun u1 K hK => ?_)
  · have h0 : (fun v W => IsIn W v [((1, 1), 1)]) u0 W := kHas_at hF 0 rfl (by kernel_rfl)
    go_simp
    refine (ofI_any 1 h0 (by decide) (by decide)).mono ?_
    rintro e w' ⟨u, rfl, hu, hk⟩
    exact hK _ _ hk hu
  go_simp
  generalize hZ : (Act.mk _ _) = Z
  refine hK Z ?_
  subst hZ
  clear hK K
  refine kAll_dn _ (fun W hW hF => kStep_of fun K Q hK => ?_) (fun K hK => ?_)
  · have h0 := isTB_nil W
    have h1 : (fun v W => IsTB 1 W v [((1, 1), 1)]) u1 W := kHas_at hF 0 rfl (by kernel_rfl)
    go_simp
    refine (cmpI_is 2 h0 h1 (by decide) (by rw [cmpM_f]; decide +kernel)).mono ?_
    rintro e w' ⟨rfl, hk⟩
    exact hK _ _ hk rfl
  go_simp
  generalize hZ : (Act.mk _ _) = Z
  refine hK Z ?_
  subst hZ
  clear hK K
  refine kAll_p (fun K hK => ?_)
  go_simp
  generalize hZ : (Act.mk _ _) = Z
  refine hK Z ?_
  subst hZ
  clear hK K
  refine kAll_p (fun K hK => ?_)
  go_simp
  generalize hZ : (Act.mk _ _) = Z
  refine hK Z ?_
  subst hZ
  clear hK K
  refine kAll_tn _ (fun v W W' hk h => h.keep0 hk) (fun W hW hF => kStep_w (by kernel_rfl) fun K Q hK => ?_) (fun u2 K hK => ?_)
  · go_simp
    exact hK _ _ ((Keep.refl _ _).alloc _) ⟨_, 1, _, rfl, rfl, RdK.of_blk (Blk.new _ _ _) 3 1 rfl⟩
  go_simp
  generalize hZ : (Act.mk _ _) = Z
  refine hK Z ?_
  subst hZ
  clear hK K
  refine kAll_tn _ (fun v W W' hk h => h.keep0 hk) (fun W hW hF => kStep_w (by kernel_rfl) fun K Q hK => ?_) (fun u3 K hK => ?_)
  · have h0 : (fun v W => IsIn W v [((1, 1), 2)]) u2 W := kHas_at hF 0 rfl (by kernel_rfl)
    go_simp
    refine (ofI_any 1 h0 (by decide) (by decide)).mono ?_
    rintro e w' ⟨u, rfl, hu, hk⟩
    exact hK _ _ hk hu
  go_simp
  generalize hZ : (Act.mk _ _) = Z
  refine hK Z ?_
  subst hZ
  clear hK K
  refine kAll_tn _ (fun v W W' hk h => h.keep0 hk) (fun W hW hF => kStep_w (by kernel_rfl) fun K Q hK => ?_) (fun u4 K hK => ?_)
  · go_simp
    exact hK _ _ ((Keep.refl _ _).alloc _) ⟨_, 1, _, rfl, rfl, RdK.of_blk (Blk.new _ _ _) 3 1 rfl⟩
  go_simp
  generalize hZ : (Act.mk _ _) = Z
  refine hK Z ?_
  subst hZ
  clear hK K
  refine kAll_tn _ (fun v W W' hk h => h.keep0 hk) (fun W hW hF => kStep_w (by kernel_rfl) fun K Q hK => ?_) (fun u5 K hK => ?_)
  · have h0 : (fun v W => IsIn W v [((1, 1), 1)]) u4 W := kHas_at hF 0 rfl (by kernel_rfl)
    go_simp
    refine (ofI_any 1 h0 (by decide) (by decide)).mono ?_
    rintro e w' ⟨u, rfl, hu, hk⟩
    exact hK _ _ hk hu
  go_simp
  generalize hZ : (Act.mk _ _) = Z
  refine hK Z ?_
  subst hZ
  clear hK K
  refine kAll_dn _ (fun W hW hF => kStep_w (by kernel_rfl) fun K Q hK => ?_) (fun K hK => ?_)
  · have h0 : (fun v W => IsTB 1 W v [((1, 1), 2)]) u3 W := kHas_at hF 2 rfl (by kernel_rfl)
    have h1 : (fun v W => IsTB 1 W v [((1, 1), 1)]) u5 W := kHas_at hF 0 rfl (by kernel_rfl)
    go_simp
    refine (cmpI_is 3 h0 h1 (by decide) (by rw [cmpM_f]; decide +kernel)).mono ?_
    rintro e w' ⟨rfl, hk⟩
    exact hK _ _ hk rfl
  go_simp
  generalize hZ : (Act.mk _ _) = Z
  refine hK Z ?_
  subst hZ
  clear hK K
  refine kAll_pw (by kernel_rfl) (fun K hK => ?_)
  go_simp
  generalize hZ : (Act.mk _ _) = Z
  refine hK Z ?_
  subst hZ
  clear hK K
  refine kAll_p (fun K hK => ?_)
  go_simp
  generalize hZ : (Act.mk _ _) = Z
  refine hK Z ?_
  subst hZ
  clear hK K
  refine kAll_p (fun K hK => ?_)
  go_simp
  generalize hZ : (Act.mk _ _) = Z
  refine hK Z ?_
  subst hZ
  clear hK K
  refine kAll_tn _ (fun v W W' hk h => h.keep0 hk) (fun W hW hF => kStep_w (by kernel_rfl) fun K Q hK => ?_) (fun u6 K hK => ?_)
  · go_simp
    exact hK _ _ ((Keep.refl _ _).alloc _) ⟨_, 1, _, rfl, rfl, RdK.of_blk (Blk.new _ _ _) 3 1 rfl⟩
  go_simp
  generalize hZ : (Act.mk _ _) = Z
  refine hK Z ?_
  subst hZ
  clear hK K
  refine kAll_tn _ (fun v W W' hk h => h.keep0 hk) (fun W hW hF => kStep_w (by kernel_rfl) fun K Q hK => ?_) (fun u7 K hK => ?_)
  · have h0 : (fun v W => IsIn W v [((1, 1), 1)]) u6 W := kHas_at hF 0 rfl (by kernel_rfl)
    go_simp
    refine (ofI_any 1 h0 (by decide) (by decide)).mono ?_
    rintro e w' ⟨u, rfl, hu, hk⟩
    exact hK _ _ hk hu
  go_simp
  generalize hZ : (Act.mk _ _) = Z
  refine hK Z ?_
  subst hZ
  clear hK K
  refine kAll_tn _ (fun v W W' hk h => h.keep0 hk) (fun W hW hF => kStep_w (by kernel_rfl) fun K Q hK => ?_) (fun u8 K hK => ?_)
  · go_simp
    exact hK _ _ ((Keep.refl _ _).alloc _) ⟨_, 1, _, rfl, rfl, RdK.of_blk (Blk.new _ _ _) 3 1 rfl⟩
  go_simp
  generalize hZ : (Act.mk _ _) = Z
  refine hK Z ?_
  subst hZ
  clear hK K
  refine kAll_tn _ (fun v W W' hk h => h.keep0 hk) (fun W hW hF => kStep_w (by kernel_rfl) fun K Q hK => ?_) (fun u9 K hK => ?_)
  · have h0 : (fun v W => IsIn W v [((1, 2), 1)]) u8 W := kHas_at hF 0 rfl (by kernel_rfl)
    go_simp
    refine (ofI_any 1 h0 (by decide) (by decide)).mono ?_
    rintro e w' ⟨u, rfl, hu, hk⟩
    exact hK _ _ hk hu
  go_simp
  generalize hZ : (Act.mk _ _) = Z
  refine hK Z ?_
  subst hZ
  clear hK K
  refine kAll_dn _ (fun W hW hF => kStep_w (by kernel_rfl) fun K Q hK => ?_) (fun K hK => ?_)
  · have h0 : (fun v W => IsTB 1 W v [((1, 1), 1)]) u7 W := kHas_at hF 2 rfl (by kernel_rfl)
    have h1 : (fun v W => IsTB 1 W v [((1, 2), 1)]) u9 W := kHas_at hF 0 rfl (by kernel_rfl)
    go_simp
    refine (cmpI_is 4 h0 h1 (by decide) (by rw [cmpM_f]; decide +kernel)).mono ?_
    rintro e w' ⟨rfl, hk⟩
    exact hK _ _ hk rfl
  go_simp
  generalize hZ : (Act.mk _ _) = Z
  refine hK Z ?_
  subst hZ
  clear hK K
  refine kAll_pw (by kernel_rfl) (fun K hK => ?_)
  go_simp
  generalize hZ : (Act.mk _ _) = Z
  refine hK Z ?_
  subst hZ
  clear hK K
  refine kAll_p (fun K hK => ?_)
  go_simp
  generalize hZ : (Act.mk _ _) = Z
  refine hK Z ?_
  subst hZ
  clear hK K
  refine kAll_p (fun K hK => ?_)
  go_simp
  generalize hZ : (Act.mk _ _) = Z
  refine hK Z ?_
  subst hZ
  clear hK K
  refine kAll_tn _ (fun v W W' hk h => h.keep0 hk) (fun W hW hF => kStep_w (by kernel_rfl) fun K Q hK => ?_) (fun u10 K hK => ?_)
  · go_simp
    exact hK _ _ ((Keep.refl _ _).alloc _) ⟨_, 2, _, rfl, rfl, RdK.of_blk (Blk.new _ _ _) 6 1 rfl⟩
  go_simp
  generalize hZ : (Act.mk _ _) = Z
  refine hK Z ?_
  subst hZ
  clear hK K
  refine kAll_tn _ (fun v W W' hk h => h.keep0 hk) (fun W hW hF => kStep_w (by kernel_rfl) fun K Q hK => ?_) (fun u11 K hK => ?_)
  · have h0 : (fun v W => IsIn W v [((2, 1), 1), ((1, 1), 3)]) u10 W := kHas_at hF 0 rfl (by kernel_rfl)
    go_simp
    refine (ofI_any 2 h0 (by decide) (by decide)).mono ?_
    rintro e w' ⟨u, rfl, hu, hk⟩
    exact hK _ _ hk hu
  go_simp
  generalize hZ : (Act.mk _ _) = Z
  refine hK Z ?_
  subst hZ
  clear hK K
  refine kAll_tn _ (fun v W W' hk h => h.keep0 hk) (fun W hW hF => kStep_w (by kernel_rfl) fun K Q hK => ?_) (fun u12 K hK => ?_)
  · go_simp
    exact hK _ _ ((Keep.refl _ _).alloc _) ⟨_, 2, _, rfl, rfl, RdK.of_blk (Blk.new _ _ _) 6 1 rfl⟩
  go_simp
  generalize hZ : (Act.mk _ _) = Z
  refine hK Z ?_
  subst hZ
  clear hK K
  refine kAll_tn _ (fun v W W' hk h => h.keep0 hk) (fun W hW hF => kStep_w (by kernel_rfl) fun K Q hK => ?_) (fun u13 K hK => ?_)
  · have h0 : (fun v W => IsIn W v [((1, 1), 3), ((2, 1), 1)]) u12 W := kHas_at hF 0 rfl (by kernel_rfl)
    go_simp
    refine (ofI_any 2 h0 (by decide) (by decide)).mono ?_
    rintro e w' ⟨u, rfl, hu, hk⟩
    exact hK _ _ hk hu
  go_simp
  generalize hZ : (Act.mk _ _) = Z
  refine hK Z ?_
  subst hZ
  clear hK K
  refine kAll_dn _ (fun W hW hF => kStep_w (by kernel_rfl) fun K Q hK => ?_) (fun K hK => ?_)
  · have h0 : (fun v W => IsTB 2 W v [((2, 1), 1), ((1, 1), 3)]) u11 W := kHas_at hF 2 rfl (by kernel_rfl)
    have h1 : (fun v W => IsTB 2 W v [((1, 1), 3), ((2, 1), 1)]) u13 W := kHas_at hF 0 rfl (by kernel_rfl)
    go_simp
    refine (cmpI_is 1 h0 h1 (by decide) (by rw [cmpM_f]; decide +kernel)).mono ?_
    rintro e w' ⟨rfl, hk⟩
    exact hK _ _ hk rfl
  go_simp
  generalize hZ : (Act.mk _ _) = Z
  refine hK Z ?_
  subst hZ
  clear hK K
  refine kAll_pw (by kernel_rfl) (fun K hK => ?_)
  go_simp
  generalize hZ : (Act.mk _ _) = Z
  refine hK Z ?_
  subst hZ
  clear hK K
  refine kAll_p (fun K hK => ?_)
  go_simp
  generalize hZ : (Act.mk _ _) = Z
  refine hK Z ?_
  subst hZ
  clear hK K
  refine kAll_p (fun K hK => ?_)
  go_simp
  generalize hZ : (Act.mk _ _) = Z
  refine hK Z ?_
  subst hZ
  clear hK K
  refine kAll_tn _ (fun v W W' hk h => h.keep0 hk) (fun W hW hF => kStep_w (by kernel_rfl) fun K Q hK => ?_) (fun u14 K hK => ?_)
  · go_simp
    exact hK _ _ ((Keep.refl _ _).alloc _) ⟨_, 3, _, rfl, rfl, RdK.of_blk (Blk.new _ _ _) 9 1 rfl⟩
  go_simp
  generalize hZ : (Act.mk _ _) = Z
  refine hK Z ?_
  subst hZ
  clear hK K
  refine kAll_tn _ (fun v W W' hk h => h.keep0 hk) (fun W hW hF => kStep_w (by kernel_rfl) fun K Q hK => ?_) (fun u15 K hK => ?_)
  · have h0 : (fun v W => IsIn W v [((1, 1), 2), ((1, 1), 5), ((1, 1), (-3))]) u14 W := kHas_at hF 0 rfl (by kernel_rfl)
    go_simp
    refine (ofI_any 3 h0 (by decide) (by decide)).mono ?_
    rintro e w' ⟨u, rfl, hu, hk⟩
    exact hK _ _ hk hu
  go_simp
  generalize hZ : (Act.mk _ _) = Z
  refine hK Z ?_
  subst hZ
  clear hK K
  refine kAll_pw (by kernel_rfl) (fun K hK => ?_)
  go_simp
  generalize hZ : (Act.mk _ _) = Z
  refine hK Z ?_
  subst hZ
  clear hK K
  refine kAll_dn _ (fun W hW hF => kStep_w (by kernel_rfl) fun K Q hK => ?_) (fun K hK => ?_)
  · have h0 : (fun v W => IsTB 3 W v [((1, 1), 2), ((1, 1), 5), ((1, 1), (-3))]) u15 W := kHas_at hF 0 rfl (by kernel_rfl)
    go_simp
    refine (getI_is (1, 1) 5 h0 (by decide) (by decide +kernel)).mono ?_
    rintro e w' ⟨rfl, hk⟩
    exact hK _ _ hk rfl
  go_simp
  generalize hZ : (Act.mk _ _) = Z
  refine hK Z ?_
  subst hZ
  clear hK K
  refine kAll_pw (by kernel_rfl) (fun K hK => ?_)
  go_simp
  generalize hZ : (Act.mk _ _) = Z
  refine hK Z ?_
  subst hZ
  clear hK K
  refine kAll_p (fun K hK => ?_)
  go_simp
  generalize hZ : (Act.mk _ _) = Z
  refine hK Z ?_
  subst hZ
  clear hK K
  refine kAll_p (fun K hK => ?_)
  go_simp
  generalize hZ : (Act.mk _ _) = Z
  refine hK Z ?_
  subst hZ
  clear hK K
  refine kAll_pw (by kernel_rfl) (fun K hK => ?_)
  go_simp
  generalize hZ : (Act.mk _ _) = Z
  refine hK Z ?_
  subst hZ
  clear hK K
  refine kAll_dn _ (fun W hW hF => kStep_w (by kernel_rfl) fun K Q hK => ?_) (fun K hK => ?_)
  · have h0 := isTB_nil W
    go_simp
    refine (getI_is (0, 0) 0 h0 (by decide) (by decide +kernel)).mono ?_
    rintro e w' ⟨rfl, hk⟩
    exact hK _ _ hk rfl
  go_simp
  generalize hZ : (Act.mk _ _) = Z
  refine hK Z ?_
  subst hZ
  clear hK K
  refine kAll_pw (by kernel_rfl) (fun K hK => ?_)
  go_simp
  generalize hZ : (Act.mk _ _) = Z
  refine hK Z ?_
  subst hZ
  clear hK K
  refine kAll_p (fun K hK => ?_)
  go_simp
  generalize hZ : (Act.mk _ _) = Z
  refine hK Z ?_
  subst hZ
  clear hK K
  refine kAll_nil (fun W4 hW hF => ?_)
  clear hF
  have hk_5 : Keep (fun _ => False) _ W4 := hW
  have K_6 := Lib.hid (keep0_trans _ _ _ K_3.out hk_5)
  clear hk_5 K_3
  clear hW
  go_upto_region 5 with (fail)
  refine wp_region_kord (Keep (fun _ => False)) (Keep.refl _) keep0_trans 12 (Ts := [some (.inr (fun v W => IsIn W v [((1, 1), 0)])), some (.inr (fun v W => IsTB 1 W v [((1, 1), 0)])), some (.inr (fun v W => IsIn W v [((1, 1), 1099511627777)])), some (.inr (fun v W => IsTB 1 W v [((1, 1), 1099511627777)])), some (.inr (fun v W => IsIn W v [((2, 1), 1), ((1, 1), 1)])), some (.inr (fun v W => IsTB 2 W v [((2, 1), 1), ((1, 1), 1)])), some (.inr (fun v W => IsIn W v [((1, 1), 1), ((1, 1), 2)])), some (.inr (fun v W => IsTB 2 W v [((1, 1), 1), ((1, 1), 2)])), some (.inr (fun v W => IsIn W v [((13, 1), 1)])), some (.inr (fun v W => IsTB 1 W v [((13, 1), 1)])), some (.inr (fun v W => IsIn W v [((1, 0), 1)])), some (.inr (fun v W => IsTB 1 W v [((1, 0), 1)]))]) ?_
  simp only [List.take, List.drop]
  refine kAll_tn _ (fun v W W' hk h => h.keep0 hk) (fun W hW hF => kStep_of fun K Q hK => ?_) (fun u0 K hK => ?_)
  · go_simp
    exact hK _ _ ((Keep.refl _ _).alloc _) ⟨_, 1, _, rfl, rfl, RdK.of_blk (Blk.new _ _ _) 3 1 rfl⟩
  go_simp
  generalize hZ : (Act.mk _ _) = Z
  refine hK Z ?_
  subst hZ
  clear hK K
  refine kAll_tn _ (fun v W W' hk h => h.keep0 hk) (fun W hW hF => kStep_of fun K Q hK => ?_) (fun u1 K hK => ?_)
  · have h0 : (fun v W => IsIn W v [((1, 1), 0)]) u0 W := kHas_at hF 0 rfl (by kernel_rfl)
    go_simp
    refine (ofI_any 1 h0 (by decide) (by decide)).mono ?_
    rintro e w' ⟨u, rfl, hu, hk⟩
    exact hK _ _ hk hu
  go_simp
  generalize hZ : (Act.mk _ _) = Z
  refine hK Z ?_
  subst hZ
  clear hK K
  refine kAll_tn _ (fun v W W' hk h => h.keep0 hk) (fun W hW hF => kStep_of fun K Q hK => ?_) (fun u2 K hK => ?_)
  · go_simp
    exact hK _ _ ((Keep.refl _ _).alloc _) ⟨_, 1, _, rfl, rfl, RdK.of_blk (Blk.new _ _ _) 3 1 rfl⟩
  go_simp
  generalize hZ : (Act.mk _ _) = Z
  refine hK Z ?_
  subst hZ
  clear hK K
  refine kAll_tn _ (fun v W W' hk h => h.keep0 hk) (fun W hW hF => kStep_of fun K Q hK => ?_) (fun u3 K hK => ?_)
  · have h0 : (fun v W => IsIn W v [((1, 1), 1099511627777)]) u2 W := kHas_at hF 0 rfl (by kernel_rfl)
    go_simp
    refine (ofI_any 1 h0 (by decide) (by decide)).mono ?_
    rintro e w' ⟨u, rfl, hu, hk⟩
    exact hK _ _ hk hu
  go_simp
  generalize hZ : (Act.mk _ _) = Z
  refine hK Z ?_
  subst hZ
  clear hK K
  refine kAll_tn _ (fun v W W' hk h => h.keep0 hk) (fun W hW hF => kStep_of fun K Q hK => ?_) (fun u4 K hK => ?_)
  · go_simp
    exact hK _ _ ((Keep.refl _ _).alloc _) ⟨_, 2, _, rfl, rfl, RdK.of_blk (Blk.new _ _ _) 6 1 rfl⟩
  go_simp
  generalize hZ : (Act.mk _ _) = Z
  refine hK Z ?_
  subst hZ
  clear hK K
  refine kAll_tn _ (fun v W W' hk h => h.keep0 hk) (fun W hW hF => kStep_of fun K Q hK => ?_) (fun u5 K hK => ?_)
  · have h0 : (fun v W => IsIn W v [((2, 1), 1), ((1, 1), 1)]) u4 W := kHas_at hF 0 rfl (by kernel_rfl)
    go_simp
    refine (ofI_any 2 h0 (by decide) (by decide)).mono ?_
    rintro e w' ⟨u, rfl, hu, hk⟩
    exact hK _ _ hk hu
  go_simp
  generalize hZ : (Act.mk _ _) = Z
  refine hK Z ?_
  subst hZ
  clear hK K
  refine kAll_tn _ (fun v W W' hk h => h.keep0 hk) (fun W hW hF => kStep_of fun K Q hK => ?_) (fun u6 K hK => ?_)
  · go_simp
    exact hK _ _ ((Keep.refl _ _).alloc _) ⟨_, 2, _, rfl, rfl, RdK.of_blk (Blk.new _ _ _) 6 1 rfl⟩
  go_simp
  generalize hZ : (Act.mk _ _) = Z
  refine hK Z ?_
  subst hZ
  clear hK K
  refine kAll_tn _ (fun v W W' hk h => h.keep0 hk) (fun W hW hF => kStep_of fun K Q hK => ?_) (fun u7 K hK => ?_)
  · have h0 : (fun v W => IsIn W v [((1, 1), 1), ((1, 1), 2)]) u6 W := kHas_at hF 0 rfl (by kernel_rfl)
    go_simp
    refine (ofI_any 2 h0 (by decide) (by decide)).mono ?_
    rintro e w' ⟨u, rfl, hu, hk⟩
    exact hK _ _ hk hu
  go_simp
  generalize hZ : (Act.mk _ _) = Z
  refine hK Z ?_
  subst hZ
  clear hK K
  refine kAll_tn _ (fun v W W' hk h => h.keep0 hk) (fun W hW hF => kStep_of fun K Q hK => ?_) (fun u8 K hK => ?_)
  · go_simp
    exact hK _ _ ((Keep.refl _ _).alloc _) ⟨_, 1, _, rfl, rfl, RdK.of_blk (Blk.new _ _ _) 3 1 rfl⟩
  go_simp
  generalize hZ : (Act.mk _ _) = Z
  refine hK Z ?_
  subst hZ
  clear hK K
  refine kAll_tn _ (fun v W W' hk h => h.keep0 hk) (fun W hW hF => kStep_of fun K Q hK => ?_) (fun u9 K hK => ?_)
  · have h0 : (fun v W => IsIn W v [((13, 1), 1)]) u8 W := kHas_at hF 0 rfl (by kernel_rfl)
    go_simp
    refine (ofI_any 1 h0 (by decide) (by decide)).mono ?_
    rintro e w' ⟨u, rfl, hu, hk⟩
    exact hK _ _ hk hu
  go_simp
  generalize hZ : (Act.mk _ _) = Z
  refine hK Z ?_
  subst hZ
  clear hK K
  refine kAll_tn _ (fun v W W' hk h => h.keep0 hk) (fun W hW hF => kStep_of fun K Q hK => ?_) (fun u10 K hK => ?_)
  · go_simp
    exact hK _ _ ((Keep.refl _ _).alloc _) ⟨_, 1, _, rfl, rfl, RdK.of_blk (Blk.new _ _ _) 3 1 rfl⟩
  go_simp
  generalize hZ : (Act.mk _ _) = Z
  refine hK Z ?_
  subst hZ
  clear hK K
  refine kAll_tn _ (fun v W W' hk h => h.keep0 hk) (fun W hW hF => kStep_of fun K Q hK => ?_) (fun u11 K hK => ?_)
  · have h0 : (fun v W => IsIn W v [((1, 0), 1)]) u10 W := kHas_at hF 0 rfl (by kernel_rfl)
    go_simp
    refine (ofI_any 1 h0 (by decide) (by decide)).mono ?_
    rintro e w' ⟨u, rfl, hu, hk⟩
    exact hK _ _ hk hu
  go_simp
  generalize hZ : (Act.mk _ _) = Z
  refine hK Z ?_
  subst hZ
  clear hK K
  refine kAll_nil (fun W7 hW hF => ?_)
  have hf : (fun v W => IsTB 1 W v [((1, 1), 0)]) u1 W7 := kAllHas_at hF 10 rfl
  obtain ⟨A0, n0, c0, rfl, hr0, hn0⟩ := hf
  have G0 : Hid (∀ W, Keep (fun _ => False) W7 W → IsTB 2 W (.slice A0 n0 c0) [((1, 1), 0)]) := Lib.hid fun W h => ⟨_, _, _, rfl, hr0.keep0 h, by omega⟩
  clear hr0 hn0
  have hf : (fun v W => IsTB 1 W v [((1, 1), 1099511627777)]) u3 W7 := kAllHas_at hF 8 rfl
  obtain ⟨A1, n1, c1, rfl, hr1, hn1⟩ := hf
  have G1 : Hid (∀ W, Keep (fun _ => False) W7 W → IsTB 2 W (.slice A1 n1 c1) [((1, 1), 1099511627777)]) := Lib.hid fun W h => ⟨_, _, _, rfl, hr1.keep0 h, by omega⟩
  clear hr1 hn1
  have hf : (fun v W => IsTB 2 W v [((2, 1), 1), ((1, 1), 1)]) u5 W7 := kAllHas_at hF 6 rfl
  obtain ⟨A2, n2, c2, rfl, hr2, hn2⟩ := hf
  have G2 : Hid (∀ W, Keep (fun _ => False) W7 W → IsTB 2 W (.slice A2 n2 c2) [((2, 1), 1), ((1, 1), 1)]) := Lib.hid fun W h => ⟨_, _, _, rfl, hr2.keep0 h, by omega⟩
  clear hr2 hn2
  have hf : (fun v W => IsTB 2 W v [((1, 1), 1), ((1, 1), 2)]) u7 W7 := kAllHas_at hF 4 rfl
  obtain ⟨A3, n3, c3, rfl, hr3, hn3⟩ := hf
  have G3 : Hid (∀ W, Keep (fun _ => False) W7 W → IsTB 2 W (.slice A3 n3 c3) [((1, 1), 1), ((1, 1), 2)]) := Lib.hid fun W h => ⟨_, _, _, rfl, hr3.keep0 h, by omega⟩
  clear hr3 hn3
  have hf : (fun v W => IsTB 1 W v [((13, 1), 1)]) u9 W7 := kAllHas_at hF 2 rfl
  obtain ⟨A4, n4, c4, rfl, hr4, hn4⟩ := hf
  have G4 : Hid (∀ W, Keep (fun _ => False) W7 W → IsTB 2 W (.slice A4 n4 c4) [((13, 1), 1)]) := Lib.hid fun W h => ⟨_, _, _, rfl, hr4.keep0 h, by omega⟩
  clear hr4 hn4
  have hf : (fun v W => IsTB 1 W v [((1, 0), 1)]) u11 W7 := kAllHas_at hF 0 rfl
  obtain ⟨A5, n5, c5, rfl, hr5, hn5⟩ := hf
  have G5 : Hid (∀ W, Keep (fun _ => False) W7 W → IsTB 2 W (.slice A5 n5 c5) [((1, 0), 1)]) := Lib.hid fun W h => ⟨_, _, _, rfl, hr5.keep0 h, by omega⟩
  clear hr5 hn5
  clear hF
  have hk_8 : Keep (fun _ => False) _ W7 := hW
  have K_9 := Lib.hid (keep0_trans _ _ _ K_6.out hk_8)
  clear hk_8 K_6
  clear hW
  have BS : Hid (Blk (W7.alloc (.cells #[.slice A0 n0 c0, .slice A1 n1 c1, .slice A2 n2 c2, .slice A3 n3 c3, .slice A4 n4 c4, .slice A5 n5 c5] 24)) W7.heap.size 24 #[.slice A0 n0 c0, .slice A1 n1 c1, .slice A2 n2 c2, .slice A3 n3 c3, .slice A4 n4 c4, .slice A5 n5 c5]) := Lib.hid (Blk.new _ _ _)
  have KS : Hid (Keep (fun _ => False) W7 (W7.alloc (.cells #[.slice A0 n0 c0, .slice A1 n1 c1, .slice A2 n2 c2, .slice A3 n3 c3, .slice A4 n4 c4, .slice A5 n5 c5] 24))) := Lib.hid ((Keep.refl _ _).alloc _)
  have HEl : Hid (∀ q, q < 6 → ∃ v l, (∀ W, Keep (fun _ => False) (W7.alloc (.cells #[.slice A0 n0 c0, .slice A1 n1 c1, .slice A2 n2 c2, .slice A3 n3 c3, .slice A4 n4 c4, .slice A5 n5 c5] 24)) W → W.cell? ⟨W7.heap.size, q, none⟩ = some v ∧ IsTB 2 W v l) ∧ upE l (1, 1) = 4 ∧ mayT l = false) := Lib.hid fun q hq => by
    rcases (by omega : q = 0 ∨ q = 1 ∨ q = 2 ∨ q = 3 ∨ q = 4 ∨ q = 5) with rfl | rfl | rfl | rfl | rfl | rfl
    · exact ⟨_, _, fun W h => ⟨h.cell (BS.out.cell 0) (fun h => h), G0.out W (keep0_trans _ _ _ KS.out h)⟩, by decide +kernel, by decide +kernel⟩
    · exact ⟨_, _, fun W h => ⟨h.cell (BS.out.cell 1) (fun h => h), G1.out W (keep0_trans _ _ _ KS.out h)⟩, by decide +kernel, by decide +kernel⟩
    · exact ⟨_, _, fun W h => ⟨h.cell (BS.out.cell 2) (fun h => h), G2.out W (keep0_trans _ _ _ KS.out h)⟩, by decide +kernel, by decide +kernel⟩
    · exact ⟨_, _, fun W h => ⟨h.cell (BS.out.cell 3) (fun h => h), G3.out W (keep0_trans _ _ _ KS.out h)⟩, by decide +kernel, by decide +kernel⟩
    · exact ⟨_, _, fun W h => ⟨h.cell (BS.out.cell 4) (fun h => h), G4.out W (keep0_trans _ _ _ KS.out h)⟩, by decide +kernel, by decide +kernel⟩
    · exact ⟨_, _, fun W h => ⟨h.cell (BS.out.cell 5) (fun h => h), G5.out W (keep0_trans _ _ _ KS.out h)⟩, by decide +kernel, by decide +kernel⟩
  clear G0 G1 G2 G3 G4 G5
  go_wp2_with fail
  go_loopw [84] (fun i wr => ∃ q : Nat, q ≤ 6 ∧ i = .int .i64 (q : Int) ∧ Hid (Keep (fun _ => False) (W7.alloc (.cells #[.slice A0 n0 c0, .slice A1 n1 c1, .slice A2 n2 c2, .slice A3 n3 c3, .slice A4 n4 c4, .slice A5 n5 c5] 24)) wr)) (fun i _ => 6 - (intOf i).toNat)
  case atStart => exact ⟨0, by omega, rfl, Lib.hid (Keep.refl _ _)⟩
  case round =>
    obtain ⟨q, hq, rfl, HKr⟩ := hrel
    by_cases hlt : q < 6
    · obtain ⟨v, l, hv, hu, hm⟩ := HEl.out q hlt
      have HV := Lib.hid hv
      have HU := Lib.hid hu
      have HM := Lib.hid hm
      have q0 := (hv _ HKr.out).1
      have q1 : (q : Int) < 6 := by omega
      have q2 : (0 : Int) ≤ (q : Int) := by omega
      have e2 : IntKind.i64.wrap (q : Int) = (q : Int) := IntWalk.i64_in _ (by omega)
      clear hv hu hm
      go_wp2_with fail
      refine (upI_is (1, 1) (HV.out _ HKr.out).2 (by decide)).mono ?_
      rintro e w8 ⟨u, rfl, _, hk8⟩
      rw [HU.out]
      have HK8 := Lib.hid (keep0_trans _ _ _ HKr.out hk8)
      clear hk8
      go_wp2_with fail
      refine (mayI_is false (HV.out _ HK8.out).2 (by decide) HM.out).mono ?_
      rintro e w9 ⟨rfl, hk9⟩
      have HK9 := Lib.hid (keep0_trans _ _ _ HK8.out hk9)
      clear hk9
      go_wp2
      go_roundw
      case rel => exact ⟨q + 1, by omega, by go_num, HK9⟩
      case measure => simp [intOf]; omega
    · obtain rfl : q = 6 := by omega
      have HKw := Lib.hid (keep0_trans _ _ _ KS.out HKr.out)
      clear HEl BS
      have hk_10 : Keep (fun _ => False) _ wr := HKw.out
      have K_11 := Lib.hid (keep0_trans _ _ _ K_9.out hk_10)
      clear hk_10 K_9
      clear HKw HKr KS
      obtain ⟨i0, hi, hz0, hz1, hz2⟩ := info_parts infoT'
      have HI := Lib.hid hi
      have HZ0 := Lib.hid hz0
      have HZ1 := Lib.hid hz1
      have HZ2 := Lib.hid hz2
      clear hi hz0 hz1 hz2
      go_wp2_with fail
      go_loopw [6, 5] (fun j v wx => ∃ (k : Nat) (row : Option Nat) (A2 : Option Addr) (c2 : Nat), k ≤ 64 ∧ j = .int .i64 ((k : Int) + 1) ∧ v = .slice A2 k c2 ∧ Hid (SlK wx 35 3 row A2 k c2 ((fullT k).flatMap cT)) ∧ Hid (∀ g, row = some g → wr.heap.size ≤ g) ∧ Hid (Keep (fun _ => False) wr wx)) (fun j _ _ => 65 - (intOf j).toNat)
      case atStart => exact ⟨0, none, none, 0, Nat.zero_le _, rfl, rfl, Lib.hid (SlK.nil_ _ _ _), Lib.hid (fun g hg => by cases hg), Lib.hid (Keep.refl _ _)⟩
      case round =>
        obtain ⟨k, row, A2, c2, hk, rfl, rfl, HS, HRw, HK⟩ := hrel
        have e2 : IntKind.i64.wrap ((k : Int) + 1) = (k : Int) + 1 := IntWalk.i64_in _ (by omega)
        have e3 : IntKind.i64.wrap ((k : Int) + 1 + 1) = (k : Int) + 1 + 1 := IntWalk.i64_in _ (by omega)
        by_cases hlt : k < 64
        · have q1 : (k : Int) + 1 ≤ 64 := by omega
          go_wp2_with (at_builtin; refine wpList_append_slK rfl _ _ _ rfl i0 _ 24 Try.underlying24 HI.out HZ0.out HZ1.out HZ2.out rfl (by omega) (HS.out.keep ((Keep.refl (fun _ => False) _).alloc _) (fun _ _ h => h)) rfl rfl (RdT.one_ (x := ((3, (k : Int) + 1), 1)) (Blk.new _ _ _)).2 (one_flatT _) (by unfold maxLen; omega) (by omega) ?_; intro row2 A3 c3 w3 hs2 hr2
                       obtain ⟨hk3, hw3⟩ := grew_new hr2 (HK.out.alloc _) HRw.out
                       have HS3 := Lib.hid hs2
                       have HK3 := Lib.hid hk3
                       have HR4 := Lib.hid hw3
                       clear hs2 hr2 hk3 hw3)
          go_roundw
          case rel => exact ⟨_, _, _, _, _, _, _, _, _, _, _, _, ⟨k + 1, row2, A3, c3, by omega, by go_num, rfl, Lib.hid (by rw [fullT_succ, List.flatMap_append]; exact HS3.out), HR4, HK3⟩, rfl⟩
          case measure => simp [intOf]; omega
        · obtain rfl : k = 64 := by omega
          have HF : Hid (∀ W, Keep (fun _ => False) wr W → IsTB 64 W (.slice A2 64 c2) (fullT 64)) := Lib.hid fun W h => ⟨A2, 64, c2, rfl, (HS.out.keep h (fun _ _ h => h)).tsl.1, by omega⟩
          go_wp2_with fail
          refine (upI_is (1, 1) (HF.out _ (Keep.refl _ _)) (by decide)).mono ?_
          rintro e wa ⟨u1, rfl, _, hka⟩
          rw [show upE (fullT 64) (1, 1) = 40 by decide +kernel]
          have Ka := Lib.hid hka
          clear hka
          go_wp2_with fail
          refine (upI_is (3, 64) (HF.out _ Ka.out) (by decide)).mono ?_
          rintro e wb ⟨u2, rfl, _, hkb⟩
          rw [show upE (fullT 64) (3, 64) = 0 by decide +kernel]
          have Kb := Lib.hid (keep0_trans _ _ _ Ka.out hkb)
          clear hkb Ka
          go_wp2_with fail
          refine (ofI_any (l := [((1, 1), 1099511627776)]) 1 ⟨_, 1, _, rfl, rfl, RdK.of_blk (Blk.new _ _ _) 3 1 rfl⟩ (by decide) (by decide)).mono ?_
          rintro e wc ⟨u3, rfl, hu3, hkc⟩
          have Kc := Lib.hid (keep0_trans _ _ _ (Kb.out.alloc _) hkc)
          have HU3 := Lib.hid hu3
          clear hkc Kb hu3
          go_wp2_with fail
          refine (upI_is (1, 1) HU3.out (by decide)).mono ?_
          rintro e wd ⟨u4, rfl, _, hkd⟩
          rw [show upE [((1, 1), 1099511627776)] (1, 1) = 40 by decide +kernel]
          have Kd := Lib.hid (keep0_trans _ _ _ Kc.out hkd)
          clear hkd Kc HU3
          go_wp2_with fail
          refine (upI_is (0, 0) (isTB_nil _) (by decide)).mono ?_
          rintro e we ⟨u5, rfl, _, hke⟩
          rw [show upE [] (0, 0) = 4 by decide +kernel]
          have Ke := Lib.hid (keep0_trans _ _ _ Kd.out hke)
          clear hke Kd
          have HSe := Lib.hid (HS.out.keep Ke.out (fun _ _ h => h))
          have HKe := Lib.hid (keep0_trans _ _ _ HK.out Ke.out)
          clear HS HF HK
          go_upto_region 22 with (at_builtin; refine wpList_append_slK rfl _ _ _ rfl i0 _ 24 Try.underlying24 HI.out HZ0.out HZ1.out HZ2.out rfl (by omega) (HSe.out.keep ((Keep.refl (fun _ => False) _).alloc _) (fun _ _ h => h)) rfl rfl (RdT.one_ (x := ((4, 1), 1)) (Blk.new _ _ _)).2 (one_flatT _) (by unfold maxLen; omega) (by omega) ?_; intro row2 A3 c3 w3 hs2 hr2
                                  have hfull := rd_behind (r := [((4, 1), 1)]) (HSe.out.keep ((Keep.refl (fun _ => False) _).alloc _) (fun _ _ h => h)) hs2 (by omega) hr2
                                  obtain ⟨hk3, hw3⟩ := grew_new hr2 (HKe.out.alloc _) HRw.out
                                  have HM := Lib.hid hs2
                                  have HK3 := Lib.hid hk3
                                  have HFu := Lib.hid hfull
                                  clear hs2 hr2 hk3 hw3 hfull)
          have KE := Lib.hid (keep0_trans _ _ _ K_11.out HK3.out)
          have Ff : Hid (∀ W, Keep (fun _ => False) w3 W → IsTB 64 W (.slice A2 64 c2) (fullT 64)) := Lib.hid fun W h => ⟨A2, 64, c2, rfl, HFu.out.keep0 h, by omega⟩
          have Fm : Hid (∀ W, Keep (fun _ => False) w3 W → IsTB 65 W (.slice A3 65 c3) (fullT 64 ++ [((4, 1), 1)])) := Lib.hid fun W h => ⟨A3, 65, c3, rfl, (SlK.tsl (l := fullT 64 ++ [((4, 1), 1)]) (by rw [List.flatMap_append]; exact HM.out.keep h (fun _ _ h => h))).1, by omega⟩
          clear HM HFu HK3 HSe HKe
          refine wp_region_kord (Keep (fun _ => False)) (Keep.refl _) keep0_trans 32 (Ts := [some (.inl (.bool true)), none, none, some (.inl (.bool true)), none, none, none, some (.inl (.bool false)), none, none, none, none, none, none, none, none, none, none, none, none, none, none, none, none, none, none, none, some (.inr (fun v W => IsIn W v [((1, 1), 1099511627776)])), some (.inr (fun v W => IsTB 1 W v [((1, 1), 1099511627776)])), some (.inl (.bool true)), none, none]) ?_
          simp only [List.take, List.drop]
          refine kAll_dn _ (fun W hW hF => kStep_of fun K Q hK => ?_) (fun K hK => ?_)
          · have h0 := isTB_nil W
            go_simp
            refine (mayI_is true h0 (by decide) (by decide +kernel)).mono ?_
            rintro e w' ⟨rfl, hk⟩
            exact hK _ _ hk rfl
          go_simp
          generalize hZ : (Act.mk _ _) = Z
          refine hK Z ?_
          subst hZ
          clear hK K
          refine kAll_p (fun K hK => ?_)
          go_simp
          generalize hZ : (Act.mk _ _) = Z
          refine hK Z ?_
          subst hZ
          clear hK K
          refine kAll_pw (by kernel_rfl) (fun K hK => ?_)
          go_simp
          generalize hZ : (Act.mk _ _) = Z
          refine hK Z ?_
          subst hZ
          clear hK K
          refine kAll_dn _ (fun W hW hF => kStep_w (by kernel_rfl) fun K Q hK => ?_) (fun K hK => ?_)
          · have h0 := Ff.out W (hW)
            go_simp
            refine (mayI_is true h0 (by decide) (by decide +kernel)).mono ?_
            rintro e w' ⟨rfl, hk⟩
            exact hK _ _ hk rfl
          go_simp
          generalize hZ : (Act.mk _ _) = Z
          refine hK Z ?_
          subst hZ
          clear hK K
          refine kAll_p (fun K hK => ?_)
          go_simp
          generalize hZ : (Act.mk _ _) = Z
          refine hK Z ?_
          subst hZ
          clear hK K
          refine kAll_p (fun K hK => ?_)
          go_simp
          generalize hZ : (Act.mk _ _) = Z
          refine hK Z ?_
          subst hZ
          clear hK K
          refine kAll_pw (by kernel_rfl) (fun K hK => ?_)
          go_simp
          generalize hZ : (Act.mk _ _) = Z
          refine hK Z ?_
          subst hZ
          clear hK K
          refine kAll_dn _ (fun W hW hF => kStep_w (by kernel_rfl) fun K Q hK => ?_) (fun K hK => ?_)
          · have h0 := Fm.out W (hW)
            go_simp
            refine (mayI_is false h0 (by decide) (by decide +kernel)).mono ?_
            rintro e w' ⟨rfl, hk⟩
            exact hK _ _ hk rfl
          go_simp
          generalize hZ : (Act.mk _ _) = Z
          refine hK Z ?_
          subst hZ
          clear hK K
          refine kAll_pw (by kernel_rfl) (fun K hK => ?_)
          go_simp
          generalize hZ : (Act.mk _ _) = Z
          refine hK Z ?_
          subst hZ
          clear hK K
          refine kAll_p (fun K hK => ?_)
          go_simp
          generalize hZ : (Act.mk _ _) = Z
          refine hK Z ?_
          subst hZ
          clear hK K
          refine kAll_p (fun K hK => ?_)
          go_simp
          generalize hZ : (Act.mk _ _) = Z
          refine hK Z ?_
          subst hZ
          clear hK K
          refine kAll_pw (by kernel_rfl) (fun K hK => ?_)
          go_simp
          generalize hZ : (Act.mk _ _) = Z
          refine hK Z ?_
          subst hZ
          clear hK K
          refine kAll_pw (by kernel_rfl) (fun K hK => ?_)
          go_simp
          generalize hZ : (Act.mk _ _) = Z
          refine hK Z ?_
          subst hZ
          clear hK K
          refine kAll_p (fun K hK => ?_)
          go_simp
          generalize hZ : (Act.mk _ _) = Z
          refine hK Z ?_
          subst hZ
          clear hK K
          refine kAll_p (fun K hK => ?_)
          go_simp
          generalize hZ : (Act.mk _ _) = Z
          refine hK Z ?_
          subst hZ
          clear hK K
          refine kAll_pw (by kernel_rfl) (fun K hK => ?_)
          go_simp
          generalize hZ : (Act.mk _ _) = Z
          refine hK Z ?_
          subst hZ
          clear hK K
          refine kAll_pw (by kernel_rfl) (fun K hK => ?_)
          go_simp
          generalize hZ : (Act.mk _ _) = Z
          refine hK Z ?_
          subst hZ
          clear hK K
          refine kAll_p (fun K hK => ?_)
          go_simp
          generalize hZ : (Act.mk _ _) = Z
          refine hK Z ?_
          subst hZ
          clear hK K
          refine kAll_p (fun K hK => ?_)
          go_simp
          generalize hZ : (Act.mk _ _) = Z
          refine hK Z ?_
          subst hZ
          clear hK K
          refine kAll_pw (by kernel_rfl) (fun K hK => ?_)
          go_simp
          generalize hZ : (Act.mk _ _) = Z
          refine hK Z ?_
          subst hZ
          clear hK K
          refine kAll_pw (by kernel_rfl) (fun K hK => ?_)
          go_simp
          generalize hZ : (Act.mk _ _) = Z
          refine hK Z ?_
          subst hZ
          clear hK K
          refine kAll_p (fun K hK => ?_)
          go_simp
          generalize hZ : (Act.mk _ _) = Z
          refine hK Z ?_
          subst hZ
          clear hK K
          refine kAll_p (fun K hK => ?_)
          go_simp
          generalize hZ : (Act.mk _ _) = Z
          refine hK Z ?_
          subst hZ
          clear hK K
          refine kAll_pw (by kernel_rfl) (fun K hK => ?_)
          go_simp
          generalize hZ : (Act.mk _ _) = Z
          refine hK Z ?_
          subst hZ
          clear hK K
          refine kAll_pw (by kernel_rfl) (fun K hK => ?_)
          go_simp
          generalize hZ : (Act.mk _ _) = Z
          refine hK Z ?_
          subst hZ
          clear hK K
          refine kAll_p (fun K hK => ?_)
          go_simp
          generalize hZ : (Act.mk _ _) = Z
          refine hK Z ?_
          subst hZ
          clear hK K
          refine kAll_p (fun K hK => ?_)
          go_simp
          generalize hZ : (Act.mk _ _) = Z
          refine hK Z ?_
          subst hZ
          clear hK K
          refine kAll_tn _ (fun v W W' hk h => h.keep0 hk) (fun W hW hF => kStep_w (by kernel_rfl) fun K Q hK => ?_) (fun u0 K hK => ?_)
          · go_simp
            exact hK _ _ ((Keep.refl _ _).alloc _) ⟨_, 1, _, rfl, rfl, RdK.of_blk (Blk.new _ _ _) 3 1 rfl⟩
          go_simp
          generalize hZ : (Act.mk _ _) = Z
          refine hK Z ?_
          subst hZ
          clear hK K
          refine kAll_tn _ (fun v W W' hk h => h.keep0 hk) (fun W hW hF => kStep_w (by kernel_rfl) fun K Q hK => ?_) (fun u1 K hK => ?_)
          · have h0 : (fun v W => IsIn W v [((1, 1), 1099511627776)]) u0 W := kHas_at hF 0 rfl (by kernel_rfl)
            go_simp
            refine (ofI_any 1 h0 (by decide) (by decide)).mono ?_
            rintro e w' ⟨u, rfl, hu, hk⟩
            exact hK _ _ hk hu
          go_simp
          generalize hZ : (Act.mk _ _) = Z
          refine hK Z ?_
          subst hZ
          clear hK K
          refine kAll_dn _ (fun W hW hF => kStep_w (by kernel_rfl) fun K Q hK => ?_) (fun K hK => ?_)
          · have h0 : (fun v W => IsTB 1 W v [((1, 1), 1099511627776)]) u1 W := kHas_at hF 0 rfl (by kernel_rfl)
            go_simp
            refine (mayI_is true h0 (by decide) (by decide +kernel)).mono ?_
            rintro e w' ⟨rfl, hk⟩
            exact hK _ _ hk rfl
          go_simp
          generalize hZ : (Act.mk _ _) = Z
          refine hK Z ?_
          subst hZ
          clear hK K
          refine kAll_p (fun K hK => ?_)
          go_simp
          generalize hZ : (Act.mk _ _) = Z
          refine hK Z ?_
          subst hZ
          clear hK K
          refine kAll_p (fun K hK => ?_)
          go_simp
          generalize hZ : (Act.mk _ _) = Z
          refine hK Z ?_
          subst hZ
          clear hK K
          refine kAll_nil (fun W12 hW hF => ?_)
          clear hF
          have hk_13 : Keep (fun _ => False) _ W12 := hW
          have F_14 := Lib.hid (fun W h => Ff.out W (keep0_trans _ _ _ hk_13 h))
          have F_15 := Lib.hid (fun W h => Fm.out W (keep0_trans _ _ _ hk_13 h))
          have K_16 := Lib.hid (keep0_trans _ _ _ KE.out hk_13)
          clear hk_13 Ff Fm KE
          clear hW
          go_wp2
          go_ret
          exact ⟨rfl, K_16.out⟩
theorem walkClockNames (w : World) : Calls Try.prog 3 #[] w fun e w' => e = .returned (.bool true) ∧ Below w.heap.size w w' := (names_tell w).mono fun _ _ ⟨h, k⟩ => ⟨h, k.b⟩
end Go.Proofs.Ytljmpjkfdkcjnaa
