/-
  The statement ClockStands. Written by gen_stands.py.
-/
import Derived.Test.YtljmpjkfdkcjnaaCloK
import Derived.Test.YtljmpjkfdkcjnaaKord
namespace Go.Proofs.Ytljmpjkfdkcjnaa
open Go.RowKit
attribute [local irreducible] kAll
attribute [local go_sem] kQuiet kQuietUpon

theorem big_or (l : List Nat) : l.any (fun x => decide (150 < x)) = true ∨ (l.any (fun x => decide (150 < x)) = false ∧ ∀ x ∈ l, x ≤ 150) := by
  cases h : l.any (fun x => decide (150 < x))
  · rw [List.any_eq_false] at h
    exact .inr ⟨rfl, fun x hx => by have := h x hx; simp at this; exact this⟩
  · exact .inl rfl
set_option maxRecDepth 100000 in
set_option maxHeartbeats 4000000 in
theorem stands_big (A0 A1 A2 : Option Addr) (n0 n1 n2 c0 c1 c2 : Nat) (w : World) (HBig : Hid ([n0, n1, n2].any (fun x => decide (150 < x)) = true)) :
    Calls Try.prog 6 #[.slice A0 n0 c0, .slice A1 n1 c1, .slice A2 n2 c2] w (Tell (.bool true) w) := by
  have K0 := Lib.hid (Keep.refl (fun _ => False) w)
  go_enter Try.func6, Try.ntmps6
  go_upto_region 1 with (fail)
  refine wp_region_kord (Keep (fun _ => False)) (Keep.refl _) keep0_trans 9 (Ts := [some (.inl (.bool true)), none, none, none, none, none, some (.inr (fun v W => IsLg W v [n0, n1, n2])), some (.inl (.bool true)), none]) ?_
  simp only [List.take, List.drop]
  refine kAll_dn _ (fun W hW hF => kStep_of fun K Q hK => ?_) (fun K hK => ?_)
  · go_simp
    refine (works_any W).mono ?_
    rintro e w' ⟨rfl, hk⟩
    exact hK _ _ hk rfl
  go_simp
  generalize hZ : (Act.mk _ _) = Z
  refine hK Z ?_
  subst hZ
  clear hK K
  refine kAll_p (fun K hK => ?_)
  go_simp
  generalize hZ : (Act.mk _ _) = Z
  refine hK Z ?_
  subst hZ
  clear hK K
  refine kAll_p (fun K hK => ?_)
  go_simp
  generalize hZ : (Act.mk _ _) = Z
  refine hK Z ?_
  subst hZ
  clear hK K
  refine kAll_pw (by kernel_rfl) (fun K hK => ?_)
  go_simp
  generalize hZ : (Act.mk _ _) = Z
  refine hK Z ?_
  subst hZ
  clear hK K
  refine kAll_pw (by kernel_rfl) (fun K hK => ?_)
  go_simp
  generalize hZ : (Act.mk _ _) = Z
  refine hK Z ?_
  subst hZ
  clear hK K
  refine kAll_pw (by kernel_rfl) (fun K hK => ?_)
  go_simp
  generalize hZ : (Act.mk _ _) = Z
  refine hK Z ?_
  subst hZ
  clear hK K
  refine kAll_tn _ (fun v W W' hk h => h.keep0 hk) (fun W hW hF => kStep_w (by kernel_rfl) fun K Q hK => ?_) (fun u0 K hK => ?_)
  · go_simp
    exact hK _ _ ((Keep.refl _ _).alloc _) ⟨_, _, _, [(A0, n0, c0), (A1, n1, c1), (A2, n2, c2)], rfl, rfl, rfl, RdK.of_blk (Blk.new _ _ _) 3 1 rfl⟩
  go_simp
  generalize hZ : (Act.mk _ _) = Z
  refine hK Z ?_
  subst hZ
  clear hK K
  refine kAll_dn _ (fun W hW hF => kStep_w (by kernel_rfl) fun K Q hK => ?_) (fun K hK => ?_)
  · have h0 : (fun v W => IsLg W v [n0, n1, n2]) u0 W := kHas_at hF 0 rfl (by kernel_rfl)
    go_simp
    refine (large_is true h0 (by simp) HBig.out).mono ?_
    rintro e w' ⟨rfl, hk⟩
    exact hK _ _ hk rfl
  go_simp
  generalize hZ : (Act.mk _ _) = Z
  refine hK Z ?_
  subst hZ
  clear hK K
  refine kAll_p (fun K hK => ?_)
  go_simp
  generalize hZ : (Act.mk _ _) = Z
  refine hK Z ?_
  subst hZ
  clear hK K
  refine kAll_nil (fun W1 hW hF => ?_)
  clear hF
  have hk_2 : Keep (fun _ => False) _ W1 := hW
  have K_3 := Lib.hid (keep0_trans _ _ _ K0.out hk_2)
  clear hk_2 K0
  clear hW
  go_wp2_with fail
  refine (works_any _).mono ?_
  rintro e w2 ⟨rfl, hk⟩
  have KZ := Lib.hid (keep0_trans _ _ _ K_3.out hk)
  clear hk
  go_wp2
  go_ret
  exact ⟨rfl, KZ.out⟩
set_option maxRecDepth 100000 in
set_option maxHeartbeats 4000000 in
theorem stands_1 (A0 A1 A2 : Option Addr) (n0 n1 n2 c0 c1 c2 : Nat) (l0 l1 l2 : List Tick) (w : World) (HBig : Hid ([n0, n1, n2].any (fun x => decide (150 < x)) = false)) (F0 : Hid (∀ W, Keep (fun _ => False) w W → IsTB 150 W (.slice A0 n0 c0) l0)) (F1 : Hid (∀ W, Keep (fun _ => False) w W → IsTB 150 W (.slice A1 n1 c1) l1)) (F2 : Hid (∀ W, Keep (fun _ => False) w W → IsTB 150 W (.slice A2 n2 c2) l2))
    (HX : Hid (cmpM l0 l1 = 1)) (HY : Hid (cmpM l1 l0 = 1)) (HAA : Hid (cmpM l0 l0 = 1)) (HJ : Hid (cmpM (joinM l0 l1) l1 = 1))  :
    Calls Try.prog 6 #[.slice A0 n0 c0, .slice A1 n1 c1, .slice A2 n2 c2] w (Tell (.bool true) w) := by
  have K0 := Lib.hid (Keep.refl (fun _ => False) w)
  go_enter Try.func6, Try.ntmps6
  go_upto_region 1 with (fail)
  refine wp_region_kord (Keep (fun _ => False)) (Keep.refl _) keep0_trans 9 (Ts := [some (.inl (.bool true)), none, none, none, none, none, some (.inr (fun v W => IsLg W v [n0, n1, n2])), some (.inl (.bool false)), none]) ?_
  simp only [List.take, List.drop]
  refine kAll_dn _ (fun W hW hF => kStep_of fun K Q hK => ?_) (fun K hK => ?_)
  · go_simp
    refine (works_any W).mono ?_
    rintro e w' ⟨rfl, hk⟩
    exact hK _ _ hk rfl
  go_simp
  generalize hZ : (Act.mk _ _) = Z
  refine hK Z ?_
  subst hZ
  clear hK K
  refine kAll_p (fun K hK => ?_)
  go_simp
  generalize hZ : (Act.mk _ _) = Z
  refine hK Z ?_
  subst hZ
  clear hK K
  refine kAll_p (fun K hK => ?_)
  go_simp
  generalize hZ : (Act.mk _ _) = Z
  refine hK Z ?_
  subst hZ
  clear hK K
  refine kAll_pw (by kernel_rfl) (fun K hK => ?_)
  go_simp
  generalize hZ : (Act.mk _ _) = Z
  refine hK Z ?_
  subst hZ
  clear hK K
  refine kAll_pw (by kernel_rfl) (fun K hK => ?_)
  go_simp
  generalize hZ : (Act.mk _ _) = Z
  refine hK Z ?_
  subst hZ
  clear hK K
  refine kAll_pw (by kernel_rfl) (fun K hK => ?_)
  go_simp
  generalize hZ : (Act.mk _ _) = Z
  refine hK Z ?_
  subst hZ
  clear hK K
  refine kAll_tn _ (fun v W W' hk h => h.keep0 hk) (fun W hW hF => kStep_w (by kernel_rfl) fun K Q hK => ?_) (fun u0 K hK => ?_)
  · go_simp
    exact hK _ _ ((Keep.refl _ _).alloc _) ⟨_, _, _, [(A0, n0, c0), (A1, n1, c1), (A2, n2, c2)], rfl, rfl, rfl, RdK.of_blk (Blk.new _ _ _) 3 1 rfl⟩
  go_simp
  generalize hZ : (Act.mk _ _) = Z
  refine hK Z ?_
  subst hZ
  clear hK K
  refine kAll_dn _ (fun W hW hF => kStep_w (by kernel_rfl) fun K Q hK => ?_) (fun K hK => ?_)
  · have h0 : (fun v W => IsLg W v [n0, n1, n2]) u0 W := kHas_at hF 0 rfl (by kernel_rfl)
    go_simp
    refine (large_is false h0 (by simp) HBig.out).mono ?_
    rintro e w' ⟨rfl, hk⟩
    exact hK _ _ hk rfl
  go_simp
  generalize hZ : (Act.mk _ _) = Z
  refine hK Z ?_
  subst hZ
  clear hK K
  refine kAll_p (fun K hK => ?_)
  go_simp
  generalize hZ : (Act.mk _ _) = Z
  refine hK Z ?_
  subst hZ
  clear hK K
  refine kAll_nil (fun W1 hW hF => ?_)
  clear hF
  have hk_2 : Keep (fun _ => False) _ W1 := hW
  have F_3 := Lib.hid (fun W h => F0.out W (keep0_trans _ _ _ hk_2 h))
  have F_4 := Lib.hid (fun W h => F1.out W (keep0_trans _ _ _ hk_2 h))
  have F_5 := Lib.hid (fun W h => F2.out W (keep0_trans _ _ _ hk_2 h))
  have K_6 := Lib.hid (keep0_trans _ _ _ K0.out hk_2)
  clear hk_2 F0 F1 F2 K0
  clear hW
  go_upto_region 3 with (fail)
  refine wp_region_kord (Keep (fun _ => False)) (Keep.refl _) keep0_trans 4 (Ts := [none, none, some (.inl (.int .u8 1)), none]) ?_
  simp only [List.take, List.drop]
  refine kAll_p (fun K hK => ?_)
  go_simp
  generalize hZ : (Act.mk _ _) = Z
  refine hK Z ?_
  subst hZ
  clear hK K
  refine kAll_p (fun K hK => ?_)
  go_simp
  generalize hZ : (Act.mk _ _) = Z
  refine hK Z ?_
  subst hZ
  clear hK K
  refine kAll_dn _ (fun W hW hF => kStep_of fun K Q hK => ?_) (fun K hK => ?_)
  · have h0 := F_3.out W (hW)
    have h1 := F_4.out W (hW)
    go_simp
    refine (cmpI_is 1 h0 h1 (by decide) HX.out).mono ?_
    rintro e w' ⟨rfl, hk⟩
    exact hK _ _ hk rfl
  go_simp
  generalize hZ : (Act.mk _ _) = Z
  refine hK Z ?_
  subst hZ
  clear hK K
  refine kAll_p (fun K hK => ?_)
  go_simp
  generalize hZ : (Act.mk _ _) = Z
  refine hK Z ?_
  subst hZ
  clear hK K
  refine kAll_nil (fun W7 hW hF => ?_)
  clear hF
  have hk_8 : Keep (fun _ => False) _ W7 := hW
  have F_9 := Lib.hid (fun W h => F_3.out W (keep0_trans _ _ _ hk_8 h))
  have F_10 := Lib.hid (fun W h => F_4.out W (keep0_trans _ _ _ hk_8 h))
  have F_11 := Lib.hid (fun W h => F_5.out W (keep0_trans _ _ _ hk_8 h))
  have K_12 := Lib.hid (keep0_trans _ _ _ K_6.out hk_8)
  clear hk_8 F_3 F_4 F_5 K_6
  clear hW
  go_upto_region 4 with (fail)
  refine wp_region_kord (Keep (fun _ => False)) (Keep.refl _) keep0_trans 4 (Ts := [none, none, some (.inl (.int .u8 1)), none]) ?_
  simp only [List.take, List.drop]
  refine kAll_p (fun K hK => ?_)
  go_simp
  generalize hZ : (Act.mk _ _) = Z
  refine hK Z ?_
  subst hZ
  clear hK K
  refine kAll_p (fun K hK => ?_)
  go_simp
  generalize hZ : (Act.mk _ _) = Z
  refine hK Z ?_
  subst hZ
  clear hK K
  refine kAll_dn _ (fun W hW hF => kStep_of fun K Q hK => ?_) (fun K hK => ?_)
  · have h0 := F_10.out W (hW)
    have h1 := F_9.out W (hW)
    go_simp
    refine (cmpI_is 1 h0 h1 (by decide) HY.out).mono ?_
    rintro e w' ⟨rfl, hk⟩
    exact hK _ _ hk rfl
  go_simp
  generalize hZ : (Act.mk _ _) = Z
  refine hK Z ?_
  subst hZ
  clear hK K
  refine kAll_p (fun K hK => ?_)
  go_simp
  generalize hZ : (Act.mk _ _) = Z
  refine hK Z ?_
  subst hZ
  clear hK K
  refine kAll_nil (fun W13 hW hF => ?_)
  clear hF
  have hk_14 : Keep (fun _ => False) _ W13 := hW
  have F_15 := Lib.hid (fun W h => F_9.out W (keep0_trans _ _ _ hk_14 h))
  have F_16 := Lib.hid (fun W h => F_10.out W (keep0_trans _ _ _ hk_14 h))
  have F_17 := Lib.hid (fun W h => F_11.out W (keep0_trans _ _ _ hk_14 h))
  have K_18 := Lib.hid (keep0_trans _ _ _ K_12.out hk_14)
  clear hk_14 F_9 F_10 F_11 K_12
  clear hW
  go_upto_region 5 with (fail)
  refine wp_region_kord (Keep (fun _ => False)) (Keep.refl _) keep0_trans 2 (Ts := [some (.inr (fun v W => ∃ g, v = .slice (some ⟨g, 0, none⟩) 5 5 ∧ Blk W g 5 #[.int .u8 0, .int .u8 1, .int .u8 3, .int .u8 2, .int .u8 4])), none]) ?_
  simp only [List.take, List.drop]
  refine kAll_tn _ (fun v W W' (hk : Keep (fun _ => False) W W') ⟨g, e, hb⟩ => ⟨g, e, Blk.keep hb hk (fun h => h)⟩) (fun W hW hF => kStep_of fun K Q hK => ?_) (fun u0 K hK => ?_)
  · go_simp
    exact hK _ _ ((Keep.refl _ _).alloc _) ⟨_, rfl, Blk.new _ _ _⟩
  go_simp
  generalize hZ : (Act.mk _ _) = Z
  refine hK Z ?_
  subst hZ
  clear hK K
  refine kAll_p (fun K hK => ?_)
  go_simp
  generalize hZ : (Act.mk _ _) = Z
  refine hK Z ?_
  subst hZ
  clear hK K
  refine kAll_nil (fun W19 hW hF => ?_)
  have ht : (fun v W => ∃ g, v = .slice (some ⟨g, 0, none⟩) 5 5 ∧ Blk W g 5 #[.int .u8 0, .int .u8 1, .int .u8 3, .int .u8 2, .int .u8 4]) u0 W19 := kAllHas_at hF 0 rfl
  obtain ⟨g, rfl, hg⟩ := ht
  have HT := Lib.hid hg
  clear hg
  clear hF
  have hk_20 : Keep (fun _ => False) _ W19 := hW
  have F_21 := Lib.hid (fun W h => F_15.out W (keep0_trans _ _ _ hk_20 h))
  have F_22 := Lib.hid (fun W h => F_16.out W (keep0_trans _ _ _ hk_20 h))
  have F_23 := Lib.hid (fun W h => F_17.out W (keep0_trans _ _ _ hk_20 h))
  have K_24 := Lib.hid (keep0_trans _ _ _ K_18.out hk_20)
  clear hk_20 F_15 F_16 F_17 K_18
  clear hW
  go_upto_region 6 with (fail)
  refine wp_region_kord (Keep (fun _ => False)) (Keep.refl _) keep0_trans 20 (Ts := [none, none, none, none, none, none, none, none, none, none, none, some (.inl (.int .u8 1)), none, none, none, none, none, some (.inl (.int .u8 1)), none, none]) ?_
  simp only [List.take, List.drop]
  refine kAll_p (fun K hK => ?_)
  go_simp
  generalize hZ : (Act.mk _ _) = Z
  refine hK Z ?_
  subst hZ
  clear hK K
  refine kAll_p (fun K hK => ?_)
  go_simp
  generalize hZ : (Act.mk _ _) = Z
  refine hK Z ?_
  subst hZ
  clear hK K
  refine kAll_p (fun K hK => ?_)
  go_simp
  generalize hZ : (Act.mk _ _) = Z
  refine hK Z ?_
  subst hZ
  clear hK K
  refine kAll_pw (by kernel_rfl) (fun K hK => ?_)
  go_simp
  generalize hZ : (Act.mk _ _) = Z
  refine hK Z ?_
  subst hZ
  clear hK K
  refine kAll_pw (by kernel_rfl) (fun K hK => ?_)
  go_simp
  generalize hZ : (Act.mk _ _) = Z
  refine hK Z ?_
  subst hZ
  clear hK K
  refine kAll_p (fun K hK => ?_)
  go_simp
  generalize hZ : (Act.mk _ _) = Z
  refine hK Z ?_
  subst hZ
  clear hK K
  refine kAll_p (fun K hK => ?_)
  go_simp
  generalize hZ : (Act.mk _ _) = Z
  refine hK Z ?_
  subst hZ
  clear hK K
  refine kAll_pw (by kernel_rfl) (fun K hK => ?_)
  go_simp
  generalize hZ : (Act.mk _ _) = Z
  refine hK Z ?_
  subst hZ
  clear hK K
  refine kAll_pw (by kernel_rfl) (fun K hK => ?_)
  go_simp
  generalize hZ : (Act.mk _ _) = Z
  refine hK Z ?_
  subst hZ
  clear hK K
  refine kAll_pw (by kernel_rfl) (fun K hK => ?_)
  go_simp
  generalize hZ : (Act.mk _ _) = Z
  refine hK Z ?_
  subst hZ
  clear hK K
  refine kAll_pw (by kernel_rfl) (fun K hK => ?_)
  go_simp
  generalize hZ : (Act.mk _ _) = Z
  refine hK Z ?_
  subst hZ
  clear hK K
  refine kAll_dn _ (fun W hW hF => kStep_w (by kernel_rfl) fun K Q hK => ?_) (fun K hK => ?_)
  · have e0 := (HT.out.keep hW (fun h => h)).cell 0
    have e1 := (HT.out.keep hW (fun h => h)).cell 1
    have e2 := (HT.out.keep hW (fun h => h)).cell 2
    have e3 := (HT.out.keep hW (fun h => h)).cell 3
    have e4 := (HT.out.keep hW (fun h => h)).cell 4
    simp at e0 e1 e2 e3 e4
    go_simp
    exact hK _ _ (Keep.refl _ _) rfl
  go_simp
  generalize hZ : (Act.mk _ _) = Z
  refine hK Z ?_
  subst hZ
  clear hK K
  refine kAll_pw (by kernel_rfl) (fun K hK => ?_)
  go_simp
  generalize hZ : (Act.mk _ _) = Z
  refine hK Z ?_
  subst hZ
  clear hK K
  refine kAll_p (fun K hK => ?_)
  go_simp
  generalize hZ : (Act.mk _ _) = Z
  refine hK Z ?_
  subst hZ
  clear hK K
  refine kAll_p (fun K hK => ?_)
  go_simp
  generalize hZ : (Act.mk _ _) = Z
  refine hK Z ?_
  subst hZ
  clear hK K
  refine kAll_pw (by kernel_rfl) (fun K hK => ?_)
  go_simp
  generalize hZ : (Act.mk _ _) = Z
  refine hK Z ?_
  subst hZ
  clear hK K
  refine kAll_pw (by kernel_rfl) (fun K hK => ?_)
  go_simp
  generalize hZ : (Act.mk _ _) = Z
  refine hK Z ?_
  subst hZ
  clear hK K
  refine kAll_dn _ (fun W hW hF => kStep_w (by kernel_rfl) fun K Q hK => ?_) (fun K hK => ?_)
  · have h0 := F_21.out W (hW)
    have h1 := F_21.out W (hW)
    go_simp
    refine (cmpI_is 1 h0 h1 (by decide) HAA.out).mono ?_
    rintro e w' ⟨rfl, hk⟩
    exact hK _ _ hk rfl
  go_simp
  generalize hZ : (Act.mk _ _) = Z
  refine hK Z ?_
  subst hZ
  clear hK K
  refine kAll_pw (by kernel_rfl) (fun K hK => ?_)
  go_simp
  generalize hZ : (Act.mk _ _) = Z
  refine hK Z ?_
  subst hZ
  clear hK K
  refine kAll_p (fun K hK => ?_)
  go_simp
  generalize hZ : (Act.mk _ _) = Z
  refine hK Z ?_
  subst hZ
  clear hK K
  refine kAll_nil (fun W25 hW hF => ?_)
  clear hF
  have hk_26 : Keep (fun _ => False) _ W25 := hW
  have B_27 := Lib.hid (HT.out.keep hk_26 (fun h => h))
  have F_28 := Lib.hid (fun W h => F_21.out W (keep0_trans _ _ _ hk_26 h))
  have F_29 := Lib.hid (fun W h => F_22.out W (keep0_trans _ _ _ hk_26 h))
  have F_30 := Lib.hid (fun W h => F_23.out W (keep0_trans _ _ _ hk_26 h))
  have K_31 := Lib.hid (keep0_trans _ _ _ K_24.out hk_26)
  clear hk_26 HT F_21 F_22 F_23 K_24
  clear hW
  go_upto_region 8 with (fail)
  refine wp_region_kord (Keep (fun _ => False)) (Keep.refl _) keep0_trans 14 (Ts := [none, none, none, none, none, none, none, none, none, none, none, none, none, none]) ?_
  simp only [List.take, List.drop]
  refine kAll_p (fun K hK => ?_)
  go_simp
  generalize hZ : (Act.mk _ _) = Z
  refine hK Z ?_
  subst hZ
  clear hK K
  refine kAll_p (fun K hK => ?_)
  go_simp
  generalize hZ : (Act.mk _ _) = Z
  refine hK Z ?_
  subst hZ
  clear hK K
  refine kAll_p (fun K hK => ?_)
  go_simp
  generalize hZ : (Act.mk _ _) = Z
  refine hK Z ?_
  subst hZ
  clear hK K
  refine kAll_skip (by kernel_rfl) ?_
  refine kAll_skip (by kernel_rfl) ?_
  refine kAll_skip (by kernel_rfl) ?_
  refine kAll_skip (by kernel_rfl) ?_
  refine kAll_p (fun K hK => ?_)
  go_simp
  generalize hZ : (Act.mk _ _) = Z
  refine hK Z ?_
  subst hZ
  clear hK K
  refine kAll_p (fun K hK => ?_)
  go_simp
  generalize hZ : (Act.mk _ _) = Z
  refine hK Z ?_
  subst hZ
  clear hK K
  refine kAll_skip (by kernel_rfl) ?_
  refine kAll_skip (by kernel_rfl) ?_
  refine kAll_skip (by kernel_rfl) ?_
  refine kAll_skip (by kernel_rfl) ?_
  refine kAll_p (fun K hK => ?_)
  go_simp
  generalize hZ : (Act.mk _ _) = Z
  refine hK Z ?_
  subst hZ
  clear hK K
  refine kAll_nil (fun W32 hW hF => ?_)
  clear hF
  have hk_33 : Keep (fun _ => False) _ W32 := hW
  have F_34 := Lib.hid (fun W h => F_28.out W (keep0_trans _ _ _ hk_33 h))
  have F_35 := Lib.hid (fun W h => F_29.out W (keep0_trans _ _ _ hk_33 h))
  have F_36 := Lib.hid (fun W h => F_30.out W (keep0_trans _ _ _ hk_33 h))
  have K_37 := Lib.hid (keep0_trans _ _ _ K_31.out hk_33)
  clear hk_33 F_28 F_29 F_30 K_31
  clear hW
  go_upto_region 10 with (fail)
  refine wp_region_kord (Keep (fun _ => False)) (Keep.refl _) keep0_trans 6 (Ts := [none, none, some (.inr (fun v W => IsTB 300 W v (joinM l0 l1))), none, some (.inl (.int .u8 1)), none]) ?_
  simp only [List.take, List.drop]
  refine kAll_p (fun K hK => ?_)
  go_simp
  generalize hZ : (Act.mk _ _) = Z
  refine hK Z ?_
  subst hZ
  clear hK K
  refine kAll_p (fun K hK => ?_)
  go_simp
  generalize hZ : (Act.mk _ _) = Z
  refine hK Z ?_
  subst hZ
  clear hK K
  refine kAll_tn _ (fun v W W' hk h => h.keep0 hk) (fun W hW hF => kStep_of fun K Q hK => ?_) (fun u0 K hK => ?_)
  · have h0 := F_34.out W (hW)
    have h1 := F_35.out W (hW)
    go_simp
    refine (joinI_any h0 h1 (by decide)).mono ?_
    rintro e w' ⟨u, rfl, hu, hk⟩
    exact hK _ _ hk hu
  go_simp
  generalize hZ : (Act.mk _ _) = Z
  refine hK Z ?_
  subst hZ
  clear hK K
  refine kAll_p (fun K hK => ?_)
  go_simp
  generalize hZ : (Act.mk _ _) = Z
  refine hK Z ?_
  subst hZ
  clear hK K
  refine kAll_dn _ (fun W hW hF => kStep_of fun K Q hK => ?_) (fun K hK => ?_)
  · have h0 : (fun v W => IsTB 300 W v (joinM l0 l1)) u0 W := kHas_at hF 0 rfl (by kernel_rfl)
    have h1 := F_35.out W (hW)
    go_simp
    refine (cmpI_is 1 h0 h1 (by decide) HJ.out).mono ?_
    rintro e w' ⟨rfl, hk⟩
    exact hK _ _ hk rfl
  go_simp
  generalize hZ : (Act.mk _ _) = Z
  refine hK Z ?_
  subst hZ
  clear hK K
  refine kAll_p (fun K hK => ?_)
  go_simp
  generalize hZ : (Act.mk _ _) = Z
  refine hK Z ?_
  subst hZ
  clear hK K
  refine kAll_nil (fun W38 hW hF => ?_)
  clear hF
  have hk_39 : Keep (fun _ => False) _ W38 := hW
  have F_40 := Lib.hid (fun W h => F_34.out W (keep0_trans _ _ _ hk_39 h))
  have F_41 := Lib.hid (fun W h => F_35.out W (keep0_trans _ _ _ hk_39 h))
  have F_42 := Lib.hid (fun W h => F_36.out W (keep0_trans _ _ _ hk_39 h))
  have K_43 := Lib.hid (keep0_trans _ _ _ K_37.out hk_39)
  clear hk_39 F_34 F_35 F_36 K_37
  clear hW
  go_upto_region 11 with (fail)
  refine wp_region_kord (Keep (fun _ => False)) (Keep.refl _) keep0_trans 26 (Ts := [none, none, none, none, none, none, none, none, none, none, none, none, none, none, none, none, none, none, none, none, none, none, none, none, none, none]) ?_
  simp only [List.take, List.drop]
  refine kAll_p (fun K hK => ?_)
  go_simp
  generalize hZ : (Act.mk _ _) = Z
  refine hK Z ?_
  subst hZ
  clear hK K
  refine kAll_p (fun K hK => ?_)
  go_simp
  generalize hZ : (Act.mk _ _) = Z
  refine hK Z ?_
  subst hZ
  clear hK K
  refine kAll_p (fun K hK => ?_)
  go_simp
  generalize hZ : (Act.mk _ _) = Z
  refine hK Z ?_
  subst hZ
  clear hK K
  refine kAll_pw (by kernel_rfl) (fun K hK => ?_)
  go_simp
  generalize hZ : (Act.mk _ _) = Z
  refine hK Z ?_
  subst hZ
  clear hK K
  refine kAll_pw (by kernel_rfl) (fun K hK => ?_)
  go_simp
  generalize hZ : (Act.mk _ _) = Z
  refine hK Z ?_
  subst hZ
  clear hK K
  refine kAll_p (fun K hK => ?_)
  go_simp
  generalize hZ : (Act.mk _ _) = Z
  refine hK Z ?_
  subst hZ
  clear hK K
  refine kAll_p (fun K hK => ?_)
  go_simp
  generalize hZ : (Act.mk _ _) = Z
  refine hK Z ?_
  subst hZ
  clear hK K
  refine kAll_p (fun K hK => ?_)
  go_simp
  generalize hZ : (Act.mk _ _) = Z
  refine hK Z ?_
  subst hZ
  clear hK K
  refine kAll_p (fun K hK => ?_)
  go_simp
  generalize hZ : (Act.mk _ _) = Z
  refine hK Z ?_
  subst hZ
  clear hK K
  refine kAll_p (fun K hK => ?_)
  go_simp
  generalize hZ : (Act.mk _ _) = Z
  refine hK Z ?_
  subst hZ
  clear hK K
  refine kAll_pw (by kernel_rfl) (fun K hK => ?_)
  go_simp
  generalize hZ : (Act.mk _ _) = Z
  refine hK Z ?_
  subst hZ
  clear hK K
  refine kAll_pw (by kernel_rfl) (fun K hK => ?_)
  go_simp
  generalize hZ : (Act.mk _ _) = Z
  refine hK Z ?_
  subst hZ
  clear hK K
  refine kAll_pw (by kernel_rfl) (fun K hK => ?_)
  go_simp
  generalize hZ : (Act.mk _ _) = Z
  refine hK Z ?_
  subst hZ
  clear hK K
  refine kAll_skip (by kernel_rfl) ?_
  refine kAll_skip (by kernel_rfl) ?_
  refine kAll_skip (by kernel_rfl) ?_
  refine kAll_pw (by kernel_rfl) (fun K hK => ?_)
  go_simp
  generalize hZ : (Act.mk _ _) = Z
  refine hK Z ?_
  subst hZ
  clear hK K
  refine kAll_pw (by kernel_rfl) (fun K hK => ?_)
  go_simp
  generalize hZ : (Act.mk _ _) = Z
  refine hK Z ?_
  subst hZ
  clear hK K
  refine kAll_skip (by kernel_rfl) ?_
  refine kAll_skip (by kernel_rfl) ?_
  refine kAll_skip (by kernel_rfl) ?_
  refine kAll_skip (by kernel_rfl) ?_
  refine kAll_skip (by kernel_rfl) ?_
  refine kAll_pw (by kernel_rfl) (fun K hK => ?_)
  go_simp
  generalize hZ : (Act.mk _ _) = Z
  refine hK Z ?_
  subst hZ
  clear hK K
  refine kAll_p (fun K hK => ?_)
  go_simp
  generalize hZ : (Act.mk _ _) = Z
  refine hK Z ?_
  subst hZ
  clear hK K
  refine kAll_p (fun K hK => ?_)
  go_simp
  generalize hZ : (Act.mk _ _) = Z
  refine hK Z ?_
  subst hZ
  clear hK K
  refine kAll_nil (fun W44 hW hF => ?_)
  clear hF
  have hk_45 : Keep (fun _ => False) _ W44 := hW
  have F_46 := Lib.hid (fun W h => F_40.out W (keep0_trans _ _ _ hk_45 h))
  have F_47 := Lib.hid (fun W h => F_41.out W (keep0_trans _ _ _ hk_45 h))
  have F_48 := Lib.hid (fun W h => F_42.out W (keep0_trans _ _ _ hk_45 h))
  have K_49 := Lib.hid (keep0_trans _ _ _ K_43.out hk_45)
  clear hk_45 F_40 F_41 F_42 K_43
  clear hW
  go_wp2
  go_ret
  exact ⟨rfl, K_49.out⟩
set_option maxRecDepth 100000 in
set_option maxHeartbeats 4000000 in
theorem stands_3 (A0 A1 A2 : Option Addr) (n0 n1 n2 c0 c1 c2 : Nat) (l0 l1 l2 : List Tick) (w : World) (HBig : Hid ([n0, n1, n2].any (fun x => decide (150 < x)) = false)) (F0 : Hid (∀ W, Keep (fun _ => False) w W → IsTB 150 W (.slice A0 n0 c0) l0)) (F1 : Hid (∀ W, Keep (fun _ => False) w W → IsTB 150 W (.slice A1 n1 c1) l1)) (F2 : Hid (∀ W, Keep (fun _ => False) w W → IsTB 150 W (.slice A2 n2 c2) l2))
    (HX : Hid (cmpM l0 l1 = 3)) (HY : Hid (cmpM l1 l0 = 2)) (HAA : Hid (cmpM l0 l0 = 1)) (HJ : Hid (cmpM (joinM l0 l1) l1 = 3))  :
    Calls Try.prog 6 #[.slice A0 n0 c0, .slice A1 n1 c1, .slice A2 n2 c2] w (Tell (.bool true) w) := by
  have K0 := Lib.hid (Keep.refl (fun _ => False) w)
  go_enter Try.func6, Try.ntmps6
  go_upto_region 1 with (fail)
  refine wp_region_kord (Keep (fun _ => False)) (Keep.refl _) keep0_trans 9 (Ts := [some (.inl (.bool true)), none, none, none, none, none, some (.inr (fun v W => IsLg W v [n0, n1, n2])), some (.inl (.bool false)), none]) ?_
  simp only [List.take, List.drop]
  refine kAll_dn _ (fun W hW hF => kStep_of fun K Q hK => ?_) (fun K hK => ?_)
  · go_simp
    refine (works_any W).mono ?_
    rintro e w' ⟨rfl, hk⟩
    exact hK _ _ hk rfl
  go_simp
  generalize hZ : (Act.mk _ _) = Z
  refine hK Z ?_
  subst hZ
  clear hK K
  refine kAll_p (fun K hK => ?_)
  go_simp
  generalize hZ : (Act.mk _ _) = Z
  refine hK Z ?_
  subst hZ
  clear hK K
  refine kAll_p (fun K hK => ?_)
  go_simp
  generalize hZ : (Act.mk _ _) = Z
  refine hK Z ?_
  subst hZ
  clear hK K
  refine kAll_pw (by kernel_rfl) (fun K hK => ?_)
  go_simp
  generalize hZ : (Act.mk _ _) = Z
  refine hK Z ?_
  subst hZ
  clear hK K
  refine kAll_pw (by kernel_rfl) (fun K hK => ?_)
  go_simp
  generalize hZ : (Act.mk _ _) = Z
  refine hK Z ?_
  subst hZ
  clear hK K
  refine kAll_pw (by kernel_rfl) (fun K hK => ?_)
  go_simp
  generalize hZ : (Act.mk _ _) = Z
  refine hK Z ?_
  subst hZ
  clear hK K
  refine kAll_tn _ (fun v W W' hk h => h.keep0 hk) (fun W hW hF => kStep_w (by kernel_rfl) fun K Q hK => ?_) (fun u0 K hK => ?_)
  · go_simp
    exact hK _ _ ((Keep.refl _ _).alloc _) ⟨_, _, _, [(A0, n0, c0), (A1, n1, c1), (A2, n2, c2)], rfl, rfl, rfl, RdK.of_blk (Blk.new _ _ _) 3 1 rfl⟩
  go_simp
  generalize hZ : (Act.mk _ _) = Z
  refine hK Z ?_
  subst hZ
  clear hK K
  refine kAll_dn _ (fun W hW hF => kStep_w (by kernel_rfl) fun K Q hK => ?_) (fun K hK => ?_)
  · have h0 : (fun v W => IsLg W v [n0, n1, n2]) u0 W := kHas_at hF 0 rfl (by kernel_rfl)
    go_simp
    refine (large_is false h0 (by simp) HBig.out).mono ?_
    rintro e w' ⟨rfl, hk⟩
    exact hK _ _ hk rfl
  go_simp
  generalize hZ : (Act.mk _ _) = Z
  refine hK Z ?_
  subst hZ
  clear hK K
  refine kAll_p (fun K hK => ?_)
  go_simp
  generalize hZ : (Act.mk _ _) = Z
  refine hK Z ?_
  subst hZ
  clear hK K
  refine kAll_nil (fun W1 hW hF => ?_)
  clear hF
  have hk_2 : Keep (fun _ => False) _ W1 := hW
  have F_3 := Lib.hid (fun W h => F0.out W (keep0_trans _ _ _ hk_2 h))
  have F_4 := Lib.hid (fun W h => F1.out W (keep0_trans _ _ _ hk_2 h))
  have F_5 := Lib.hid (fun W h => F2.out W (keep0_trans _ _ _ hk_2 h))
  have K_6 := Lib.hid (keep0_trans _ _ _ K0.out hk_2)
  clear hk_2 F0 F1 F2 K0
  clear hW
  go_upto_region 3 with (fail)
  refine wp_region_kord (Keep (fun _ => False)) (Keep.refl _) keep0_trans 4 (Ts := [none, none, some (.inl (.int .u8 3)), none]) ?_
  simp only [List.take, List.drop]
  refine kAll_p (fun K hK => ?_)
  go_simp
  generalize hZ : (Act.mk _ _) = Z
  refine hK Z ?_
  subst hZ
  clear hK K
  refine kAll_p (fun K hK => ?_)
  go_simp
  generalize hZ : (Act.mk _ _) = Z
  refine hK Z ?_
  subst hZ
  clear hK K
  refine kAll_dn _ (fun W hW hF => kStep_of fun K Q hK => ?_) (fun K hK => ?_)
  · have h0 := F_3.out W (hW)
    have h1 := F_4.out W (hW)
    go_simp
    refine (cmpI_is 3 h0 h1 (by decide) HX.out).mono ?_
    rintro e w' ⟨rfl, hk⟩
    exact hK _ _ hk rfl
  go_simp
  generalize hZ : (Act.mk _ _) = Z
  refine hK Z ?_
  subst hZ
  clear hK K
  refine kAll_p (fun K hK => ?_)
  go_simp
  generalize hZ : (Act.mk _ _) = Z
  refine hK Z ?_
  subst hZ
  clear hK K
  refine kAll_nil (fun W7 hW hF => ?_)
  clear hF
  have hk_8 : Keep (fun _ => False) _ W7 := hW
  have F_9 := Lib.hid (fun W h => F_3.out W (keep0_trans _ _ _ hk_8 h))
  have F_10 := Lib.hid (fun W h => F_4.out W (keep0_trans _ _ _ hk_8 h))
  have F_11 := Lib.hid (fun W h => F_5.out W (keep0_trans _ _ _ hk_8 h))
  have K_12 := Lib.hid (keep0_trans _ _ _ K_6.out hk_8)
  clear hk_8 F_3 F_4 F_5 K_6
  clear hW
  go_upto_region 4 with (fail)
  refine wp_region_kord (Keep (fun _ => False)) (Keep.refl _) keep0_trans 4 (Ts := [none, none, some (.inl (.int .u8 2)), none]) ?_
  simp only [List.take, List.drop]
  refine kAll_p (fun K hK => ?_)
  go_simp
  generalize hZ : (Act.mk _ _) = Z
  refine hK Z ?_
  subst hZ
  clear hK K
  refine kAll_p (fun K hK => ?_)
  go_simp
  generalize hZ : (Act.mk _ _) = Z
  refine hK Z ?_
  subst hZ
  clear hK K
  refine kAll_dn _ (fun W hW hF => kStep_of fun K Q hK => ?_) (fun K hK => ?_)
  · have h0 := F_10.out W (hW)
    have h1 := F_9.out W (hW)
    go_simp
    refine (cmpI_is 2 h0 h1 (by decide) HY.out).mono ?_
    rintro e w' ⟨rfl, hk⟩
    exact hK _ _ hk rfl
  go_simp
  generalize hZ : (Act.mk _ _) = Z
  refine hK Z ?_
  subst hZ
  clear hK K
  refine kAll_p (fun K hK => ?_)
  go_simp
  generalize hZ : (Act.mk _ _) = Z
  refine hK Z ?_
  subst hZ
  clear hK K
  refine kAll_nil (fun W13 hW hF => ?_)
  clear hF
  have hk_14 : Keep (fun _ => False) _ W13 := hW
  have F_15 := Lib.hid (fun W h => F_9.out W (keep0_trans _ _ _ hk_14 h))
  have F_16 := Lib.hid (fun W h => F_10.out W (keep0_trans _ _ _ hk_14 h))
  have F_17 := Lib.hid (fun W h => F_11.out W (keep0_trans _ _ _ hk_14 h))
  have K_18 := Lib.hid (keep0_trans _ _ _ K_12.out hk_14)
  clear hk_14 F_9 F_10 F_11 K_12
  clear hW
  go_upto_region 5 with (fail)
  refine wp_region_kord (Keep (fun _ => False)) (Keep.refl _) keep0_trans 2 (Ts := [some (.inr (fun v W => ∃ g, v = .slice (some ⟨g, 0, none⟩) 5 5 ∧ Blk W g 5 #[.int .u8 0, .int .u8 1, .int .u8 3, .int .u8 2, .int .u8 4])), none]) ?_
  simp only [List.take, List.drop]
  refine kAll_tn _ (fun v W W' (hk : Keep (fun _ => False) W W') ⟨g, e, hb⟩ => ⟨g, e, Blk.keep hb hk (fun h => h)⟩) (fun W hW hF => kStep_of fun K Q hK => ?_) (fun u0 K hK => ?_)
  · go_simp
    exact hK _ _ ((Keep.refl _ _).alloc _) ⟨_, rfl, Blk.new _ _ _⟩
  go_simp
  generalize hZ : (Act.mk _ _) = Z
  refine hK Z ?_
  subst hZ
  clear hK K
  refine kAll_p (fun K hK => ?_)
  go_simp
  generalize hZ : (Act.mk _ _) = Z
  refine hK Z ?_
  subst hZ
  clear hK K
  refine kAll_nil (fun W19 hW hF => ?_)
  have ht : (fun v W => ∃ g, v = .slice (some ⟨g, 0, none⟩) 5 5 ∧ Blk W g 5 #[.int .u8 0, .int .u8 1, .int .u8 3, .int .u8 2, .int .u8 4]) u0 W19 := kAllHas_at hF 0 rfl
  obtain ⟨g, rfl, hg⟩ := ht
  have HT := Lib.hid hg
  clear hg
  clear hF
  have hk_20 : Keep (fun _ => False) _ W19 := hW
  have F_21 := Lib.hid (fun W h => F_15.out W (keep0_trans _ _ _ hk_20 h))
  have F_22 := Lib.hid (fun W h => F_16.out W (keep0_trans _ _ _ hk_20 h))
  have F_23 := Lib.hid (fun W h => F_17.out W (keep0_trans _ _ _ hk_20 h))
  have K_24 := Lib.hid (keep0_trans _ _ _ K_18.out hk_20)
  clear hk_20 F_15 F_16 F_17 K_18
  clear hW
  go_upto_region 6 with (fail)
  refine wp_region_kord (Keep (fun _ => False)) (Keep.refl _) keep0_trans 20 (Ts := [none, none, none, none, none, none, none, none, none, none, none, some (.inl (.int .u8 2)), none, none, none, none, none, some (.inl (.int .u8 1)), none, none]) ?_
  simp only [List.take, List.drop]
  refine kAll_p (fun K hK => ?_)
  go_simp
  generalize hZ : (Act.mk _ _) = Z
  refine hK Z ?_
  subst hZ
  clear hK K
  refine kAll_p (fun K hK => ?_)
  go_simp
  generalize hZ : (Act.mk _ _) = Z
  refine hK Z ?_
  subst hZ
  clear hK K
  refine kAll_p (fun K hK => ?_)
  go_simp
  generalize hZ : (Act.mk _ _) = Z
  refine hK Z ?_
  subst hZ
  clear hK K
  refine kAll_pw (by kernel_rfl) (fun K hK => ?_)
  go_simp
  generalize hZ : (Act.mk _ _) = Z
  refine hK Z ?_
  subst hZ
  clear hK K
  refine kAll_pw (by kernel_rfl) (fun K hK => ?_)
  go_simp
  generalize hZ : (Act.mk _ _) = Z
  refine hK Z ?_
  subst hZ
  clear hK K
  refine kAll_p (fun K hK => ?_)
  go_simp
  generalize hZ : (Act.mk _ _) = Z
  refine hK Z ?_
  subst hZ
  clear hK K
  refine kAll_p (fun K hK => ?_)
  go_simp
  generalize hZ : (Act.mk _ _) = Z
  refine hK Z ?_
  subst hZ
  clear hK K
  refine kAll_pw (by kernel_rfl) (fun K hK => ?_)
  go_simp
  generalize hZ : (Act.mk _ _) = Z
  refine hK Z ?_
  subst hZ
  clear hK K
  refine kAll_pw (by kernel_rfl) (fun K hK => ?_)
  go_simp
  generalize hZ : (Act.mk _ _) = Z
  refine hK Z ?_
  subst hZ
  clear hK K
  refine kAll_pw (by kernel_rfl) (fun K hK => ?_)
  go_simp
  generalize hZ : (Act.mk _ _) = Z
  refine hK Z ?_
  subst hZ
  clear hK K
  refine kAll_pw (by kernel_rfl) (fun K hK => ?_)
  go_simp
  generalize hZ : (Act.mk _ _) = Z
  refine hK Z ?_
  subst hZ
  clear hK K
  refine kAll_dn _ (fun W hW hF => kStep_w (by kernel_rfl) fun K Q hK => ?_) (fun K hK => ?_)
  · have e0 := (HT.out.keep hW (fun h => h)).cell 0
    have e1 := (HT.out.keep hW (fun h => h)).cell 1
    have e2 := (HT.out.keep hW (fun h => h)).cell 2
    have e3 := (HT.out.keep hW (fun h => h)).cell 3
    have e4 := (HT.out.keep hW (fun h => h)).cell 4
    simp at e0 e1 e2 e3 e4
    go_simp
    exact hK _ _ (Keep.refl _ _) rfl
  go_simp
  generalize hZ : (Act.mk _ _) = Z
  refine hK Z ?_
  subst hZ
  clear hK K
  refine kAll_pw (by kernel_rfl) (fun K hK => ?_)
  go_simp
  generalize hZ : (Act.mk _ _) = Z
  refine hK Z ?_
  subst hZ
  clear hK K
  refine kAll_p (fun K hK => ?_)
  go_simp
  generalize hZ : (Act.mk _ _) = Z
  refine hK Z ?_
  subst hZ
  clear hK K
  refine kAll_p (fun K hK => ?_)
  go_simp
  generalize hZ : (Act.mk _ _) = Z
  refine hK Z ?_
  subst hZ
  clear hK K
  refine kAll_pw (by kernel_rfl) (fun K hK => ?_)
  go_simp
  generalize hZ : (Act.mk _ _) = Z
  refine hK Z ?_
  subst hZ
  clear hK K
  refine kAll_pw (by kernel_rfl) (fun K hK => ?_)
  go_simp
  generalize hZ : (Act.mk _ _) = Z
  refine hK Z ?_
  subst hZ
  clear hK K
  refine kAll_dn _ (fun W hW hF => kStep_w (by kernel_rfl) fun K Q hK => ?_) (fun K hK => ?_)
  · have h0 := F_21.out W (hW)
    have h1 := F_21.out W (hW)
    go_simp
    refine (cmpI_is 1 h0 h1 (by decide) HAA.out).mono ?_
    rintro e w' ⟨rfl, hk⟩
    exact hK _ _ hk rfl
  go_simp
  generalize hZ : (Act.mk _ _) = Z
  refine hK Z ?_
  subst hZ
  clear hK K
  refine kAll_pw (by kernel_rfl) (fun K hK => ?_)
  go_simp
  generalize hZ : (Act.mk _ _) = Z
  refine hK Z ?_
  subst hZ
  clear hK K
  refine kAll_p (fun K hK => ?_)
  go_simp
  generalize hZ : (Act.mk _ _) = Z
  refine hK Z ?_
  subst hZ
  clear hK K
  refine kAll_nil (fun W25 hW hF => ?_)
  clear hF
  have hk_26 : Keep (fun _ => False) _ W25 := hW
  have B_27 := Lib.hid (HT.out.keep hk_26 (fun h => h))
  have F_28 := Lib.hid (fun W h => F_21.out W (keep0_trans _ _ _ hk_26 h))
  have F_29 := Lib.hid (fun W h => F_22.out W (keep0_trans _ _ _ hk_26 h))
  have F_30 := Lib.hid (fun W h => F_23.out W (keep0_trans _ _ _ hk_26 h))
  have K_31 := Lib.hid (keep0_trans _ _ _ K_24.out hk_26)
  clear hk_26 HT F_21 F_22 F_23 K_24
  clear hW
  go_upto_region 8 with (fail)
  refine wp_region_kord (Keep (fun _ => False)) (Keep.refl _) keep0_trans 14 (Ts := [none, none, none, none, none, none, none, none, none, none, none, none, none, none]) ?_
  simp only [List.take, List.drop]
  refine kAll_p (fun K hK => ?_)
  go_simp
  generalize hZ : (Act.mk _ _) = Z
  refine hK Z ?_
  subst hZ
  clear hK K
  refine kAll_p (fun K hK => ?_)
  go_simp
  generalize hZ : (Act.mk _ _) = Z
  refine hK Z ?_
  subst hZ
  clear hK K
  refine kAll_p (fun K hK => ?_)
  go_simp
  generalize hZ : (Act.mk _ _) = Z
  refine hK Z ?_
  subst hZ
  clear hK K
  refine kAll_skip (by kernel_rfl) ?_
  refine kAll_skip (by kernel_rfl) ?_
  refine kAll_skip (by kernel_rfl) ?_
  refine kAll_skip (by kernel_rfl) ?_
  refine kAll_p (fun K hK => ?_)
  go_simp
  generalize hZ : (Act.mk _ _) = Z
  refine hK Z ?_
  subst hZ
  clear hK K
  refine kAll_p (fun K hK => ?_)
  go_simp
  generalize hZ : (Act.mk _ _) = Z
  refine hK Z ?_
  subst hZ
  clear hK K
  refine kAll_skip (by kernel_rfl) ?_
  refine kAll_skip (by kernel_rfl) ?_
  refine kAll_skip (by kernel_rfl) ?_
  refine kAll_skip (by kernel_rfl) ?_
  refine kAll_p (fun K hK => ?_)
  go_simp
  generalize hZ : (Act.mk _ _) = Z
  refine hK Z ?_
  subst hZ
  clear hK K
  refine kAll_nil (fun W32 hW hF => ?_)
  clear hF
  have hk_33 : Keep (fun _ => False) _ W32 := hW
  have F_34 := Lib.hid (fun W h => F_28.out W (keep0_trans _ _ _ hk_33 h))
  have F_35 := Lib.hid (fun W h => F_29.out W (keep0_trans _ _ _ hk_33 h))
  have F_36 := Lib.hid (fun W h => F_30.out W (keep0_trans _ _ _ hk_33 h))
  have K_37 := Lib.hid (keep0_trans _ _ _ K_31.out hk_33)
  clear hk_33 F_28 F_29 F_30 K_31
  clear hW
  go_upto_region 10 with (fail)
  refine wp_region_kord (Keep (fun _ => False)) (Keep.refl _) keep0_trans 6 (Ts := [none, none, some (.inr (fun v W => IsTB 300 W v (joinM l0 l1))), none, some (.inl (.int .u8 3)), none]) ?_
  simp only [List.take, List.drop]
  refine kAll_p (fun K hK => ?_)
  go_simp
  generalize hZ : (Act.mk _ _) = Z
  refine hK Z ?_
  subst hZ
  clear hK K
  refine kAll_p (fun K hK => ?_)
  go_simp
  generalize hZ : (Act.mk _ _) = Z
  refine hK Z ?_
  subst hZ
  clear hK K
  refine kAll_tn _ (fun v W W' hk h => h.keep0 hk) (fun W hW hF => kStep_of fun K Q hK => ?_) (fun u0 K hK => ?_)
  · have h0 := F_34.out W (hW)
    have h1 := F_35.out W (hW)
    go_simp
    refine (joinI_any h0 h1 (by decide)).mono ?_
    rintro e w' ⟨u, rfl, hu, hk⟩
    exact hK _ _ hk hu
  go_simp
  generalize hZ : (Act.mk _ _) = Z
  refine hK Z ?_
  subst hZ
  clear hK K
  refine kAll_p (fun K hK => ?_)
  go_simp
  generalize hZ : (Act.mk _ _) = Z
  refine hK Z ?_
  subst hZ
  clear hK K
  refine kAll_dn _ (fun W hW hF => kStep_of fun K Q hK => ?_) (fun K hK => ?_)
  · have h0 : (fun v W => IsTB 300 W v (joinM l0 l1)) u0 W := kHas_at hF 0 rfl (by kernel_rfl)
    have h1 := F_35.out W (hW)
    go_simp
    refine (cmpI_is 3 h0 h1 (by decide) HJ.out).mono ?_
    rintro e w' ⟨rfl, hk⟩
    exact hK _ _ hk rfl
  go_simp
  generalize hZ : (Act.mk _ _) = Z
  refine hK Z ?_
  subst hZ
  clear hK K
  refine kAll_p (fun K hK => ?_)
  go_simp
  generalize hZ : (Act.mk _ _) = Z
  refine hK Z ?_
  subst hZ
  clear hK K
  refine kAll_nil (fun W38 hW hF => ?_)
  clear hF
  have hk_39 : Keep (fun _ => False) _ W38 := hW
  have F_40 := Lib.hid (fun W h => F_34.out W (keep0_trans _ _ _ hk_39 h))
  have F_41 := Lib.hid (fun W h => F_35.out W (keep0_trans _ _ _ hk_39 h))
  have F_42 := Lib.hid (fun W h => F_36.out W (keep0_trans _ _ _ hk_39 h))
  have K_43 := Lib.hid (keep0_trans _ _ _ K_37.out hk_39)
  clear hk_39 F_34 F_35 F_36 K_37
  clear hW
  go_upto_region 11 with (fail)
  refine wp_region_kord (Keep (fun _ => False)) (Keep.refl _) keep0_trans 26 (Ts := [none, none, none, none, none, none, none, none, none, none, none, none, none, none, none, none, none, none, none, none, none, none, none, none, none, none]) ?_
  simp only [List.take, List.drop]
  refine kAll_p (fun K hK => ?_)
  go_simp
  generalize hZ : (Act.mk _ _) = Z
  refine hK Z ?_
  subst hZ
  clear hK K
  refine kAll_p (fun K hK => ?_)
  go_simp
  generalize hZ : (Act.mk _ _) = Z
  refine hK Z ?_
  subst hZ
  clear hK K
  refine kAll_p (fun K hK => ?_)
  go_simp
  generalize hZ : (Act.mk _ _) = Z
  refine hK Z ?_
  subst hZ
  clear hK K
  refine kAll_pw (by kernel_rfl) (fun K hK => ?_)
  go_simp
  generalize hZ : (Act.mk _ _) = Z
  refine hK Z ?_
  subst hZ
  clear hK K
  refine kAll_pw (by kernel_rfl) (fun K hK => ?_)
  go_simp
  generalize hZ : (Act.mk _ _) = Z
  refine hK Z ?_
  subst hZ
  clear hK K
  refine kAll_p (fun K hK => ?_)
  go_simp
  generalize hZ : (Act.mk _ _) = Z
  refine hK Z ?_
  subst hZ
  clear hK K
  refine kAll_p (fun K hK => ?_)
  go_simp
  generalize hZ : (Act.mk _ _) = Z
  refine hK Z ?_
  subst hZ
  clear hK K
  refine kAll_p (fun K hK => ?_)
  go_simp
  generalize hZ : (Act.mk _ _) = Z
  refine hK Z ?_
  subst hZ
  clear hK K
  refine kAll_p (fun K hK => ?_)
  go_simp
  generalize hZ : (Act.mk _ _) = Z
  refine hK Z ?_
  subst hZ
  clear hK K
  refine kAll_p (fun K hK => ?_)
  go_simp
  generalize hZ : (Act.mk _ _) = Z
  refine hK Z ?_
  subst hZ
  clear hK K
  refine kAll_pw (by kernel_rfl) (fun K hK => ?_)
  go_simp
  generalize hZ : (Act.mk _ _) = Z
  refine hK Z ?_
  subst hZ
  clear hK K
  refine kAll_pw (by kernel_rfl) (fun K hK => ?_)
  go_simp
  generalize hZ : (Act.mk _ _) = Z
  refine hK Z ?_
  subst hZ
  clear hK K
  refine kAll_pw (by kernel_rfl) (fun K hK => ?_)
  go_simp
  generalize hZ : (Act.mk _ _) = Z
  refine hK Z ?_
  subst hZ
  clear hK K
  refine kAll_skip (by kernel_rfl) ?_
  refine kAll_skip (by kernel_rfl) ?_
  refine kAll_skip (by kernel_rfl) ?_
  refine kAll_pw (by kernel_rfl) (fun K hK => ?_)
  go_simp
  generalize hZ : (Act.mk _ _) = Z
  refine hK Z ?_
  subst hZ
  clear hK K
  refine kAll_pw (by kernel_rfl) (fun K hK => ?_)
  go_simp
  generalize hZ : (Act.mk _ _) = Z
  refine hK Z ?_
  subst hZ
  clear hK K
  refine kAll_skip (by kernel_rfl) ?_
  refine kAll_skip (by kernel_rfl) ?_
  refine kAll_skip (by kernel_rfl) ?_
  refine kAll_skip (by kernel_rfl) ?_
  refine kAll_skip (by kernel_rfl) ?_
  refine kAll_pw (by kernel_rfl) (fun K hK => ?_)
  go_simp
  generalize hZ : (Act.mk _ _) = Z
  refine hK Z ?_
  subst hZ
  clear hK K
  refine kAll_p (fun K hK => ?_)
  go_simp
  generalize hZ : (Act.mk _ _) = Z
  refine hK Z ?_
  subst hZ
  clear hK K
  refine kAll_p (fun K hK => ?_)
  go_simp
  generalize hZ : (Act.mk _ _) = Z
  refine hK Z ?_
  subst hZ
  clear hK K
  refine kAll_nil (fun W44 hW hF => ?_)
  clear hF
  have hk_45 : Keep (fun _ => False) _ W44 := hW
  have F_46 := Lib.hid (fun W h => F_40.out W (keep0_trans _ _ _ hk_45 h))
  have F_47 := Lib.hid (fun W h => F_41.out W (keep0_trans _ _ _ hk_45 h))
  have F_48 := Lib.hid (fun W h => F_42.out W (keep0_trans _ _ _ hk_45 h))
  have K_49 := Lib.hid (keep0_trans _ _ _ K_43.out hk_45)
  clear hk_45 F_40 F_41 F_42 K_43
  clear hW
  go_wp2
  go_ret
  exact ⟨rfl, K_49.out⟩
set_option maxRecDepth 100000 in
set_option maxHeartbeats 4000000 in
theorem stands_4 (A0 A1 A2 : Option Addr) (n0 n1 n2 c0 c1 c2 : Nat) (l0 l1 l2 : List Tick) (w : World) (HBig : Hid ([n0, n1, n2].any (fun x => decide (150 < x)) = false)) (F0 : Hid (∀ W, Keep (fun _ => False) w W → IsTB 150 W (.slice A0 n0 c0) l0)) (F1 : Hid (∀ W, Keep (fun _ => False) w W → IsTB 150 W (.slice A1 n1 c1) l1)) (F2 : Hid (∀ W, Keep (fun _ => False) w W → IsTB 150 W (.slice A2 n2 c2) l2))
    (HX : Hid (cmpM l0 l1 = 4)) (HY : Hid (cmpM l1 l0 = 4)) (HAA : Hid (cmpM l0 l0 = 1)) (HJ : Hid (cmpM (joinM l0 l1) l1 = 3))  :
    Calls Try.prog 6 #[.slice A0 n0 c0, .slice A1 n1 c1, .slice A2 n2 c2] w (Tell (.bool true) w) := by
  have K0 := Lib.hid (Keep.refl (fun _ => False) w)
  go_enter Try.func6, Try.ntmps6
  go_upto_region 1 with (fail)
  refine wp_region_kord (Keep (fun _ => False)) (Keep.refl _) keep0_trans 9 (Ts := [some (.inl (.bool true)), none, none, none, none, none, some (.inr (fun v W => IsLg W v [n0, n1, n2])), some (.inl (.bool false)), none]) ?_
  simp only [List.take, List.drop]
  refine kAll_dn _ (fun W hW hF => kStep_of fun K Q hK => ?_) (fun K hK => ?_)
  · go_simp
    refine (works_any W).mono ?_
    rintro e w' ⟨rfl, hk⟩
    exact hK _ _ hk rfl
  go_simp
  generalize hZ : (Act.mk _ _) = Z
  refine hK Z ?_
  subst hZ
  clear hK K
  refine kAll_p (fun K hK => ?_)
  go_simp
  generalize hZ : (Act.mk _ _) = Z
  refine hK Z ?_
  subst hZ
  clear hK K
  refine kAll_p (fun K hK => ?_)
  go_simp
  generalize hZ : (Act.mk _ _) = Z
  refine hK Z ?_
  subst hZ
  clear hK K
  refine kAll_pw (by kernel_rfl) (fun K hK => ?_)
  go_simp
  generalize hZ : (Act.mk _ _) = Z
  refine hK Z ?_
  subst hZ
  clear hK K
  refine kAll_pw (by kernel_rfl) (fun K hK => ?_)
  go_simp
  generalize hZ : (Act.mk _ _) = Z
  refine hK Z ?_
  subst hZ
  clear hK K
  refine kAll_pw (by kernel_rfl) (fun K hK => ?_)
  go_simp
  generalize hZ : (Act.mk _ _) = Z
  refine hK Z ?_
  subst hZ
  clear hK K
  refine kAll_tn _ (fun v W W' hk h => h.keep0 hk) (fun W hW hF => kStep_w (by kernel_rfl) fun K Q hK => ?_) (fun u0 K hK => ?_)
  · go_simp
    exact hK _ _ ((Keep.refl _ _).alloc _) ⟨_, _, _, [(A0, n0, c0), (A1, n1, c1), (A2, n2, c2)], rfl, rfl, rfl, RdK.of_blk (Blk.new _ _ _) 3 1 rfl⟩
  go_simp
  generalize hZ : (Act.mk _ _) = Z
  refine hK Z ?_
  subst hZ
  clear hK K
  refine kAll_dn _ (fun W hW hF => kStep_w (by kernel_rfl) fun K Q hK => ?_) (fun K hK => ?_)
  · have h0 : (fun v W => IsLg W v [n0, n1, n2]) u0 W := kHas_at hF 0 rfl (by kernel_rfl)
    go_simp
    refine (large_is false h0 (by simp) HBig.out).mono ?_
    rintro e w' ⟨rfl, hk⟩
    exact hK _ _ hk rfl
  go_simp
  generalize hZ : (Act.mk _ _) = Z
  refine hK Z ?_
  subst hZ
  clear hK K
  refine kAll_p (fun K hK => ?_)
  go_simp
  generalize hZ : (Act.mk _ _) = Z
  refine hK Z ?_
  subst hZ
  clear hK K
  refine kAll_nil (fun W1 hW hF => ?_)
  clear hF
  have hk_2 : Keep (fun _ => False) _ W1 := hW
  have F_3 := Lib.hid (fun W h => F0.out W (keep0_trans _ _ _ hk_2 h))
  have F_4 := Lib.hid (fun W h => F1.out W (keep0_trans _ _ _ hk_2 h))
  have F_5 := Lib.hid (fun W h => F2.out W (keep0_trans _ _ _ hk_2 h))
  have K_6 := Lib.hid (keep0_trans _ _ _ K0.out hk_2)
  clear hk_2 F0 F1 F2 K0
  clear hW
  go_upto_region 3 with (fail)
  refine wp_region_kord (Keep (fun _ => False)) (Keep.refl _) keep0_trans 4 (Ts := [none, none, some (.inl (.int .u8 4)), none]) ?_
  simp only [List.take, List.drop]
  refine kAll_p (fun K hK => ?_)
  go_simp
  generalize hZ : (Act.mk _ _) = Z
  refine hK Z ?_
  subst hZ
  clear hK K
  refine kAll_p (fun K hK => ?_)
  go_simp
  generalize hZ : (Act.mk _ _) = Z
  refine hK Z ?_
  subst hZ
  clear hK K
  refine kAll_dn _ (fun W hW hF => kStep_of fun K Q hK => ?_) (fun K hK => ?_)
  · have h0 := F_3.out W (hW)
    have h1 := F_4.out W (hW)
    go_simp
    refine (cmpI_is 4 h0 h1 (by decide) HX.out).mono ?_
    rintro e w' ⟨rfl, hk⟩
    exact hK _ _ hk rfl
  go_simp
  generalize hZ : (Act.mk _ _) = Z
  refine hK Z ?_
  subst hZ
  clear hK K
  refine kAll_p (fun K hK => ?_)
  go_simp
  generalize hZ : (Act.mk _ _) = Z
  refine hK Z ?_
  subst hZ
  clear hK K
  refine kAll_nil (fun W7 hW hF => ?_)
  clear hF
  have hk_8 : Keep (fun _ => False) _ W7 := hW
  have F_9 := Lib.hid (fun W h => F_3.out W (keep0_trans _ _ _ hk_8 h))
  have F_10 := Lib.hid (fun W h => F_4.out W (keep0_trans _ _ _ hk_8 h))
  have F_11 := Lib.hid (fun W h => F_5.out W (keep0_trans _ _ _ hk_8 h))
  have K_12 := Lib.hid (keep0_trans _ _ _ K_6.out hk_8)
  clear hk_8 F_3 F_4 F_5 K_6
  clear hW
  go_upto_region 4 with (fail)
  refine wp_region_kord (Keep (fun _ => False)) (Keep.refl _) keep0_trans 4 (Ts := [none, none, some (.inl (.int .u8 4)), none]) ?_
  simp only [List.take, List.drop]
  refine kAll_p (fun K hK => ?_)
  go_simp
  generalize hZ : (Act.mk _ _) = Z
  refine hK Z ?_
  subst hZ
  clear hK K
  refine kAll_p (fun K hK => ?_)
  go_simp
  generalize hZ : (Act.mk _ _) = Z
  refine hK Z ?_
  subst hZ
  clear hK K
  refine kAll_dn _ (fun W hW hF => kStep_of fun K Q hK => ?_) (fun K hK => ?_)
  · have h0 := F_10.out W (hW)
    have h1 := F_9.out W (hW)
    go_simp
    refine (cmpI_is 4 h0 h1 (by decide) HY.out).mono ?_
    rintro e w' ⟨rfl, hk⟩
    exact hK _ _ hk rfl
  go_simp
  generalize hZ : (Act.mk _ _) = Z
  refine hK Z ?_
  subst hZ
  clear hK K
  refine kAll_p (fun K hK => ?_)
  go_simp
  generalize hZ : (Act.mk _ _) = Z
  refine hK Z ?_
  subst hZ
  clear hK K
  refine kAll_nil (fun W13 hW hF => ?_)
  clear hF
  have hk_14 : Keep (fun _ => False) _ W13 := hW
  have F_15 := Lib.hid (fun W h => F_9.out W (keep0_trans _ _ _ hk_14 h))
  have F_16 := Lib.hid (fun W h => F_10.out W (keep0_trans _ _ _ hk_14 h))
  have F_17 := Lib.hid (fun W h => F_11.out W (keep0_trans _ _ _ hk_14 h))
  have K_18 := Lib.hid (keep0_trans _ _ _ K_12.out hk_14)
  clear hk_14 F_9 F_10 F_11 K_12
  clear hW
  go_upto_region 5 with (fail)
  refine wp_region_kord (Keep (fun _ => False)) (Keep.refl _) keep0_trans 2 (Ts := [some (.inr (fun v W => ∃ g, v = .slice (some ⟨g, 0, none⟩) 5 5 ∧ Blk W g 5 #[.int .u8 0, .int .u8 1, .int .u8 3, .int .u8 2, .int .u8 4])), none]) ?_
  simp only [List.take, List.drop]
  refine kAll_tn _ (fun v W W' (hk : Keep (fun _ => False) W W') ⟨g, e, hb⟩ => ⟨g, e, Blk.keep hb hk (fun h => h)⟩) (fun W hW hF => kStep_of fun K Q hK => ?_) (fun u0 K hK => ?_)
  · go_simp
    exact hK _ _ ((Keep.refl _ _).alloc _) ⟨_, rfl, Blk.new _ _ _⟩
  go_simp
  generalize hZ : (Act.mk _ _) = Z
  refine hK Z ?_
  subst hZ
  clear hK K
  refine kAll_p (fun K hK => ?_)
  go_simp
  generalize hZ : (Act.mk _ _) = Z
  refine hK Z ?_
  subst hZ
  clear hK K
  refine kAll_nil (fun W19 hW hF => ?_)
  have ht : (fun v W => ∃ g, v = .slice (some ⟨g, 0, none⟩) 5 5 ∧ Blk W g 5 #[.int .u8 0, .int .u8 1, .int .u8 3, .int .u8 2, .int .u8 4]) u0 W19 := kAllHas_at hF 0 rfl
  obtain ⟨g, rfl, hg⟩ := ht
  have HT := Lib.hid hg
  clear hg
  clear hF
  have hk_20 : Keep (fun _ => False) _ W19 := hW
  have F_21 := Lib.hid (fun W h => F_15.out W (keep0_trans _ _ _ hk_20 h))
  have F_22 := Lib.hid (fun W h => F_16.out W (keep0_trans _ _ _ hk_20 h))
  have F_23 := Lib.hid (fun W h => F_17.out W (keep0_trans _ _ _ hk_20 h))
  have K_24 := Lib.hid (keep0_trans _ _ _ K_18.out hk_20)
  clear hk_20 F_15 F_16 F_17 K_18
  clear hW
  go_upto_region 6 with (fail)
  refine wp_region_kord (Keep (fun _ => False)) (Keep.refl _) keep0_trans 20 (Ts := [none, none, none, none, none, none, none, none, none, none, none, some (.inl (.int .u8 4)), none, none, none, none, none, some (.inl (.int .u8 1)), none, none]) ?_
  simp only [List.take, List.drop]
  refine kAll_p (fun K hK => ?_)
  go_simp
  generalize hZ : (Act.mk _ _) = Z
  refine hK Z ?_
  subst hZ
  clear hK K
  refine kAll_p (fun K hK => ?_)
  go_simp
  generalize hZ : (Act.mk _ _) = Z
  refine hK Z ?_
  subst hZ
  clear hK K
  refine kAll_p (fun K hK => ?_)
  go_simp
  generalize hZ : (Act.mk _ _) = Z
  refine hK Z ?_
  subst hZ
  clear hK K
  refine kAll_pw (by kernel_rfl) (fun K hK => ?_)
  go_simp
  generalize hZ : (Act.mk _ _) = Z
  refine hK Z ?_
  subst hZ
  clear hK K
  refine kAll_pw (by kernel_rfl) (fun K hK => ?_)
  go_simp
  generalize hZ : (Act.mk _ _) = Z
  refine hK Z ?_
  subst hZ
  clear hK K
  refine kAll_p (fun K hK => ?_)
  go_simp
  generalize hZ : (Act.mk _ _) = Z
  refine hK Z ?_
  subst hZ
  clear hK K
  refine kAll_p (fun K hK => ?_)
  go_simp
  generalize hZ : (Act.mk _ _) = Z
  refine hK Z ?_
  subst hZ
  clear hK K
  refine kAll_pw (by kernel_rfl) (fun K hK => ?_)
  go_simp
  generalize hZ : (Act.mk _ _) = Z
  refine hK Z ?_
  subst hZ
  clear hK K
  refine kAll_pw (by kernel_rfl) (fun K hK => ?_)
  go_simp
  generalize hZ : (Act.mk _ _) = Z
  refine hK Z ?_
  subst hZ
  clear hK K
  refine kAll_pw (by kernel_rfl) (fun K hK => ?_)
  go_simp
  generalize hZ : (Act.mk _ _) = Z
  refine hK Z ?_
  subst hZ
  clear hK K
  refine kAll_pw (by kernel_rfl) (fun K hK => ?_)
  go_simp
  generalize hZ : (Act.mk _ _) = Z
  refine hK Z ?_
  subst hZ
  clear hK K
  refine kAll_dn _ (fun W hW hF => kStep_w (by kernel_rfl) fun K Q hK => ?_) (fun K hK => ?_)
  · have e0 := (HT.out.keep hW (fun h => h)).cell 0
    have e1 := (HT.out.keep hW (fun h => h)).cell 1
    have e2 := (HT.out.keep hW (fun h => h)).cell 2
    have e3 := (HT.out.keep hW (fun h => h)).cell 3
    have e4 := (HT.out.keep hW (fun h => h)).cell 4
    simp at e0 e1 e2 e3 e4
    go_simp
    exact hK _ _ (Keep.refl _ _) rfl
  go_simp
  generalize hZ : (Act.mk _ _) = Z
  refine hK Z ?_
  subst hZ
  clear hK K
  refine kAll_pw (by kernel_rfl) (fun K hK => ?_)
  go_simp
  generalize hZ : (Act.mk _ _) = Z
  refine hK Z ?_
  subst hZ
  clear hK K
  refine kAll_p (fun K hK => ?_)
  go_simp
  generalize hZ : (Act.mk _ _) = Z
  refine hK Z ?_
  subst hZ
  clear hK K
  refine kAll_p (fun K hK => ?_)
  go_simp
  generalize hZ : (Act.mk _ _) = Z
  refine hK Z ?_
  subst hZ
  clear hK K
  refine kAll_pw (by kernel_rfl) (fun K hK => ?_)
  go_simp
  generalize hZ : (Act.mk _ _) = Z
  refine hK Z ?_
  subst hZ
  clear hK K
  refine kAll_pw (by kernel_rfl) (fun K hK => ?_)
  go_simp
  generalize hZ : (Act.mk _ _) = Z
  refine hK Z ?_
  subst hZ
  clear hK K
  refine kAll_dn _ (fun W hW hF => kStep_w (by kernel_rfl) fun K Q hK => ?_) (fun K hK => ?_)
  · have h0 := F_21.out W (hW)
    have h1 := F_21.out W (hW)
    go_simp
    refine (cmpI_is 1 h0 h1 (by decide) HAA.out).mono ?_
    rintro e w' ⟨rfl, hk⟩
    exact hK _ _ hk rfl
  go_simp
  generalize hZ : (Act.mk _ _) = Z
  refine hK Z ?_
  subst hZ
  clear hK K
  refine kAll_pw (by kernel_rfl) (fun K hK => ?_)
  go_simp
  generalize hZ : (Act.mk _ _) = Z
  refine hK Z ?_
  subst hZ
  clear hK K
  refine kAll_p (fun K hK => ?_)
  go_simp
  generalize hZ : (Act.mk _ _) = Z
  refine hK Z ?_
  subst hZ
  clear hK K
  refine kAll_nil (fun W25 hW hF => ?_)
  clear hF
  have hk_26 : Keep (fun _ => False) _ W25 := hW
  have B_27 := Lib.hid (HT.out.keep hk_26 (fun h => h))
  have F_28 := Lib.hid (fun W h => F_21.out W (keep0_trans _ _ _ hk_26 h))
  have F_29 := Lib.hid (fun W h => F_22.out W (keep0_trans _ _ _ hk_26 h))
  have F_30 := Lib.hid (fun W h => F_23.out W (keep0_trans _ _ _ hk_26 h))
  have K_31 := Lib.hid (keep0_trans _ _ _ K_24.out hk_26)
  clear hk_26 HT F_21 F_22 F_23 K_24
  clear hW
  go_upto_region 8 with (fail)
  refine wp_region_kord (Keep (fun _ => False)) (Keep.refl _) keep0_trans 14 (Ts := [none, none, none, none, none, none, none, none, none, none, none, none, none, none]) ?_
  simp only [List.take, List.drop]
  refine kAll_p (fun K hK => ?_)
  go_simp
  generalize hZ : (Act.mk _ _) = Z
  refine hK Z ?_
  subst hZ
  clear hK K
  refine kAll_p (fun K hK => ?_)
  go_simp
  generalize hZ : (Act.mk _ _) = Z
  refine hK Z ?_
  subst hZ
  clear hK K
  refine kAll_p (fun K hK => ?_)
  go_simp
  generalize hZ : (Act.mk _ _) = Z
  refine hK Z ?_
  subst hZ
  clear hK K
  refine kAll_skip (by kernel_rfl) ?_
  refine kAll_skip (by kernel_rfl) ?_
  refine kAll_skip (by kernel_rfl) ?_
  refine kAll_skip (by kernel_rfl) ?_
  refine kAll_p (fun K hK => ?_)
  go_simp
  generalize hZ : (Act.mk _ _) = Z
  refine hK Z ?_
  subst hZ
  clear hK K
  refine kAll_p (fun K hK => ?_)
  go_simp
  generalize hZ : (Act.mk _ _) = Z
  refine hK Z ?_
  subst hZ
  clear hK K
  refine kAll_skip (by kernel_rfl) ?_
  refine kAll_skip (by kernel_rfl) ?_
  refine kAll_skip (by kernel_rfl) ?_
  refine kAll_skip (by kernel_rfl) ?_
  refine kAll_p (fun K hK => ?_)
  go_simp
  generalize hZ : (Act.mk _ _) = Z
  refine hK Z ?_
  subst hZ
  clear hK K
  refine kAll_nil (fun W32 hW hF => ?_)
  clear hF
  have hk_33 : Keep (fun _ => False) _ W32 := hW
  have F_34 := Lib.hid (fun W h => F_28.out W (keep0_trans _ _ _ hk_33 h))
  have F_35 := Lib.hid (fun W h => F_29.out W (keep0_trans _ _ _ hk_33 h))
  have F_36 := Lib.hid (fun W h => F_30.out W (keep0_trans _ _ _ hk_33 h))
  have K_37 := Lib.hid (keep0_trans _ _ _ K_31.out hk_33)
  clear hk_33 F_28 F_29 F_30 K_31
  clear hW
  go_upto_region 10 with (fail)
  refine wp_region_kord (Keep (fun _ => False)) (Keep.refl _) keep0_trans 6 (Ts := [none, none, some (.inr (fun v W => IsTB 300 W v (joinM l0 l1))), none, some (.inl (.int .u8 3)), none]) ?_
  simp only [List.take, List.drop]
  refine kAll_p (fun K hK => ?_)
  go_simp
  generalize hZ : (Act.mk _ _) = Z
  refine hK Z ?_
  subst hZ
  clear hK K
  refine kAll_p (fun K hK => ?_)
  go_simp
  generalize hZ : (Act.mk _ _) = Z
  refine hK Z ?_
  subst hZ
  clear hK K
  refine kAll_tn _ (fun v W W' hk h => h.keep0 hk) (fun W hW hF => kStep_of fun K Q hK => ?_) (fun u0 K hK => ?_)
  · have h0 := F_34.out W (hW)
    have h1 := F_35.out W (hW)
    go_simp
    refine (joinI_any h0 h1 (by decide)).mono ?_
    rintro e w' ⟨u, rfl, hu, hk⟩
    exact hK _ _ hk hu
  go_simp
  generalize hZ : (Act.mk _ _) = Z
  refine hK Z ?_
  subst hZ
  clear hK K
  refine kAll_p (fun K hK => ?_)
  go_simp
  generalize hZ : (Act.mk _ _) = Z
  refine hK Z ?_
  subst hZ
  clear hK K
  refine kAll_dn _ (fun W hW hF => kStep_of fun K Q hK => ?_) (fun K hK => ?_)
  · have h0 : (fun v W => IsTB 300 W v (joinM l0 l1)) u0 W := kHas_at hF 0 rfl (by kernel_rfl)
    have h1 := F_35.out W (hW)
    go_simp
    refine (cmpI_is 3 h0 h1 (by decide) HJ.out).mono ?_
    rintro e w' ⟨rfl, hk⟩
    exact hK _ _ hk rfl
  go_simp
  generalize hZ : (Act.mk _ _) = Z
  refine hK Z ?_
  subst hZ
  clear hK K
  refine kAll_p (fun K hK => ?_)
  go_simp
  generalize hZ : (Act.mk _ _) = Z
  refine hK Z ?_
  subst hZ
  clear hK K
  refine kAll_nil (fun W38 hW hF => ?_)
  clear hF
  have hk_39 : Keep (fun _ => False) _ W38 := hW
  have F_40 := Lib.hid (fun W h => F_34.out W (keep0_trans _ _ _ hk_39 h))
  have F_41 := Lib.hid (fun W h => F_35.out W (keep0_trans _ _ _ hk_39 h))
  have F_42 := Lib.hid (fun W h => F_36.out W (keep0_trans _ _ _ hk_39 h))
  have K_43 := Lib.hid (keep0_trans _ _ _ K_37.out hk_39)
  clear hk_39 F_34 F_35 F_36 K_37
  clear hW
  go_upto_region 11 with (fail)
  refine wp_region_kord (Keep (fun _ => False)) (Keep.refl _) keep0_trans 26 (Ts := [none, none, none, none, none, none, none, none, none, none, none, none, none, none, none, none, none, none, none, none, none, none, none, none, none, none]) ?_
  simp only [List.take, List.drop]
  refine kAll_p (fun K hK => ?_)
  go_simp
  generalize hZ : (Act.mk _ _) = Z
  refine hK Z ?_
  subst hZ
  clear hK K
  refine kAll_p (fun K hK => ?_)
  go_simp
  generalize hZ : (Act.mk _ _) = Z
  refine hK Z ?_
  subst hZ
  clear hK K
  refine kAll_p (fun K hK => ?_)
  go_simp
  generalize hZ : (Act.mk _ _) = Z
  refine hK Z ?_
  subst hZ
  clear hK K
  refine kAll_pw (by kernel_rfl) (fun K hK => ?_)
  go_simp
  generalize hZ : (Act.mk _ _) = Z
  refine hK Z ?_
  subst hZ
  clear hK K
  refine kAll_pw (by kernel_rfl) (fun K hK => ?_)
  go_simp
  generalize hZ : (Act.mk _ _) = Z
  refine hK Z ?_
  subst hZ
  clear hK K
  refine kAll_p (fun K hK => ?_)
  go_simp
  generalize hZ : (Act.mk _ _) = Z
  refine hK Z ?_
  subst hZ
  clear hK K
  refine kAll_p (fun K hK => ?_)
  go_simp
  generalize hZ : (Act.mk _ _) = Z
  refine hK Z ?_
  subst hZ
  clear hK K
  refine kAll_p (fun K hK => ?_)
  go_simp
  generalize hZ : (Act.mk _ _) = Z
  refine hK Z ?_
  subst hZ
  clear hK K
  refine kAll_p (fun K hK => ?_)
  go_simp
  generalize hZ : (Act.mk _ _) = Z
  refine hK Z ?_
  subst hZ
  clear hK K
  refine kAll_p (fun K hK => ?_)
  go_simp
  generalize hZ : (Act.mk _ _) = Z
  refine hK Z ?_
  subst hZ
  clear hK K
  refine kAll_pw (by kernel_rfl) (fun K hK => ?_)
  go_simp
  generalize hZ : (Act.mk _ _) = Z
  refine hK Z ?_
  subst hZ
  clear hK K
  refine kAll_pw (by kernel_rfl) (fun K hK => ?_)
  go_simp
  generalize hZ : (Act.mk _ _) = Z
  refine hK Z ?_
  subst hZ
  clear hK K
  refine kAll_pw (by kernel_rfl) (fun K hK => ?_)
  go_simp
  generalize hZ : (Act.mk _ _) = Z
  refine hK Z ?_
  subst hZ
  clear hK K
  refine kAll_skip (by kernel_rfl) ?_
  refine kAll_skip (by kernel_rfl) ?_
  refine kAll_skip (by kernel_rfl) ?_
  refine kAll_pw (by kernel_rfl) (fun K hK => ?_)
  go_simp
  generalize hZ : (Act.mk _ _) = Z
  refine hK Z ?_
  subst hZ
  clear hK K
  refine kAll_pw (by kernel_rfl) (fun K hK => ?_)
  go_simp
  generalize hZ : (Act.mk _ _) = Z
  refine hK Z ?_
  subst hZ
  clear hK K
  refine kAll_skip (by kernel_rfl) ?_
  refine kAll_skip (by kernel_rfl) ?_
  refine kAll_skip (by kernel_rfl) ?_
  refine kAll_skip (by kernel_rfl) ?_
  refine kAll_skip (by kernel_rfl) ?_
  refine kAll_pw (by kernel_rfl) (fun K hK => ?_)
  go_simp
  generalize hZ : (Act.mk _ _) = Z
  refine hK Z ?_
  subst hZ
  clear hK K
  refine kAll_p (fun K hK => ?_)
  go_simp
  generalize hZ : (Act.mk _ _) = Z
  refine hK Z ?_
  subst hZ
  clear hK K
  refine kAll_p (fun K hK => ?_)
  go_simp
  generalize hZ : (Act.mk _ _) = Z
  refine hK Z ?_
  subst hZ
  clear hK K
  refine kAll_nil (fun W44 hW hF => ?_)
  clear hF
  have hk_45 : Keep (fun _ => False) _ W44 := hW
  have F_46 := Lib.hid (fun W h => F_40.out W (keep0_trans _ _ _ hk_45 h))
  have F_47 := Lib.hid (fun W h => F_41.out W (keep0_trans _ _ _ hk_45 h))
  have F_48 := Lib.hid (fun W h => F_42.out W (keep0_trans _ _ _ hk_45 h))
  have K_49 := Lib.hid (keep0_trans _ _ _ K_43.out hk_45)
  clear hk_45 F_40 F_41 F_42 K_43
  clear hW
  go_wp2
  go_ret
  exact ⟨rfl, K_49.out⟩
set_option maxRecDepth 100000 in
set_option maxHeartbeats 4000000 in
theorem stands_2a (A0 A1 A2 : Option Addr) (n0 n1 n2 c0 c1 c2 : Nat) (l0 l1 l2 : List Tick) (w : World) (HBig : Hid ([n0, n1, n2].any (fun x => decide (150 < x)) = false)) (F0 : Hid (∀ W, Keep (fun _ => False) w W → IsTB 150 W (.slice A0 n0 c0) l0)) (F1 : Hid (∀ W, Keep (fun _ => False) w W → IsTB 150 W (.slice A1 n1 c1) l1)) (F2 : Hid (∀ W, Keep (fun _ => False) w W → IsTB 150 W (.slice A2 n2 c2) l2))
    (HX : Hid (cmpM l0 l1 = 2)) (HY : Hid (cmpM l1 l0 = 3)) (HAA : Hid (cmpM l0 l0 = 1)) (HJ : Hid (cmpM (joinM l0 l1) l1 = 1)) (HZ : Hid (cmpM l1 l2 = 2)) (HAC : Hid (cmpM l0 l2 = 2)) (HMb : Hid (mayT l1 = true)) (HJB : Hid (decide (joinM l0 l1 = l1) = true)) :
    Calls Try.prog 6 #[.slice A0 n0 c0, .slice A1 n1 c1, .slice A2 n2 c2] w (Tell (.bool true) w) := by
  have K0 := Lib.hid (Keep.refl (fun _ => False) w)
  go_enter Try.func6, Try.ntmps6
  go_upto_region 1 with (fail)
  refine wp_region_kord (Keep (fun _ => False)) (Keep.refl _) keep0_trans 9 (Ts := [some (.inl (.bool true)), none, none, none, none, none, some (.inr (fun v W => IsLg W v [n0, n1, n2])), some (.inl (.bool false)), none]) ?_
  simp only [List.take, List.drop]
  refine kAll_dn _ (fun W hW hF => kStep_of fun K Q hK => ?_) (fun K hK => ?_)
  · go_simp
    refine (works_any W).mono ?_
    rintro e w' ⟨rfl, hk⟩
    exact hK _ _ hk rfl
  go_simp
  generalize hZ : (Act.mk _ _) = Z
  refine hK Z ?_
  subst hZ
  clear hK K
  refine kAll_p (fun K hK => ?_)
  go_simp
  generalize hZ : (Act.mk _ _) = Z
  refine hK Z ?_
  subst hZ
  clear hK K
  refine kAll_p (fun K hK => ?_)
  go_simp
  generalize hZ : (Act.mk _ _) = Z
  refine hK Z ?_
  subst hZ
  clear hK K
  refine kAll_pw (by kernel_rfl) (fun K hK => ?_)
  go_simp
  generalize hZ : (Act.mk _ _) = Z
  refine hK Z ?_
  subst hZ
  clear hK K
  refine kAll_pw (by kernel_rfl) (fun K hK => ?_)
  go_simp
  generalize hZ : (Act.mk _ _) = Z
  refine hK Z ?_
  subst hZ
  clear hK K
  refine kAll_pw (by kernel_rfl) (fun K hK => ?_)
  go_simp
  generalize hZ : (Act.mk _ _) = Z
  refine hK Z ?_
  subst hZ
  clear hK K
  refine kAll_tn _ (fun v W W' hk h => h.keep0 hk) (fun W hW hF => kStep_w (by kernel_rfl) fun K Q hK => ?_) (fun u0 K hK => ?_)
  · go_simp
    exact hK _ _ ((Keep.refl _ _).alloc _) ⟨_, _, _, [(A0, n0, c0), (A1, n1, c1), (A2, n2, c2)], rfl, rfl, rfl, RdK.of_blk (Blk.new _ _ _) 3 1 rfl⟩
  go_simp
  generalize hZ : (Act.mk _ _) = Z
  refine hK Z ?_
  subst hZ
  clear hK K
  refine kAll_dn _ (fun W hW hF => kStep_w (by kernel_rfl) fun K Q hK => ?_) (fun K hK => ?_)
  · have h0 : (fun v W => IsLg W v [n0, n1, n2]) u0 W := kHas_at hF 0 rfl (by kernel_rfl)
    go_simp
    refine (large_is false h0 (by simp) HBig.out).mono ?_
    rintro e w' ⟨rfl, hk⟩
    exact hK _ _ hk rfl
  go_simp
  generalize hZ : (Act.mk _ _) = Z
  refine hK Z ?_
  subst hZ
  clear hK K
  refine kAll_p (fun K hK => ?_)
  go_simp
  generalize hZ : (Act.mk _ _) = Z
  refine hK Z ?_
  subst hZ
  clear hK K
  refine kAll_nil (fun W1 hW hF => ?_)
  clear hF
  have hk_2 : Keep (fun _ => False) _ W1 := hW
  have F_3 := Lib.hid (fun W h => F0.out W (keep0_trans _ _ _ hk_2 h))
  have F_4 := Lib.hid (fun W h => F1.out W (keep0_trans _ _ _ hk_2 h))
  have F_5 := Lib.hid (fun W h => F2.out W (keep0_trans _ _ _ hk_2 h))
  have K_6 := Lib.hid (keep0_trans _ _ _ K0.out hk_2)
  clear hk_2 F0 F1 F2 K0
  clear hW
  go_upto_region 3 with (fail)
  refine wp_region_kord (Keep (fun _ => False)) (Keep.refl _) keep0_trans 4 (Ts := [none, none, some (.inl (.int .u8 2)), none]) ?_
  simp only [List.take, List.drop]
  refine kAll_p (fun K hK => ?_)
  go_simp
  generalize hZ : (Act.mk _ _) = Z
  refine hK Z ?_
  subst hZ
  clear hK K
  refine kAll_p (fun K hK => ?_)
  go_simp
  generalize hZ : (Act.mk _ _) = Z
  refine hK Z ?_
  subst hZ
  clear hK K
  refine kAll_dn _ (fun W hW hF => kStep_of fun K Q hK => ?_) (fun K hK => ?_)
  · have h0 := F_3.out W (hW)
    have h1 := F_4.out W (hW)
    go_simp
    refine (cmpI_is 2 h0 h1 (by decide) HX.out).mono ?_
    rintro e w' ⟨rfl, hk⟩
    exact hK _ _ hk rfl
  go_simp
  generalize hZ : (Act.mk _ _) = Z
  refine hK Z ?_
  subst hZ
  clear hK K
  refine kAll_p (fun K hK => ?_)
  go_simp
  generalize hZ : (Act.mk _ _) = Z
  refine hK Z ?_
  subst hZ
  clear hK K
  refine kAll_nil (fun W7 hW hF => ?_)
  clear hF
  have hk_8 : Keep (fun _ => False) _ W7 := hW
  have F_9 := Lib.hid (fun W h => F_3.out W (keep0_trans _ _ _ hk_8 h))
  have F_10 := Lib.hid (fun W h => F_4.out W (keep0_trans _ _ _ hk_8 h))
  have F_11 := Lib.hid (fun W h => F_5.out W (keep0_trans _ _ _ hk_8 h))
  have K_12 := Lib.hid (keep0_trans _ _ _ K_6.out hk_8)
  clear hk_8 F_3 F_4 F_5 K_6
  clear hW
  go_upto_region 4 with (fail)
  refine wp_region_kord (Keep (fun _ => False)) (Keep.refl _) keep0_trans 4 (Ts := [none, none, some (.inl (.int .u8 3)), none]) ?_
  simp only [List.take, List.drop]
  refine kAll_p (fun K hK => ?_)
  go_simp
  generalize hZ : (Act.mk _ _) = Z
  refine hK Z ?_
  subst hZ
  clear hK K
  refine kAll_p (fun K hK => ?_)
  go_simp
  generalize hZ : (Act.mk _ _) = Z
  refine hK Z ?_
  subst hZ
  clear hK K
  refine kAll_dn _ (fun W hW hF => kStep_of fun K Q hK => ?_) (fun K hK => ?_)
  · have h0 := F_10.out W (hW)
    have h1 := F_9.out W (hW)
    go_simp
    refine (cmpI_is 3 h0 h1 (by decide) HY.out).mono ?_
    rintro e w' ⟨rfl, hk⟩
    exact hK _ _ hk rfl
  go_simp
  generalize hZ : (Act.mk _ _) = Z
  refine hK Z ?_
  subst hZ
  clear hK K
  refine kAll_p (fun K hK => ?_)
  go_simp
  generalize hZ : (Act.mk _ _) = Z
  refine hK Z ?_
  subst hZ
  clear hK K
  refine kAll_nil (fun W13 hW hF => ?_)
  clear hF
  have hk_14 : Keep (fun _ => False) _ W13 := hW
  have F_15 := Lib.hid (fun W h => F_9.out W (keep0_trans _ _ _ hk_14 h))
  have F_16 := Lib.hid (fun W h => F_10.out W (keep0_trans _ _ _ hk_14 h))
  have F_17 := Lib.hid (fun W h => F_11.out W (keep0_trans _ _ _ hk_14 h))
  have K_18 := Lib.hid (keep0_trans _ _ _ K_12.out hk_14)
  clear hk_14 F_9 F_10 F_11 K_12
  clear hW
  go_upto_region 5 with (fail)
  refine wp_region_kord (Keep (fun _ => False)) (Keep.refl _) keep0_trans 2 (Ts := [some (.inr (fun v W => ∃ g, v = .slice (some ⟨g, 0, none⟩) 5 5 ∧ Blk W g 5 #[.int .u8 0, .int .u8 1, .int .u8 3, .int .u8 2, .int .u8 4])), none]) ?_
  simp only [List.take, List.drop]
  refine kAll_tn _ (fun v W W' (hk : Keep (fun _ => False) W W') ⟨g, e, hb⟩ => ⟨g, e, Blk.keep hb hk (fun h => h)⟩) (fun W hW hF => kStep_of fun K Q hK => ?_) (fun u0 K hK => ?_)
  · go_simp
    exact hK _ _ ((Keep.refl _ _).alloc _) ⟨_, rfl, Blk.new _ _ _⟩
  go_simp
  generalize hZ : (Act.mk _ _) = Z
  refine hK Z ?_
  subst hZ
  clear hK K
  refine kAll_p (fun K hK => ?_)
  go_simp
  generalize hZ : (Act.mk _ _) = Z
  refine hK Z ?_
  subst hZ
  clear hK K
  refine kAll_nil (fun W19 hW hF => ?_)
  have ht : (fun v W => ∃ g, v = .slice (some ⟨g, 0, none⟩) 5 5 ∧ Blk W g 5 #[.int .u8 0, .int .u8 1, .int .u8 3, .int .u8 2, .int .u8 4]) u0 W19 := kAllHas_at hF 0 rfl
  obtain ⟨g, rfl, hg⟩ := ht
  have HT := Lib.hid hg
  clear hg
  clear hF
  have hk_20 : Keep (fun _ => False) _ W19 := hW
  have F_21 := Lib.hid (fun W h => F_15.out W (keep0_trans _ _ _ hk_20 h))
  have F_22 := Lib.hid (fun W h => F_16.out W (keep0_trans _ _ _ hk_20 h))
  have F_23 := Lib.hid (fun W h => F_17.out W (keep0_trans _ _ _ hk_20 h))
  have K_24 := Lib.hid (keep0_trans _ _ _ K_18.out hk_20)
  clear hk_20 F_15 F_16 F_17 K_18
  clear hW
  go_upto_region 6 with (fail)
  refine wp_region_kord (Keep (fun _ => False)) (Keep.refl _) keep0_trans 20 (Ts := [none, none, none, none, none, none, none, none, none, none, none, some (.inl (.int .u8 3)), none, none, none, none, none, some (.inl (.int .u8 1)), none, none]) ?_
  simp only [List.take, List.drop]
  refine kAll_p (fun K hK => ?_)
  go_simp
  generalize hZ : (Act.mk _ _) = Z
  refine hK Z ?_
  subst hZ
  clear hK K
  refine kAll_p (fun K hK => ?_)
  go_simp
  generalize hZ : (Act.mk _ _) = Z
  refine hK Z ?_
  subst hZ
  clear hK K
  refine kAll_p (fun K hK => ?_)
  go_simp
  generalize hZ : (Act.mk _ _) = Z
  refine hK Z ?_
  subst hZ
  clear hK K
  refine kAll_pw (by kernel_rfl) (fun K hK => ?_)
  go_simp
  generalize hZ : (Act.mk _ _) = Z
  refine hK Z ?_
  subst hZ
  clear hK K
  refine kAll_pw (by kernel_rfl) (fun K hK => ?_)
  go_simp
  generalize hZ : (Act.mk _ _) = Z
  refine hK Z ?_
  subst hZ
  clear hK K
  refine kAll_p (fun K hK => ?_)
  go_simp
  generalize hZ : (Act.mk _ _) = Z
  refine hK Z ?_
  subst hZ
  clear hK K
  refine kAll_p (fun K hK => ?_)
  go_simp
  generalize hZ : (Act.mk _ _) = Z
  refine hK Z ?_
  subst hZ
  clear hK K
  refine kAll_pw (by kernel_rfl) (fun K hK => ?_)
  go_simp
  generalize hZ : (Act.mk _ _) = Z
  refine hK Z ?_
  subst hZ
  clear hK K
  refine kAll_pw (by kernel_rfl) (fun K hK => ?_)
  go_simp
  generalize hZ : (Act.mk _ _) = Z
  refine hK Z ?_
  subst hZ
  clear hK K
  refine kAll_pw (by kernel_rfl) (fun K hK => ?_)
  go_simp
  generalize hZ : (Act.mk _ _) = Z
  refine hK Z ?_
  subst hZ
  clear hK K
  refine kAll_pw (by kernel_rfl) (fun K hK => ?_)
  go_simp
  generalize hZ : (Act.mk _ _) = Z
  refine hK Z ?_
  subst hZ
  clear hK K
  refine kAll_dn _ (fun W hW hF => kStep_w (by kernel_rfl) fun K Q hK => ?_) (fun K hK => ?_)
  · have e0 := (HT.out.keep hW (fun h => h)).cell 0
    have e1 := (HT.out.keep hW (fun h => h)).cell 1
    have e2 := (HT.out.keep hW (fun h => h)).cell 2
    have e3 := (HT.out.keep hW (fun h => h)).cell 3
    have e4 := (HT.out.keep hW (fun h => h)).cell 4
    simp at e0 e1 e2 e3 e4
    go_simp
    exact hK _ _ (Keep.refl _ _) rfl
  go_simp
  generalize hZ : (Act.mk _ _) = Z
  refine hK Z ?_
  subst hZ
  clear hK K
  refine kAll_pw (by kernel_rfl) (fun K hK => ?_)
  go_simp
  generalize hZ : (Act.mk _ _) = Z
  refine hK Z ?_
  subst hZ
  clear hK K
  refine kAll_p (fun K hK => ?_)
  go_simp
  generalize hZ : (Act.mk _ _) = Z
  refine hK Z ?_
  subst hZ
  clear hK K
  refine kAll_p (fun K hK => ?_)
  go_simp
  generalize hZ : (Act.mk _ _) = Z
  refine hK Z ?_
  subst hZ
  clear hK K
  refine kAll_pw (by kernel_rfl) (fun K hK => ?_)
  go_simp
  generalize hZ : (Act.mk _ _) = Z
  refine hK Z ?_
  subst hZ
  clear hK K
  refine kAll_pw (by kernel_rfl) (fun K hK => ?_)
  go_simp
  generalize hZ : (Act.mk _ _) = Z
  refine hK Z ?_
  subst hZ
  clear hK K
  refine kAll_dn _ (fun W hW hF => kStep_w (by kernel_rfl) fun K Q hK => ?_) (fun K hK => ?_)
  · have h0 := F_21.out W (hW)
    have h1 := F_21.out W (hW)
    go_simp
    refine (cmpI_is 1 h0 h1 (by decide) HAA.out).mono ?_
    rintro e w' ⟨rfl, hk⟩
    exact hK _ _ hk rfl
  go_simp
  generalize hZ : (Act.mk _ _) = Z
  refine hK Z ?_
  subst hZ
  clear hK K
  refine kAll_pw (by kernel_rfl) (fun K hK => ?_)
  go_simp
  generalize hZ : (Act.mk _ _) = Z
  refine hK Z ?_
  subst hZ
  clear hK K
  refine kAll_p (fun K hK => ?_)
  go_simp
  generalize hZ : (Act.mk _ _) = Z
  refine hK Z ?_
  subst hZ
  clear hK K
  refine kAll_nil (fun W25 hW hF => ?_)
  clear hF
  have hk_26 : Keep (fun _ => False) _ W25 := hW
  have B_27 := Lib.hid (HT.out.keep hk_26 (fun h => h))
  have F_28 := Lib.hid (fun W h => F_21.out W (keep0_trans _ _ _ hk_26 h))
  have F_29 := Lib.hid (fun W h => F_22.out W (keep0_trans _ _ _ hk_26 h))
  have F_30 := Lib.hid (fun W h => F_23.out W (keep0_trans _ _ _ hk_26 h))
  have K_31 := Lib.hid (keep0_trans _ _ _ K_24.out hk_26)
  clear hk_26 HT F_21 F_22 F_23 K_24
  clear hW
  go_upto_region 8 with (fail)
  refine wp_region_kord (Keep (fun _ => False)) (Keep.refl _) keep0_trans 14 (Ts := [none, none, none, none, none, some (.inl (.int .u8 2)), none, none, none, none, none, some (.inl (.int .u8 2)), none, none]) ?_
  simp only [List.take, List.drop]
  refine kAll_p (fun K hK => ?_)
  go_simp
  generalize hZ : (Act.mk _ _) = Z
  refine hK Z ?_
  subst hZ
  clear hK K
  refine kAll_p (fun K hK => ?_)
  go_simp
  generalize hZ : (Act.mk _ _) = Z
  refine hK Z ?_
  subst hZ
  clear hK K
  refine kAll_p (fun K hK => ?_)
  go_simp
  generalize hZ : (Act.mk _ _) = Z
  refine hK Z ?_
  subst hZ
  clear hK K
  refine kAll_pw (by kernel_rfl) (fun K hK => ?_)
  go_simp
  generalize hZ : (Act.mk _ _) = Z
  refine hK Z ?_
  subst hZ
  clear hK K
  refine kAll_pw (by kernel_rfl) (fun K hK => ?_)
  go_simp
  generalize hZ : (Act.mk _ _) = Z
  refine hK Z ?_
  subst hZ
  clear hK K
  refine kAll_dn _ (fun W hW hF => kStep_w (by kernel_rfl) fun K Q hK => ?_) (fun K hK => ?_)
  · have h0 := F_29.out W (hW)
    have h1 := F_30.out W (hW)
    go_simp
    refine (cmpI_is 2 h0 h1 (by decide) HZ.out).mono ?_
    rintro e w' ⟨rfl, hk⟩
    exact hK _ _ hk rfl
  go_simp
  generalize hZ : (Act.mk _ _) = Z
  refine hK Z ?_
  subst hZ
  clear hK K
  refine kAll_pw (by kernel_rfl) (fun K hK => ?_)
  go_simp
  generalize hZ : (Act.mk _ _) = Z
  refine hK Z ?_
  subst hZ
  clear hK K
  refine kAll_p (fun K hK => ?_)
  go_simp
  generalize hZ : (Act.mk _ _) = Z
  refine hK Z ?_
  subst hZ
  clear hK K
  refine kAll_p (fun K hK => ?_)
  go_simp
  generalize hZ : (Act.mk _ _) = Z
  refine hK Z ?_
  subst hZ
  clear hK K
  refine kAll_pw (by kernel_rfl) (fun K hK => ?_)
  go_simp
  generalize hZ : (Act.mk _ _) = Z
  refine hK Z ?_
  subst hZ
  clear hK K
  refine kAll_pw (by kernel_rfl) (fun K hK => ?_)
  go_simp
  generalize hZ : (Act.mk _ _) = Z
  refine hK Z ?_
  subst hZ
  clear hK K
  refine kAll_dn _ (fun W hW hF => kStep_w (by kernel_rfl) fun K Q hK => ?_) (fun K hK => ?_)
  · have h0 := F_28.out W (hW)
    have h1 := F_30.out W (hW)
    go_simp
    refine (cmpI_is 2 h0 h1 (by decide) HAC.out).mono ?_
    rintro e w' ⟨rfl, hk⟩
    exact hK _ _ hk rfl
  go_simp
  generalize hZ : (Act.mk _ _) = Z
  refine hK Z ?_
  subst hZ
  clear hK K
  refine kAll_pw (by kernel_rfl) (fun K hK => ?_)
  go_simp
  generalize hZ : (Act.mk _ _) = Z
  refine hK Z ?_
  subst hZ
  clear hK K
  refine kAll_p (fun K hK => ?_)
  go_simp
  generalize hZ : (Act.mk _ _) = Z
  refine hK Z ?_
  subst hZ
  clear hK K
  refine kAll_nil (fun W32 hW hF => ?_)
  clear hF
  have hk_33 : Keep (fun _ => False) _ W32 := hW
  have F_34 := Lib.hid (fun W h => F_28.out W (keep0_trans _ _ _ hk_33 h))
  have F_35 := Lib.hid (fun W h => F_29.out W (keep0_trans _ _ _ hk_33 h))
  have F_36 := Lib.hid (fun W h => F_30.out W (keep0_trans _ _ _ hk_33 h))
  have K_37 := Lib.hid (keep0_trans _ _ _ K_31.out hk_33)
  clear hk_33 F_28 F_29 F_30 K_31
  clear hW
  go_upto_region 10 with (fail)
  refine wp_region_kord (Keep (fun _ => False)) (Keep.refl _) keep0_trans 6 (Ts := [none, none, some (.inr (fun v W => IsTB 300 W v (joinM l0 l1))), none, some (.inl (.int .u8 1)), none]) ?_
  simp only [List.take, List.drop]
  refine kAll_p (fun K hK => ?_)
  go_simp
  generalize hZ : (Act.mk _ _) = Z
  refine hK Z ?_
  subst hZ
  clear hK K
  refine kAll_p (fun K hK => ?_)
  go_simp
  generalize hZ : (Act.mk _ _) = Z
  refine hK Z ?_
  subst hZ
  clear hK K
  refine kAll_tn _ (fun v W W' hk h => h.keep0 hk) (fun W hW hF => kStep_of fun K Q hK => ?_) (fun u0 K hK => ?_)
  · have h0 := F_34.out W (hW)
    have h1 := F_35.out W (hW)
    go_simp
    refine (joinI_any h0 h1 (by decide)).mono ?_
    rintro e w' ⟨u, rfl, hu, hk⟩
    exact hK _ _ hk hu
  go_simp
  generalize hZ : (Act.mk _ _) = Z
  refine hK Z ?_
  subst hZ
  clear hK K
  refine kAll_p (fun K hK => ?_)
  go_simp
  generalize hZ : (Act.mk _ _) = Z
  refine hK Z ?_
  subst hZ
  clear hK K
  refine kAll_dn _ (fun W hW hF => kStep_of fun K Q hK => ?_) (fun K hK => ?_)
  · have h0 : (fun v W => IsTB 300 W v (joinM l0 l1)) u0 W := kHas_at hF 0 rfl (by kernel_rfl)
    have h1 := F_35.out W (hW)
    go_simp
    refine (cmpI_is 1 h0 h1 (by decide) HJ.out).mono ?_
    rintro e w' ⟨rfl, hk⟩
    exact hK _ _ hk rfl
  go_simp
  generalize hZ : (Act.mk _ _) = Z
  refine hK Z ?_
  subst hZ
  clear hK K
  refine kAll_p (fun K hK => ?_)
  go_simp
  generalize hZ : (Act.mk _ _) = Z
  refine hK Z ?_
  subst hZ
  clear hK K
  refine kAll_nil (fun W38 hW hF => ?_)
  clear hF
  have hk_39 : Keep (fun _ => False) _ W38 := hW
  have F_40 := Lib.hid (fun W h => F_34.out W (keep0_trans _ _ _ hk_39 h))
  have F_41 := Lib.hid (fun W h => F_35.out W (keep0_trans _ _ _ hk_39 h))
  have F_42 := Lib.hid (fun W h => F_36.out W (keep0_trans _ _ _ hk_39 h))
  have K_43 := Lib.hid (keep0_trans _ _ _ K_37.out hk_39)
  clear hk_39 F_34 F_35 F_36 K_37
  clear hW
  go_upto_region 11 with (fail)
  refine wp_region_kord (Keep (fun _ => False)) (Keep.refl _) keep0_trans 26 (Ts := [none, none, none, none, none, none, none, none, none, none, none, none, none, none, some (.inl (.bool true)), none, none, none, none, none, some (.inr (fun v W => IsTB 300 W v (joinM l0 l1))), none, some (.inl (.bool true)), none, none, none]) ?_
  simp only [List.take, List.drop]
  refine kAll_p (fun K hK => ?_)
  go_simp
  generalize hZ : (Act.mk _ _) = Z
  refine hK Z ?_
  subst hZ
  clear hK K
  refine kAll_p (fun K hK => ?_)
  go_simp
  generalize hZ : (Act.mk _ _) = Z
  refine hK Z ?_
  subst hZ
  clear hK K
  refine kAll_p (fun K hK => ?_)
  go_simp
  generalize hZ : (Act.mk _ _) = Z
  refine hK Z ?_
  subst hZ
  clear hK K
  refine kAll_skip (by kernel_rfl) ?_
  refine kAll_skip (by kernel_rfl) ?_
  refine kAll_p (fun K hK => ?_)
  go_simp
  generalize hZ : (Act.mk _ _) = Z
  refine hK Z ?_
  subst hZ
  clear hK K
  refine kAll_p (fun K hK => ?_)
  go_simp
  generalize hZ : (Act.mk _ _) = Z
  refine hK Z ?_
  subst hZ
  clear hK K
  refine kAll_p (fun K hK => ?_)
  go_simp
  generalize hZ : (Act.mk _ _) = Z
  refine hK Z ?_
  subst hZ
  clear hK K
  refine kAll_p (fun K hK => ?_)
  go_simp
  generalize hZ : (Act.mk _ _) = Z
  refine hK Z ?_
  subst hZ
  clear hK K
  refine kAll_p (fun K hK => ?_)
  go_simp
  generalize hZ : (Act.mk _ _) = Z
  refine hK Z ?_
  subst hZ
  clear hK K
  refine kAll_pw (by kernel_rfl) (fun K hK => ?_)
  go_simp
  generalize hZ : (Act.mk _ _) = Z
  refine hK Z ?_
  subst hZ
  clear hK K
  refine kAll_pw (by kernel_rfl) (fun K hK => ?_)
  go_simp
  generalize hZ : (Act.mk _ _) = Z
  refine hK Z ?_
  subst hZ
  clear hK K
  refine kAll_pw (by kernel_rfl) (fun K hK => ?_)
  go_simp
  generalize hZ : (Act.mk _ _) = Z
  refine hK Z ?_
  subst hZ
  clear hK K
  refine kAll_pw (by kernel_rfl) (fun K hK => ?_)
  go_simp
  generalize hZ : (Act.mk _ _) = Z
  refine hK Z ?_
  subst hZ
  clear hK K
  refine kAll_dn _ (fun W hW hF => kStep_w (by kernel_rfl) fun K Q hK => ?_) (fun K hK => ?_)
  · have h0 := F_41.out W (hW)
    go_simp
    refine (mayI_is true h0 (by decide) HMb.out).mono ?_
    rintro e w' ⟨rfl, hk⟩
    exact hK _ _ hk rfl
  go_simp
  generalize hZ : (Act.mk _ _) = Z
  refine hK Z ?_
  subst hZ
  clear hK K
  refine kAll_pw (by kernel_rfl) (fun K hK => ?_)
  go_simp
  generalize hZ : (Act.mk _ _) = Z
  refine hK Z ?_
  subst hZ
  clear hK K
  refine kAll_pw (by kernel_rfl) (fun K hK => ?_)
  go_simp
  generalize hZ : (Act.mk _ _) = Z
  refine hK Z ?_
  subst hZ
  clear hK K
  refine kAll_pw (by kernel_rfl) (fun K hK => ?_)
  go_simp
  generalize hZ : (Act.mk _ _) = Z
  refine hK Z ?_
  subst hZ
  clear hK K
  refine kAll_pw (by kernel_rfl) (fun K hK => ?_)
  go_simp
  generalize hZ : (Act.mk _ _) = Z
  refine hK Z ?_
  subst hZ
  clear hK K
  refine kAll_pw (by kernel_rfl) (fun K hK => ?_)
  go_simp
  generalize hZ : (Act.mk _ _) = Z
  refine hK Z ?_
  subst hZ
  clear hK K
  refine kAll_tn _ (fun v W W' hk h => h.keep0 hk) (fun W hW hF => kStep_w (by kernel_rfl) fun K Q hK => ?_) (fun u0 K hK => ?_)
  · have h0 := F_40.out W (hW)
    have h1 := F_41.out W (hW)
    go_simp
    refine (joinI_any h0 h1 (by decide)).mono ?_
    rintro e w' ⟨u, rfl, hu, hk⟩
    exact hK _ _ hk hu
  go_simp
  generalize hZ : (Act.mk _ _) = Z
  refine hK Z ?_
  subst hZ
  clear hK K
  refine kAll_pw (by kernel_rfl) (fun K hK => ?_)
  go_simp
  generalize hZ : (Act.mk _ _) = Z
  refine hK Z ?_
  subst hZ
  clear hK K
  refine kAll_dn _ (fun W hW hF => kStep_w (by kernel_rfl) fun K Q hK => ?_) (fun K hK => ?_)
  · have h0 : (fun v W => IsTB 300 W v (joinM l0 l1)) u0 W := kHas_at hF 0 rfl (by kernel_rfl)
    have h1 := F_41.out W (hW)
    go_simp
    refine (sameI_is true h0 h1 (by decide) HJB.out).mono ?_
    rintro e w' ⟨rfl, hk⟩
    exact hK _ _ hk rfl
  go_simp
  generalize hZ : (Act.mk _ _) = Z
  refine hK Z ?_
  subst hZ
  clear hK K
  refine kAll_pw (by kernel_rfl) (fun K hK => ?_)
  go_simp
  generalize hZ : (Act.mk _ _) = Z
  refine hK Z ?_
  subst hZ
  clear hK K
  refine kAll_p (fun K hK => ?_)
  go_simp
  generalize hZ : (Act.mk _ _) = Z
  refine hK Z ?_
  subst hZ
  clear hK K
  refine kAll_p (fun K hK => ?_)
  go_simp
  generalize hZ : (Act.mk _ _) = Z
  refine hK Z ?_
  subst hZ
  clear hK K
  refine kAll_nil (fun W44 hW hF => ?_)
  clear hF
  have hk_45 : Keep (fun _ => False) _ W44 := hW
  have F_46 := Lib.hid (fun W h => F_40.out W (keep0_trans _ _ _ hk_45 h))
  have F_47 := Lib.hid (fun W h => F_41.out W (keep0_trans _ _ _ hk_45 h))
  have F_48 := Lib.hid (fun W h => F_42.out W (keep0_trans _ _ _ hk_45 h))
  have K_49 := Lib.hid (keep0_trans _ _ _ K_43.out hk_45)
  clear hk_45 F_40 F_41 F_42 K_43
  clear hW
  go_wp2
  go_ret
  exact ⟨rfl, K_49.out⟩
set_option maxRecDepth 100000 in
set_option maxHeartbeats 4000000 in
theorem stands_2b (A0 A1 A2 : Option Addr) (n0 n1 n2 c0 c1 c2 : Nat) (l0 l1 l2 : List Tick) (w : World) (HBig : Hid ([n0, n1, n2].any (fun x => decide (150 < x)) = false)) (F0 : Hid (∀ W, Keep (fun _ => False) w W → IsTB 150 W (.slice A0 n0 c0) l0)) (F1 : Hid (∀ W, Keep (fun _ => False) w W → IsTB 150 W (.slice A1 n1 c1) l1)) (F2 : Hid (∀ W, Keep (fun _ => False) w W → IsTB 150 W (.slice A2 n2 c2) l2))
    (HX : Hid (cmpM l0 l1 = 2)) (HY : Hid (cmpM l1 l0 = 3)) (HAA : Hid (cmpM l0 l0 = 1)) (HJ : Hid (cmpM (joinM l0 l1) l1 = 1)) (HZ : Hid (cmpM l1 l2 = 2)) (HAC : Hid (cmpM l0 l2 = 2)) (HMb : Hid (mayT l1 = false)) :
    Calls Try.prog 6 #[.slice A0 n0 c0, .slice A1 n1 c1, .slice A2 n2 c2] w (Tell (.bool true) w) := by
  have K0 := Lib.hid (Keep.refl (fun _ => False) w)
  go_enter Try.func6, Try.ntmps6
  go_upto_region 1 with (fail)
  refine wp_region_kord (Keep (fun _ => False)) (Keep.refl _) keep0_trans 9 (Ts := [some (.inl (.bool true)), none, none, none, none, none, some (.inr (fun v W => IsLg W v [n0, n1, n2])), some (.inl (.bool false)), none]) ?_
  simp only [List.take, List.drop]
  refine kAll_dn _ (fun W hW hF => kStep_of fun K Q hK => ?_) (fun K hK => ?_)
  · go_simp
    refine (works_any W).mono ?_
    rintro e w' ⟨rfl, hk⟩
    exact hK _ _ hk rfl
  go_simp
  generalize hZ : (Act.mk _ _) = Z
  refine hK Z ?_
  subst hZ
  clear hK K
  refine kAll_p (fun K hK => ?_)
  go_simp
  generalize hZ : (Act.mk _ _) = Z
  refine hK Z ?_
  subst hZ
  clear hK K
  refine kAll_p (fun K hK => ?_)
  go_simp
  generalize hZ : (Act.mk _ _) = Z
  refine hK Z ?_
  subst hZ
  clear hK K
  refine kAll_pw (by kernel_rfl) (fun K hK => ?_)
  go_simp
  generalize hZ : (Act.mk _ _) = Z
  refine hK Z ?_
  subst hZ
  clear hK K
  refine kAll_pw (by kernel_rfl) (fun K hK => ?_)
  go_simp
  generalize hZ : (Act.mk _ _) = Z
  refine hK Z ?_
  subst hZ
  clear hK K
  refine kAll_pw (by kernel_rfl) (fun K hK => ?_)
  go_simp
  generalize hZ : (Act.mk _ _) = Z
  refine hK Z ?_
  subst hZ
  clear hK K
  refine kAll_tn _ (fun v W W' hk h => h.keep0 hk) (fun W hW hF => kStep_w (by kernel_rfl) fun K Q hK => ?_) (fun u0 K hK => ?_)
  · go_simp
    exact hK _ _ ((Keep.refl _ _).alloc _) ⟨_, _, _, [(A0, n0, c0), (A1, n1, c1), (A2, n2, c2)], rfl, rfl, rfl, RdK.of_blk (Blk.new _ _ _) 3 1 rfl⟩
  go_simp
  generalize hZ : (Act.mk _ _) = Z
  refine hK Z ?_
  subst hZ
  clear hK K
  refine kAll_dn _ (fun W hW hF => kStep_w (by kernel_rfl) fun K Q hK => ?_) (fun K hK => ?_)
  · have h0 : (fun v W => IsLg W v [n0, n1, n2]) u0 W := kHas_at hF 0 rfl (by kernel_rfl)
    go_simp
    refine (large_is false h0 (by simp) HBig.out).mono ?_
    rintro e w' ⟨rfl, hk⟩
    exact hK _ _ hk rfl
  go_simp
  generalize hZ : (Act.mk _ _) = Z
  refine hK Z ?_
  subst hZ
  clear hK K
  refine kAll_p (fun K hK => ?_)
  go_simp
  generalize hZ : (Act.mk _ _) = Z
  refine hK Z ?_
  subst hZ
  clear hK K
  refine kAll_nil (fun W1 hW hF => ?_)
  clear hF
  have hk_2 : Keep (fun _ => False) _ W1 := hW
  have F_3 := Lib.hid (fun W h => F0.out W (keep0_trans _ _ _ hk_2 h))
  have F_4 := Lib.hid (fun W h => F1.out W (keep0_trans _ _ _ hk_2 h))
  have F_5 := Lib.hid (fun W h => F2.out W (keep0_trans _ _ _ hk_2 h))
  have K_6 := Lib.hid (keep0_trans _ _ _ K0.out hk_2)
  clear hk_2 F0 F1 F2 K0
  clear hW
  go_upto_region 3 with (fail)
  refine wp_region_kord (Keep (fun _ => False)) (Keep.refl _) keep0_trans 4 (Ts := [none, none, some (.inl (.int .u8 2)), none]) ?_
  simp only [List.take, List.drop]
  refine kAll_p (fun K hK => ?_)
  go_simp
  generalize hZ : (Act.mk _ _) = Z
  refine hK Z ?_
  subst hZ
  clear hK K
  refine kAll_p (fun K hK => ?_)
  go_simp
  generalize hZ : (Act.mk _ _) = Z
  refine hK Z ?_
  subst hZ
  clear hK K
  refine kAll_dn _ (fun W hW hF => kStep_of fun K Q hK => ?_) (fun K hK => ?_)
  · have h0 := F_3.out W (hW)
    have h1 := F_4.out W (hW)
    go_simp
    refine (cmpI_is 2 h0 h1 (by decide) HX.out).mono ?_
    rintro e w' ⟨rfl, hk⟩
    exact hK _ _ hk rfl
  go_simp
  generalize hZ : (Act.mk _ _) = Z
  refine hK Z ?_
  subst hZ
  clear hK K
  refine kAll_p (fun K hK => ?_)
  go_simp
  generalize hZ : (Act.mk _ _) = Z
  refine hK Z ?_
  subst hZ
  clear hK K
  refine kAll_nil (fun W7 hW hF => ?_)
  clear hF
  have hk_8 : Keep (fun _ => False) _ W7 := hW
  have F_9 := Lib.hid (fun W h => F_3.out W (keep0_trans _ _ _ hk_8 h))
  have F_10 := Lib.hid (fun W h => F_4.out W (keep0_trans _ _ _ hk_8 h))
  have F_11 := Lib.hid (fun W h => F_5.out W (keep0_trans _ _ _ hk_8 h))
  have K_12 := Lib.hid (keep0_trans _ _ _ K_6.out hk_8)
  clear hk_8 F_3 F_4 F_5 K_6
  clear hW
  go_upto_region 4 with (fail)
  refine wp_region_kord (Keep (fun _ => False)) (Keep.refl _) keep0_trans 4 (Ts := [none, none, some (.inl (.int .u8 3)), none]) ?_
  simp only [List.take, List.drop]
  refine kAll_p (fun K hK => ?_)
  go_simp
  generalize hZ : (Act.mk _ _) = Z
  refine hK Z ?_
  subst hZ
  clear hK K
  refine kAll_p (fun K hK => ?_)
  go_simp
  generalize hZ : (Act.mk _ _) = Z
  refine hK Z ?_
  subst hZ
  clear hK K
  refine kAll_dn _ (fun W hW hF => kStep_of fun K Q hK => ?_) (fun K hK => ?_)
  · have h0 := F_10.out W (hW)
    have h1 := F_9.out W (hW)
    go_simp
    refine (cmpI_is 3 h0 h1 (by decide) HY.out).mono ?_
    rintro e w' ⟨rfl, hk⟩
    exact hK _ _ hk rfl
  go_simp
  generalize hZ : (Act.mk _ _) = Z
  refine hK Z ?_
  subst hZ
  clear hK K
  refine kAll_p (fun K hK => ?_)
  go_simp
  generalize hZ : (Act.mk _ _) = Z
  refine hK Z ?_
  subst hZ
  clear hK K
  refine kAll_nil (fun W13 hW hF => ?_)
  clear hF
  have hk_14 : Keep (fun _ => False) _ W13 := hW
  have F_15 := Lib.hid (fun W h => F_9.out W (keep0_trans _ _ _ hk_14 h))
  have F_16 := Lib.hid (fun W h => F_10.out W (keep0_trans _ _ _ hk_14 h))
  have F_17 := Lib.hid (fun W h => F_11.out W (keep0_trans _ _ _ hk_14 h))
  have K_18 := Lib.hid (keep0_trans _ _ _ K_12.out hk_14)
  clear hk_14 F_9 F_10 F_11 K_12
  clear hW
  go_upto_region 5 with (fail)
  refine wp_region_kord (Keep (fun _ => False)) (Keep.refl _) keep0_trans 2 (Ts := [some (.inr (fun v W => ∃ g, v = .slice (some ⟨g, 0, none⟩) 5 5 ∧ Blk W g 5 #[.int .u8 0, .int .u8 1, .int .u8 3, .int .u8 2, .int .u8 4])), none]) ?_
  simp only [List.take, List.drop]
  refine kAll_tn _ (fun v W W' (hk : Keep (fun _ => False) W W') ⟨g, e, hb⟩ => ⟨g, e, Blk.keep hb hk (fun h => h)⟩) (fun W hW hF => kStep_of fun K Q hK => ?_) (fun u0 K hK => ?_)
  · go_simp
    exact hK _ _ ((Keep.refl _ _).alloc _) ⟨_, rfl, Blk.new _ _ _⟩
  go_simp
  generalize hZ : (Act.mk _ _) = Z
  refine hK Z ?_
  subst hZ
  clear hK K
  refine kAll_p (fun K hK => ?_)
  go_simp
  generalize hZ : (Act.mk _ _) = Z
  refine hK Z ?_
  subst hZ
  clear hK K
  refine kAll_nil (fun W19 hW hF => ?_)
  have ht : (fun v W => ∃ g, v = .slice (some ⟨g, 0, none⟩) 5 5 ∧ Blk W g 5 #[.int .u8 0, .int .u8 1, .int .u8 3, .int .u8 2, .int .u8 4]) u0 W19 := kAllHas_at hF 0 rfl
  obtain ⟨g, rfl, hg⟩ := ht
  have HT := Lib.hid hg
  clear hg
  clear hF
  have hk_20 : Keep (fun _ => False) _ W19 := hW
  have F_21 := Lib.hid (fun W h => F_15.out W (keep0_trans _ _ _ hk_20 h))
  have F_22 := Lib.hid (fun W h => F_16.out W (keep0_trans _ _ _ hk_20 h))
  have F_23 := Lib.hid (fun W h => F_17.out W (keep0_trans _ _ _ hk_20 h))
  have K_24 := Lib.hid (keep0_trans _ _ _ K_18.out hk_20)
  clear hk_20 F_15 F_16 F_17 K_18
  clear hW
  go_upto_region 6 with (fail)
  refine wp_region_kord (Keep (fun _ => False)) (Keep.refl _) keep0_trans 20 (Ts := [none, none, none, none, none, none, none, none, none, none, none, some (.inl (.int .u8 3)), none, none, none, none, none, some (.inl (.int .u8 1)), none, none]) ?_
  simp only [List.take, List.drop]
  refine kAll_p (fun K hK => ?_)
  go_simp
  generalize hZ : (Act.mk _ _) = Z
  refine hK Z ?_
  subst hZ
  clear hK K
  refine kAll_p (fun K hK => ?_)
  go_simp
  generalize hZ : (Act.mk _ _) = Z
  refine hK Z ?_
  subst hZ
  clear hK K
  refine kAll_p (fun K hK => ?_)
  go_simp
  generalize hZ : (Act.mk _ _) = Z
  refine hK Z ?_
  subst hZ
  clear hK K
  refine kAll_pw (by kernel_rfl) (fun K hK => ?_)
  go_simp
  generalize hZ : (Act.mk _ _) = Z
  refine hK Z ?_
  subst hZ
  clear hK K
  refine kAll_pw (by kernel_rfl) (fun K hK => ?_)
  go_simp
  generalize hZ : (Act.mk _ _) = Z
  refine hK Z ?_
  subst hZ
  clear hK K
  refine kAll_p (fun K hK => ?_)
  go_simp
  generalize hZ : (Act.mk _ _) = Z
  refine hK Z ?_
  subst hZ
  clear hK K
  refine kAll_p (fun K hK => ?_)
  go_simp
  generalize hZ : (Act.mk _ _) = Z
  refine hK Z ?_
  subst hZ
  clear hK K
  refine kAll_pw (by kernel_rfl) (fun K hK => ?_)
  go_simp
  generalize hZ : (Act.mk _ _) = Z
  refine hK Z ?_
  subst hZ
  clear hK K
  refine kAll_pw (by kernel_rfl) (fun K hK => ?_)
  go_simp
  generalize hZ : (Act.mk _ _) = Z
  refine hK Z ?_
  subst hZ
  clear hK K
  refine kAll_pw (by kernel_rfl) (fun K hK => ?_)
  go_simp
  generalize hZ : (Act.mk _ _) = Z
  refine hK Z ?_
  subst hZ
  clear hK K
  refine kAll_pw (by kernel_rfl) (fun K hK => ?_)
  go_simp
  generalize hZ : (Act.mk _ _) = Z
  refine hK Z ?_
  subst hZ
  clear hK K
  refine kAll_dn _ (fun W hW hF => kStep_w (by kernel_rfl) fun K Q hK => ?_) (fun K hK => ?_)
  · have e0 := (HT.out.keep hW (fun h => h)).cell 0
    have e1 := (HT.out.keep hW (fun h => h)).cell 1
    have e2 := (HT.out.keep hW (fun h => h)).cell 2
    have e3 := (HT.out.keep hW (fun h => h)).cell 3
    have e4 := (HT.out.keep hW (fun h => h)).cell 4
    simp at e0 e1 e2 e3 e4
    go_simp
    exact hK _ _ (Keep.refl _ _) rfl
  go_simp
  generalize hZ : (Act.mk _ _) = Z
  refine hK Z ?_
  subst hZ
  clear hK K
  refine kAll_pw (by kernel_rfl) (fun K hK => ?_)
  go_simp
  generalize hZ : (Act.mk _ _) = Z
  refine hK Z ?_
  subst hZ
  clear hK K
  refine kAll_p (fun K hK => ?_)
  go_simp
  generalize hZ : (Act.mk _ _) = Z
  refine hK Z ?_
  subst hZ
  clear hK K
  refine kAll_p (fun K hK => ?_)
  go_simp
  generalize hZ : (Act.mk _ _) = Z
  refine hK Z ?_
  subst hZ
  clear hK K
  refine kAll_pw (by kernel_rfl) (fun K hK => ?_)
  go_simp
  generalize hZ : (Act.mk _ _) = Z
  refine hK Z ?_
  subst hZ
  clear hK K
  refine kAll_pw (by kernel_rfl) (fun K hK => ?_)
  go_simp
  generalize hZ : (Act.mk _ _) = Z
  refine hK Z ?_
  subst hZ
  clear hK K
  refine kAll_dn _ (fun W hW hF => kStep_w (by kernel_rfl) fun K Q hK => ?_) (fun K hK => ?_)
  · have h0 := F_21.out W (hW)
    have h1 := F_21.out W (hW)
    go_simp
    refine (cmpI_is 1 h0 h1 (by decide) HAA.out).mono ?_
    rintro e w' ⟨rfl, hk⟩
    exact hK _ _ hk rfl
  go_simp
  generalize hZ : (Act.mk _ _) = Z
  refine hK Z ?_
  subst hZ
  clear hK K
  refine kAll_pw (by kernel_rfl) (fun K hK => ?_)
  go_simp
  generalize hZ : (Act.mk _ _) = Z
  refine hK Z ?_
  subst hZ
  clear hK K
  refine kAll_p (fun K hK => ?_)
  go_simp
  generalize hZ : (Act.mk _ _) = Z
  refine hK Z ?_
  subst hZ
  clear hK K
  refine kAll_nil (fun W25 hW hF => ?_)
  clear hF
  have hk_26 : Keep (fun _ => False) _ W25 := hW
  have B_27 := Lib.hid (HT.out.keep hk_26 (fun h => h))
  have F_28 := Lib.hid (fun W h => F_21.out W (keep0_trans _ _ _ hk_26 h))
  have F_29 := Lib.hid (fun W h => F_22.out W (keep0_trans _ _ _ hk_26 h))
  have F_30 := Lib.hid (fun W h => F_23.out W (keep0_trans _ _ _ hk_26 h))
  have K_31 := Lib.hid (keep0_trans _ _ _ K_24.out hk_26)
  clear hk_26 HT F_21 F_22 F_23 K_24
  clear hW
  go_upto_region 8 with (fail)
  refine wp_region_kord (Keep (fun _ => False)) (Keep.refl _) keep0_trans 14 (Ts := [none, none, none, none, none, some (.inl (.int .u8 2)), none, none, none, none, none, some (.inl (.int .u8 2)), none, none]) ?_
  simp only [List.take, List.drop]
  refine kAll_p (fun K hK => ?_)
  go_simp
  generalize hZ : (Act.mk _ _) = Z
  refine hK Z ?_
  subst hZ
  clear hK K
  refine kAll_p (fun K hK => ?_)
  go_simp
  generalize hZ : (Act.mk _ _) = Z
  refine hK Z ?_
  subst hZ
  clear hK K
  refine kAll_p (fun K hK => ?_)
  go_simp
  generalize hZ : (Act.mk _ _) = Z
  refine hK Z ?_
  subst hZ
  clear hK K
  refine kAll_pw (by kernel_rfl) (fun K hK => ?_)
  go_simp
  generalize hZ : (Act.mk _ _) = Z
  refine hK Z ?_
  subst hZ
  clear hK K
  refine kAll_pw (by kernel_rfl) (fun K hK => ?_)
  go_simp
  generalize hZ : (Act.mk _ _) = Z
  refine hK Z ?_
  subst hZ
  clear hK K
  refine kAll_dn _ (fun W hW hF => kStep_w (by kernel_rfl) fun K Q hK => ?_) (fun K hK => ?_)
  · have h0 := F_29.out W (hW)
    have h1 := F_30.out W (hW)
    go_simp
    refine (cmpI_is 2 h0 h1 (by decide) HZ.out).mono ?_
    rintro e w' ⟨rfl, hk⟩
    exact hK _ _ hk rfl
  go_simp
  generalize hZ : (Act.mk _ _) = Z
  refine hK Z ?_
  subst hZ
  clear hK K
  refine kAll_pw (by kernel_rfl) (fun K hK => ?_)
  go_simp
  generalize hZ : (Act.mk _ _) = Z
  refine hK Z ?_
  subst hZ
  clear hK K
  refine kAll_p (fun K hK => ?_)
  go_simp
  generalize hZ : (Act.mk _ _) = Z
  refine hK Z ?_
  subst hZ
  clear hK K
  refine kAll_p (fun K hK => ?_)
  go_simp
  generalize hZ : (Act.mk _ _) = Z
  refine hK Z ?_
  subst hZ
  clear hK K
  refine kAll_pw (by kernel_rfl) (fun K hK => ?_)
  go_simp
  generalize hZ : (Act.mk _ _) = Z
  refine hK Z ?_
  subst hZ
  clear hK K
  refine kAll_pw (by kernel_rfl) (fun K hK => ?_)
  go_simp
  generalize hZ : (Act.mk _ _) = Z
  refine hK Z ?_
  subst hZ
  clear hK K
  refine kAll_dn _ (fun W hW hF => kStep_w (by kernel_rfl) fun K Q hK => ?_) (fun K hK => ?_)
  · have h0 := F_28.out W (hW)
    have h1 := F_30.out W (hW)
    go_simp
    refine (cmpI_is 2 h0 h1 (by decide) HAC.out).mono ?_
    rintro e w' ⟨rfl, hk⟩
    exact hK _ _ hk rfl
  go_simp
  generalize hZ : (Act.mk _ _) = Z
  refine hK Z ?_
  subst hZ
  clear hK K
  refine kAll_pw (by kernel_rfl) (fun K hK => ?_)
  go_simp
  generalize hZ : (Act.mk _ _) = Z
  refine hK Z ?_
  subst hZ
  clear hK K
  refine kAll_p (fun K hK => ?_)
  go_simp
  generalize hZ : (Act.mk _ _) = Z
  refine hK Z ?_
  subst hZ
  clear hK K
  refine kAll_nil (fun W32 hW hF => ?_)
  clear hF
  have hk_33 : Keep (fun _ => False) _ W32 := hW
  have F_34 := Lib.hid (fun W h => F_28.out W (keep0_trans _ _ _ hk_33 h))
  have F_35 := Lib.hid (fun W h => F_29.out W (keep0_trans _ _ _ hk_33 h))
  have F_36 := Lib.hid (fun W h => F_30.out W (keep0_trans _ _ _ hk_33 h))
  have K_37 := Lib.hid (keep0_trans _ _ _ K_31.out hk_33)
  clear hk_33 F_28 F_29 F_30 K_31
  clear hW
  go_upto_region 10 with (fail)
  refine wp_region_kord (Keep (fun _ => False)) (Keep.refl _) keep0_trans 6 (Ts := [none, none, some (.inr (fun v W => IsTB 300 W v (joinM l0 l1))), none, some (.inl (.int .u8 1)), none]) ?_
  simp only [List.take, List.drop]
  refine kAll_p (fun K hK => ?_)
  go_simp
  generalize hZ : (Act.mk _ _) = Z
  refine hK Z ?_
  subst hZ
  clear hK K
  refine kAll_p (fun K hK => ?_)
  go_simp
  generalize hZ : (Act.mk _ _) = Z
  refine hK Z ?_
  subst hZ
  clear hK K
  refine kAll_tn _ (fun v W W' hk h => h.keep0 hk) (fun W hW hF => kStep_of fun K Q hK => ?_) (fun u0 K hK => ?_)
  · have h0 := F_34.out W (hW)
    have h1 := F_35.out W (hW)
    go_simp
    refine (joinI_any h0 h1 (by decide)).mono ?_
    rintro e w' ⟨u, rfl, hu, hk⟩
    exact hK _ _ hk hu
  go_simp
  generalize hZ : (Act.mk _ _) = Z
  refine hK Z ?_
  subst hZ
  clear hK K
  refine kAll_p (fun K hK => ?_)
  go_simp
  generalize hZ : (Act.mk _ _) = Z
  refine hK Z ?_
  subst hZ
  clear hK K
  refine kAll_dn _ (fun W hW hF => kStep_of fun K Q hK => ?_) (fun K hK => ?_)
  · have h0 : (fun v W => IsTB 300 W v (joinM l0 l1)) u0 W := kHas_at hF 0 rfl (by kernel_rfl)
    have h1 := F_35.out W (hW)
    go_simp
    refine (cmpI_is 1 h0 h1 (by decide) HJ.out).mono ?_
    rintro e w' ⟨rfl, hk⟩
    exact hK _ _ hk rfl
  go_simp
  generalize hZ : (Act.mk _ _) = Z
  refine hK Z ?_
  subst hZ
  clear hK K
  refine kAll_p (fun K hK => ?_)
  go_simp
  generalize hZ : (Act.mk _ _) = Z
  refine hK Z ?_
  subst hZ
  clear hK K
  refine kAll_nil (fun W38 hW hF => ?_)
  clear hF
  have hk_39 : Keep (fun _ => False) _ W38 := hW
  have F_40 := Lib.hid (fun W h => F_34.out W (keep0_trans _ _ _ hk_39 h))
  have F_41 := Lib.hid (fun W h => F_35.out W (keep0_trans _ _ _ hk_39 h))
  have F_42 := Lib.hid (fun W h => F_36.out W (keep0_trans _ _ _ hk_39 h))
  have K_43 := Lib.hid (keep0_trans _ _ _ K_37.out hk_39)
  clear hk_39 F_34 F_35 F_36 K_37
  clear hW
  go_upto_region 11 with (fail)
  refine wp_region_kord (Keep (fun _ => False)) (Keep.refl _) keep0_trans 26 (Ts := [none, none, none, none, none, none, none, none, none, none, none, none, none, none, some (.inl (.bool false)), none, none, none, none, none, none, none, none, none, none, none]) ?_
  simp only [List.take, List.drop]
  refine kAll_p (fun K hK => ?_)
  go_simp
  generalize hZ : (Act.mk _ _) = Z
  refine hK Z ?_
  subst hZ
  clear hK K
  refine kAll_p (fun K hK => ?_)
  go_simp
  generalize hZ : (Act.mk _ _) = Z
  refine hK Z ?_
  subst hZ
  clear hK K
  refine kAll_p (fun K hK => ?_)
  go_simp
  generalize hZ : (Act.mk _ _) = Z
  refine hK Z ?_
  subst hZ
  clear hK K
  refine kAll_skip (by kernel_rfl) ?_
  refine kAll_skip (by kernel_rfl) ?_
  refine kAll_p (fun K hK => ?_)
  go_simp
  generalize hZ : (Act.mk _ _) = Z
  refine hK Z ?_
  subst hZ
  clear hK K
  refine kAll_p (fun K hK => ?_)
  go_simp
  generalize hZ : (Act.mk _ _) = Z
  refine hK Z ?_
  subst hZ
  clear hK K
  refine kAll_p (fun K hK => ?_)
  go_simp
  generalize hZ : (Act.mk _ _) = Z
  refine hK Z ?_
  subst hZ
  clear hK K
  refine kAll_p (fun K hK => ?_)
  go_simp
  generalize hZ : (Act.mk _ _) = Z
  refine hK Z ?_
  subst hZ
  clear hK K
  refine kAll_p (fun K hK => ?_)
  go_simp
  generalize hZ : (Act.mk _ _) = Z
  refine hK Z ?_
  subst hZ
  clear hK K
  refine kAll_pw (by kernel_rfl) (fun K hK => ?_)
  go_simp
  generalize hZ : (Act.mk _ _) = Z
  refine hK Z ?_
  subst hZ
  clear hK K
  refine kAll_pw (by kernel_rfl) (fun K hK => ?_)
  go_simp
  generalize hZ : (Act.mk _ _) = Z
  refine hK Z ?_
  subst hZ
  clear hK K
  refine kAll_pw (by kernel_rfl) (fun K hK => ?_)
  go_simp
  generalize hZ : (Act.mk _ _) = Z
  refine hK Z ?_
  subst hZ
  clear hK K
  refine kAll_pw (by kernel_rfl) (fun K hK => ?_)
  go_simp
  generalize hZ : (Act.mk _ _) = Z
  refine hK Z ?_
  subst hZ
  clear hK K
  refine kAll_dn _ (fun W hW hF => kStep_w (by kernel_rfl) fun K Q hK => ?_) (fun K hK => ?_)
  · have h0 := F_41.out W (hW)
    go_simp
    refine (mayI_is false h0 (by decide) HMb.out).mono ?_
    rintro e w' ⟨rfl, hk⟩
    exact hK _ _ hk rfl
  go_simp
  generalize hZ : (Act.mk _ _) = Z
  refine hK Z ?_
  subst hZ
  clear hK K
  refine kAll_pw (by kernel_rfl) (fun K hK => ?_)
  go_simp
  generalize hZ : (Act.mk _ _) = Z
  refine hK Z ?_
  subst hZ
  clear hK K
  refine kAll_pw (by kernel_rfl) (fun K hK => ?_)
  go_simp
  generalize hZ : (Act.mk _ _) = Z
  refine hK Z ?_
  subst hZ
  clear hK K
  refine kAll_pw (by kernel_rfl) (fun K hK => ?_)
  go_simp
  generalize hZ : (Act.mk _ _) = Z
  refine hK Z ?_
  subst hZ
  clear hK K
  refine kAll_skip (by kernel_rfl) ?_
  refine kAll_skip (by kernel_rfl) ?_
  refine kAll_skip (by kernel_rfl) ?_
  refine kAll_skip (by kernel_rfl) ?_
  refine kAll_skip (by kernel_rfl) ?_
  refine kAll_pw (by kernel_rfl) (fun K hK => ?_)
  go_simp
  generalize hZ : (Act.mk _ _) = Z
  refine hK Z ?_
  subst hZ
  clear hK K
  refine kAll_p (fun K hK => ?_)
  go_simp
  generalize hZ : (Act.mk _ _) = Z
  refine hK Z ?_
  subst hZ
  clear hK K
  refine kAll_p (fun K hK => ?_)
  go_simp
  generalize hZ : (Act.mk _ _) = Z
  refine hK Z ?_
  subst hZ
  clear hK K
  refine kAll_nil (fun W44 hW hF => ?_)
  clear hF
  have hk_45 : Keep (fun _ => False) _ W44 := hW
  have F_46 := Lib.hid (fun W h => F_40.out W (keep0_trans _ _ _ hk_45 h))
  have F_47 := Lib.hid (fun W h => F_41.out W (keep0_trans _ _ _ hk_45 h))
  have F_48 := Lib.hid (fun W h => F_42.out W (keep0_trans _ _ _ hk_45 h))
  have K_49 := Lib.hid (keep0_trans _ _ _ K_43.out hk_45)
  clear hk_45 F_40 F_41 F_42 K_43
  clear hW
  go_wp2
  go_ret
  exact ⟨rfl, K_49.out⟩
set_option maxRecDepth 100000 in
set_option maxHeartbeats 4000000 in
theorem stands_2c (A0 A1 A2 : Option Addr) (n0 n1 n2 c0 c1 c2 : Nat) (l0 l1 l2 : List Tick) (w : World) (HBig : Hid ([n0, n1, n2].any (fun x => decide (150 < x)) = false)) (F0 : Hid (∀ W, Keep (fun _ => False) w W → IsTB 150 W (.slice A0 n0 c0) l0)) (F1 : Hid (∀ W, Keep (fun _ => False) w W → IsTB 150 W (.slice A1 n1 c1) l1)) (F2 : Hid (∀ W, Keep (fun _ => False) w W → IsTB 150 W (.slice A2 n2 c2) l2))
    (HX : Hid (cmpM l0 l1 = 2)) (HY : Hid (cmpM l1 l0 = 3)) (HAA : Hid (cmpM l0 l0 = 1)) (HJ : Hid (cmpM (joinM l0 l1) l1 = 1)) (z : Int) (hz : (z == 2) = false) (HZ : Hid (cmpM l1 l2 = z)) (HMb : Hid (mayT l1 = true)) (HJB : Hid (decide (joinM l0 l1 = l1) = true)) :
    Calls Try.prog 6 #[.slice A0 n0 c0, .slice A1 n1 c1, .slice A2 n2 c2] w (Tell (.bool true) w) := by
  have K0 := Lib.hid (Keep.refl (fun _ => False) w)
  go_enter Try.func6, Try.ntmps6
  go_upto_region 1 with (fail)
  refine wp_region_kord (Keep (fun _ => False)) (Keep.refl _) keep0_trans 9 (Ts := [some (.inl (.bool true)), none, none, none, none, none, some (.inr (fun v W => IsLg W v [n0, n1, n2])), some (.inl (.bool false)), none]) ?_
  simp only [List.take, List.drop]
  refine kAll_dn _ (fun W hW hF => kStep_of fun K Q hK => ?_) (fun K hK => ?_)
  · go_simp
    refine (works_any W).mono ?_
    rintro e w' ⟨rfl, hk⟩
    exact hK _ _ hk rfl
  go_simp
  generalize hZ : (Act.mk _ _) = Z
  refine hK Z ?_
  subst hZ
  clear hK K
  refine kAll_p (fun K hK => ?_)
  go_simp
  generalize hZ : (Act.mk _ _) = Z
  refine hK Z ?_
  subst hZ
  clear hK K
  refine kAll_p (fun K hK => ?_)
  go_simp
  generalize hZ : (Act.mk _ _) = Z
  refine hK Z ?_
  subst hZ
  clear hK K
  refine kAll_pw (by kernel_rfl) (fun K hK => ?_)
  go_simp
  generalize hZ : (Act.mk _ _) = Z
  refine hK Z ?_
  subst hZ
  clear hK K
  refine kAll_pw (by kernel_rfl) (fun K hK => ?_)
  go_simp
  generalize hZ : (Act.mk _ _) = Z
  refine hK Z ?_
  subst hZ
  clear hK K
  refine kAll_pw (by kernel_rfl) (fun K hK => ?_)
  go_simp
  generalize hZ : (Act.mk _ _) = Z
  refine hK Z ?_
  subst hZ
  clear hK K
  refine kAll_tn _ (fun v W W' hk h => h.keep0 hk) (fun W hW hF => kStep_w (by kernel_rfl) fun K Q hK => ?_) (fun u0 K hK => ?_)
  · go_simp
    exact hK _ _ ((Keep.refl _ _).alloc _) ⟨_, _, _, [(A0, n0, c0), (A1, n1, c1), (A2, n2, c2)], rfl, rfl, rfl, RdK.of_blk (Blk.new _ _ _) 3 1 rfl⟩
  go_simp
  generalize hZ : (Act.mk _ _) = Z
  refine hK Z ?_
  subst hZ
  clear hK K
  refine kAll_dn _ (fun W hW hF => kStep_w (by kernel_rfl) fun K Q hK => ?_) (fun K hK => ?_)
  · have h0 : (fun v W => IsLg W v [n0, n1, n2]) u0 W := kHas_at hF 0 rfl (by kernel_rfl)
    go_simp
    refine (large_is false h0 (by simp) HBig.out).mono ?_
    rintro e w' ⟨rfl, hk⟩
    exact hK _ _ hk rfl
  go_simp
  generalize hZ : (Act.mk _ _) = Z
  refine hK Z ?_
  subst hZ
  clear hK K
  refine kAll_p (fun K hK => ?_)
  go_simp
  generalize hZ : (Act.mk _ _) = Z
  refine hK Z ?_
  subst hZ
  clear hK K
  refine kAll_nil (fun W1 hW hF => ?_)
  clear hF
  have hk_2 : Keep (fun _ => False) _ W1 := hW
  have F_3 := Lib.hid (fun W h => F0.out W (keep0_trans _ _ _ hk_2 h))
  have F_4 := Lib.hid (fun W h => F1.out W (keep0_trans _ _ _ hk_2 h))
  have F_5 := Lib.hid (fun W h => F2.out W (keep0_trans _ _ _ hk_2 h))
  have K_6 := Lib.hid (keep0_trans _ _ _ K0.out hk_2)
  clear hk_2 F0 F1 F2 K0
  clear hW
  go_upto_region 3 with (fail)
  refine wp_region_kord (Keep (fun _ => False)) (Keep.refl _) keep0_trans 4 (Ts := [none, none, some (.inl (.int .u8 2)), none]) ?_
  simp only [List.take, List.drop]
  refine kAll_p (fun K hK => ?_)
  go_simp
  generalize hZ : (Act.mk _ _) = Z
  refine hK Z ?_
  subst hZ
  clear hK K
  refine kAll_p (fun K hK => ?_)
  go_simp
  generalize hZ : (Act.mk _ _) = Z
  refine hK Z ?_
  subst hZ
  clear hK K
  refine kAll_dn _ (fun W hW hF => kStep_of fun K Q hK => ?_) (fun K hK => ?_)
  · have h0 := F_3.out W (hW)
    have h1 := F_4.out W (hW)
    go_simp
    refine (cmpI_is 2 h0 h1 (by decide) HX.out).mono ?_
    rintro e w' ⟨rfl, hk⟩
    exact hK _ _ hk rfl
  go_simp
  generalize hZ : (Act.mk _ _) = Z
  refine hK Z ?_
  subst hZ
  clear hK K
  refine kAll_p (fun K hK => ?_)
  go_simp
  generalize hZ : (Act.mk _ _) = Z
  refine hK Z ?_
  subst hZ
  clear hK K
  refine kAll_nil (fun W7 hW hF => ?_)
  clear hF
  have hk_8 : Keep (fun _ => False) _ W7 := hW
  have F_9 := Lib.hid (fun W h => F_3.out W (keep0_trans _ _ _ hk_8 h))
  have F_10 := Lib.hid (fun W h => F_4.out W (keep0_trans _ _ _ hk_8 h))
  have F_11 := Lib.hid (fun W h => F_5.out W (keep0_trans _ _ _ hk_8 h))
  have K_12 := Lib.hid (keep0_trans _ _ _ K_6.out hk_8)
  clear hk_8 F_3 F_4 F_5 K_6
  clear hW
  go_upto_region 4 with (fail)
  refine wp_region_kord (Keep (fun _ => False)) (Keep.refl _) keep0_trans 4 (Ts := [none, none, some (.inl (.int .u8 3)), none]) ?_
  simp only [List.take, List.drop]
  refine kAll_p (fun K hK => ?_)
  go_simp
  generalize hZ : (Act.mk _ _) = Z
  refine hK Z ?_
  subst hZ
  clear hK K
  refine kAll_p (fun K hK => ?_)
  go_simp
  generalize hZ : (Act.mk _ _) = Z
  refine hK Z ?_
  subst hZ
  clear hK K
  refine kAll_dn _ (fun W hW hF => kStep_of fun K Q hK => ?_) (fun K hK => ?_)
  · have h0 := F_10.out W (hW)
    have h1 := F_9.out W (hW)
    go_simp
    refine (cmpI_is 3 h0 h1 (by decide) HY.out).mono ?_
    rintro e w' ⟨rfl, hk⟩
    exact hK _ _ hk rfl
  go_simp
  generalize hZ : (Act.mk _ _) = Z
  refine hK Z ?_
  subst hZ
  clear hK K
  refine kAll_p (fun K hK => ?_)
  go_simp
  generalize hZ : (Act.mk _ _) = Z
  refine hK Z ?_
  subst hZ
  clear hK K
  refine kAll_nil (fun W13 hW hF => ?_)
  clear hF
  have hk_14 : Keep (fun _ => False) _ W13 := hW
  have F_15 := Lib.hid (fun W h => F_9.out W (keep0_trans _ _ _ hk_14 h))
  have F_16 := Lib.hid (fun W h => F_10.out W (keep0_trans _ _ _ hk_14 h))
  have F_17 := Lib.hid (fun W h => F_11.out W (keep0_trans _ _ _ hk_14 h))
  have K_18 := Lib.hid (keep0_trans _ _ _ K_12.out hk_14)
  clear hk_14 F_9 F_10 F_11 K_12
  clear hW
  go_upto_region 5 with (fail)
  refine wp_region_kord (Keep (fun _ => False)) (Keep.refl _) keep0_trans 2 (Ts := [some (.inr (fun v W => ∃ g, v = .slice (some ⟨g, 0, none⟩) 5 5 ∧ Blk W g 5 #[.int .u8 0, .int .u8 1, .int .u8 3, .int .u8 2, .int .u8 4])), none]) ?_
  simp only [List.take, List.drop]
  refine kAll_tn _ (fun v W W' (hk : Keep (fun _ => False) W W') ⟨g, e, hb⟩ => ⟨g, e, Blk.keep hb hk (fun h => h)⟩) (fun W hW hF => kStep_of fun K Q hK => ?_) (fun u0 K hK => ?_)
  · go_simp
    exact hK _ _ ((Keep.refl _ _).alloc _) ⟨_, rfl, Blk.new _ _ _⟩
  go_simp
  generalize hZ : (Act.mk _ _) = Z
  refine hK Z ?_
  subst hZ
  clear hK K
  refine kAll_p (fun K hK => ?_)
  go_simp
  generalize hZ : (Act.mk _ _) = Z
  refine hK Z ?_
  subst hZ
  clear hK K
  refine kAll_nil (fun W19 hW hF => ?_)
  have ht : (fun v W => ∃ g, v = .slice (some ⟨g, 0, none⟩) 5 5 ∧ Blk W g 5 #[.int .u8 0, .int .u8 1, .int .u8 3, .int .u8 2, .int .u8 4]) u0 W19 := kAllHas_at hF 0 rfl
  obtain ⟨g, rfl, hg⟩ := ht
  have HT := Lib.hid hg
  clear hg
  clear hF
  have hk_20 : Keep (fun _ => False) _ W19 := hW
  have F_21 := Lib.hid (fun W h => F_15.out W (keep0_trans _ _ _ hk_20 h))
  have F_22 := Lib.hid (fun W h => F_16.out W (keep0_trans _ _ _ hk_20 h))
  have F_23 := Lib.hid (fun W h => F_17.out W (keep0_trans _ _ _ hk_20 h))
  have K_24 := Lib.hid (keep0_trans _ _ _ K_18.out hk_20)
  clear hk_20 F_15 F_16 F_17 K_18
  clear hW
  go_upto_region 6 with (fail)
  refine wp_region_kord (Keep (fun _ => False)) (Keep.refl _) keep0_trans 20 (Ts := [none, none, none, none, none, none, none, none, none, none, none, some (.inl (.int .u8 3)), none, none, none, none, none, some (.inl (.int .u8 1)), none, none]) ?_
  simp only [List.take, List.drop]
  refine kAll_p (fun K hK => ?_)
  go_simp
  generalize hZ : (Act.mk _ _) = Z
  refine hK Z ?_
  subst hZ
  clear hK K
  refine kAll_p (fun K hK => ?_)
  go_simp
  generalize hZ : (Act.mk _ _) = Z
  refine hK Z ?_
  subst hZ
  clear hK K
  refine kAll_p (fun K hK => ?_)
  go_simp
  generalize hZ : (Act.mk _ _) = Z
  refine hK Z ?_
  subst hZ
  clear hK K
  refine kAll_pw (by kernel_rfl) (fun K hK => ?_)
  go_simp
  generalize hZ : (Act.mk _ _) = Z
  refine hK Z ?_
  subst hZ
  clear hK K
  refine kAll_pw (by kernel_rfl) (fun K hK => ?_)
  go_simp
  generalize hZ : (Act.mk _ _) = Z
  refine hK Z ?_
  subst hZ
  clear hK K
  refine kAll_p (fun K hK => ?_)
  go_simp
  generalize hZ : (Act.mk _ _) = Z
  refine hK Z ?_
  subst hZ
  clear hK K
  refine kAll_p (fun K hK => ?_)
  go_simp
  generalize hZ : (Act.mk _ _) = Z
  refine hK Z ?_
  subst hZ
  clear hK K
  refine kAll_pw (by kernel_rfl) (fun K hK => ?_)
  go_simp
  generalize hZ : (Act.mk _ _) = Z
  refine hK Z ?_
  subst hZ
  clear hK K
  refine kAll_pw (by kernel_rfl) (fun K hK => ?_)
  go_simp
  generalize hZ : (Act.mk _ _) = Z
  refine hK Z ?_
  subst hZ
  clear hK K
  refine kAll_pw (by kernel_rfl) (fun K hK => ?_)
  go_simp
  generalize hZ : (Act.mk _ _) = Z
  refine hK Z ?_
  subst hZ
  clear hK K
  refine kAll_pw (by kernel_rfl) (fun K hK => ?_)
  go_simp
  generalize hZ : (Act.mk _ _) = Z
  refine hK Z ?_
  subst hZ
  clear hK K
  refine kAll_dn _ (fun W hW hF => kStep_w (by kernel_rfl) fun K Q hK => ?_) (fun K hK => ?_)
  · have e0 := (HT.out.keep hW (fun h => h)).cell 0
    have e1 := (HT.out.keep hW (fun h => h)).cell 1
    have e2 := (HT.out.keep hW (fun h => h)).cell 2
    have e3 := (HT.out.keep hW (fun h => h)).cell 3
    have e4 := (HT.out.keep hW (fun h => h)).cell 4
    simp at e0 e1 e2 e3 e4
    go_simp
    exact hK _ _ (Keep.refl _ _) rfl
  go_simp
  generalize hZ : (Act.mk _ _) = Z
  refine hK Z ?_
  subst hZ
  clear hK K
  refine kAll_pw (by kernel_rfl) (fun K hK => ?_)
  go_simp
  generalize hZ : (Act.mk _ _) = Z
  refine hK Z ?_
  subst hZ
  clear hK K
  refine kAll_p (fun K hK => ?_)
  go_simp
  generalize hZ : (Act.mk _ _) = Z
  refine hK Z ?_
  subst hZ
  clear hK K
  refine kAll_p (fun K hK => ?_)
  go_simp
  generalize hZ : (Act.mk _ _) = Z
  refine hK Z ?_
  subst hZ
  clear hK K
  refine kAll_pw (by kernel_rfl) (fun K hK => ?_)
  go_simp
  generalize hZ : (Act.mk _ _) = Z
  refine hK Z ?_
  subst hZ
  clear hK K
  refine kAll_pw (by kernel_rfl) (fun K hK => ?_)
  go_simp
  generalize hZ : (Act.mk _ _) = Z
  refine hK Z ?_
  subst hZ
  clear hK K
  refine kAll_dn _ (fun W hW hF => kStep_w (by kernel_rfl) fun K Q hK => ?_) (fun K hK => ?_)
  · have h0 := F_21.out W (hW)
    have h1 := F_21.out W (hW)
    go_simp
    refine (cmpI_is 1 h0 h1 (by decide) HAA.out).mono ?_
    rintro e w' ⟨rfl, hk⟩
    exact hK _ _ hk rfl
  go_simp
  generalize hZ : (Act.mk _ _) = Z
  refine hK Z ?_
  subst hZ
  clear hK K
  refine kAll_pw (by kernel_rfl) (fun K hK => ?_)
  go_simp
  generalize hZ : (Act.mk _ _) = Z
  refine hK Z ?_
  subst hZ
  clear hK K
  refine kAll_p (fun K hK => ?_)
  go_simp
  generalize hZ : (Act.mk _ _) = Z
  refine hK Z ?_
  subst hZ
  clear hK K
  refine kAll_nil (fun W25 hW hF => ?_)
  clear hF
  have hk_26 : Keep (fun _ => False) _ W25 := hW
  have B_27 := Lib.hid (HT.out.keep hk_26 (fun h => h))
  have F_28 := Lib.hid (fun W h => F_21.out W (keep0_trans _ _ _ hk_26 h))
  have F_29 := Lib.hid (fun W h => F_22.out W (keep0_trans _ _ _ hk_26 h))
  have F_30 := Lib.hid (fun W h => F_23.out W (keep0_trans _ _ _ hk_26 h))
  have K_31 := Lib.hid (keep0_trans _ _ _ K_24.out hk_26)
  clear hk_26 HT F_21 F_22 F_23 K_24
  clear hW
  go_upto_region 8 with (fail)
  refine wp_region_kord (Keep (fun _ => False)) (Keep.refl _) keep0_trans 14 (Ts := [none, none, none, none, none, some (.inl (.int .u8 z)), none, none, none, none, none, none, none, none]) ?_
  simp only [List.take, List.drop]
  refine kAll_p (fun K hK => ?_)
  go_simp
  generalize hZ : (Act.mk _ _) = Z
  refine hK Z ?_
  subst hZ
  clear hK K
  refine kAll_p (fun K hK => ?_)
  go_simp
  generalize hZ : (Act.mk _ _) = Z
  refine hK Z ?_
  subst hZ
  clear hK K
  refine kAll_p (fun K hK => ?_)
  go_simp
  generalize hZ : (Act.mk _ _) = Z
  refine hK Z ?_
  subst hZ
  clear hK K
  refine kAll_pw (by kernel_rfl) (fun K hK => ?_)
  go_simp
  generalize hZ : (Act.mk _ _) = Z
  refine hK Z ?_
  subst hZ
  clear hK K
  refine kAll_pw (by kernel_rfl) (fun K hK => ?_)
  go_simp
  generalize hZ : (Act.mk _ _) = Z
  refine hK Z ?_
  subst hZ
  clear hK K
  refine kAll_dn _ (fun W hW hF => kStep_w (by kernel_rfl) fun K Q hK => ?_) (fun K hK => ?_)
  · have h0 := F_29.out W (hW)
    have h1 := F_30.out W (hW)
    go_simp
    refine (cmpI_is z h0 h1 (by decide) HZ.out).mono ?_
    rintro e w' ⟨rfl, hk⟩
    exact hK _ _ hk rfl
  go_simp
  generalize hZ : (Act.mk _ _) = Z
  refine hK Z ?_
  subst hZ
  clear hK K
  refine kAll_pw (by kernel_rfl) (fun K hK => ?_)
  go_simp
  generalize hZ : (Act.mk _ _) = Z
  refine hK Z ?_
  subst hZ
  clear hK K
  refine kAll_p (fun K hK => ?_)
  go_simp
  generalize hZ : (Act.mk _ _) = Z
  refine hK Z ?_
  subst hZ
  clear hK K
  refine kAll_p (fun K hK => ?_)
  go_simp
  generalize hZ : (Act.mk _ _) = Z
  refine hK Z ?_
  subst hZ
  clear hK K
  refine kAll_skip (by kernel_rfl) ?_
  refine kAll_skip (by kernel_rfl) ?_
  refine kAll_skip (by kernel_rfl) ?_
  refine kAll_skip (by kernel_rfl) ?_
  refine kAll_p (fun K hK => ?_)
  go_simp
  generalize hZ : (Act.mk _ _) = Z
  refine hK Z ?_
  subst hZ
  clear hK K
  refine kAll_nil (fun W32 hW hF => ?_)
  clear hF
  have hk_33 : Keep (fun _ => False) _ W32 := hW
  have F_34 := Lib.hid (fun W h => F_28.out W (keep0_trans _ _ _ hk_33 h))
  have F_35 := Lib.hid (fun W h => F_29.out W (keep0_trans _ _ _ hk_33 h))
  have F_36 := Lib.hid (fun W h => F_30.out W (keep0_trans _ _ _ hk_33 h))
  have K_37 := Lib.hid (keep0_trans _ _ _ K_31.out hk_33)
  clear hk_33 F_28 F_29 F_30 K_31
  clear hW
  go_upto_region 10 with (fail)
  refine wp_region_kord (Keep (fun _ => False)) (Keep.refl _) keep0_trans 6 (Ts := [none, none, some (.inr (fun v W => IsTB 300 W v (joinM l0 l1))), none, some (.inl (.int .u8 1)), none]) ?_
  simp only [List.take, List.drop]
  refine kAll_p (fun K hK => ?_)
  go_simp
  generalize hZ : (Act.mk _ _) = Z
  refine hK Z ?_
  subst hZ
  clear hK K
  refine kAll_p (fun K hK => ?_)
  go_simp
  generalize hZ : (Act.mk _ _) = Z
  refine hK Z ?_
  subst hZ
  clear hK K
  refine kAll_tn _ (fun v W W' hk h => h.keep0 hk) (fun W hW hF => kStep_of fun K Q hK => ?_) (fun u0 K hK => ?_)
  · have h0 := F_34.out W (hW)
    have h1 := F_35.out W (hW)
    go_simp
    refine (joinI_any h0 h1 (by decide)).mono ?_
    rintro e w' ⟨u, rfl, hu, hk⟩
    exact hK _ _ hk hu
  go_simp
  generalize hZ : (Act.mk _ _) = Z
  refine hK Z ?_
  subst hZ
  clear hK K
  refine kAll_p (fun K hK => ?_)
  go_simp
  generalize hZ : (Act.mk _ _) = Z
  refine hK Z ?_
  subst hZ
  clear hK K
  refine kAll_dn _ (fun W hW hF => kStep_of fun K Q hK => ?_) (fun K hK => ?_)
  · have h0 : (fun v W => IsTB 300 W v (joinM l0 l1)) u0 W := kHas_at hF 0 rfl (by kernel_rfl)
    have h1 := F_35.out W (hW)
    go_simp
    refine (cmpI_is 1 h0 h1 (by decide) HJ.out).mono ?_
    rintro e w' ⟨rfl, hk⟩
    exact hK _ _ hk rfl
  go_simp
  generalize hZ : (Act.mk _ _) = Z
  refine hK Z ?_
  subst hZ
  clear hK K
  refine kAll_p (fun K hK => ?_)
  go_simp
  generalize hZ : (Act.mk _ _) = Z
  refine hK Z ?_
  subst hZ
  clear hK K
  refine kAll_nil (fun W38 hW hF => ?_)
  clear hF
  have hk_39 : Keep (fun _ => False) _ W38 := hW
  have F_40 := Lib.hid (fun W h => F_34.out W (keep0_trans _ _ _ hk_39 h))
  have F_41 := Lib.hid (fun W h => F_35.out W (keep0_trans _ _ _ hk_39 h))
  have F_42 := Lib.hid (fun W h => F_36.out W (keep0_trans _ _ _ hk_39 h))
  have K_43 := Lib.hid (keep0_trans _ _ _ K_37.out hk_39)
  clear hk_39 F_34 F_35 F_36 K_37
  clear hW
  go_upto_region 11 with (fail)
  refine wp_region_kord (Keep (fun _ => False)) (Keep.refl _) keep0_trans 26 (Ts := [none, none, none, none, none, none, none, none, none, none, none, none, none, none, some (.inl (.bool true)), none, none, none, none, none, some (.inr (fun v W => IsTB 300 W v (joinM l0 l1))), none, some (.inl (.bool true)), none, none, none]) ?_
  simp only [List.take, List.drop]
  refine kAll_p (fun K hK => ?_)
  go_simp
  generalize hZ : (Act.mk _ _) = Z
  refine hK Z ?_
  subst hZ
  clear hK K
  refine kAll_p (fun K hK => ?_)
  go_simp
  generalize hZ : (Act.mk _ _) = Z
  refine hK Z ?_
  subst hZ
  clear hK K
  refine kAll_p (fun K hK => ?_)
  go_simp
  generalize hZ : (Act.mk _ _) = Z
  refine hK Z ?_
  subst hZ
  clear hK K
  refine kAll_skip (by kernel_rfl) ?_
  refine kAll_skip (by kernel_rfl) ?_
  refine kAll_p (fun K hK => ?_)
  go_simp
  generalize hZ : (Act.mk _ _) = Z
  refine hK Z ?_
  subst hZ
  clear hK K
  refine kAll_p (fun K hK => ?_)
  go_simp
  generalize hZ : (Act.mk _ _) = Z
  refine hK Z ?_
  subst hZ
  clear hK K
  refine kAll_p (fun K hK => ?_)
  go_simp
  generalize hZ : (Act.mk _ _) = Z
  refine hK Z ?_
  subst hZ
  clear hK K
  refine kAll_p (fun K hK => ?_)
  go_simp
  generalize hZ : (Act.mk _ _) = Z
  refine hK Z ?_
  subst hZ
  clear hK K
  refine kAll_p (fun K hK => ?_)
  go_simp
  generalize hZ : (Act.mk _ _) = Z
  refine hK Z ?_
  subst hZ
  clear hK K
  refine kAll_pw (by kernel_rfl) (fun K hK => ?_)
  go_simp
  generalize hZ : (Act.mk _ _) = Z
  refine hK Z ?_
  subst hZ
  clear hK K
  refine kAll_pw (by kernel_rfl) (fun K hK => ?_)
  go_simp
  generalize hZ : (Act.mk _ _) = Z
  refine hK Z ?_
  subst hZ
  clear hK K
  refine kAll_pw (by kernel_rfl) (fun K hK => ?_)
  go_simp
  generalize hZ : (Act.mk _ _) = Z
  refine hK Z ?_
  subst hZ
  clear hK K
  refine kAll_pw (by kernel_rfl) (fun K hK => ?_)
  go_simp
  generalize hZ : (Act.mk _ _) = Z
  refine hK Z ?_
  subst hZ
  clear hK K
  refine kAll_dn _ (fun W hW hF => kStep_w (by kernel_rfl) fun K Q hK => ?_) (fun K hK => ?_)
  · have h0 := F_41.out W (hW)
    go_simp
    refine (mayI_is true h0 (by decide) HMb.out).mono ?_
    rintro e w' ⟨rfl, hk⟩
    exact hK _ _ hk rfl
  go_simp
  generalize hZ : (Act.mk _ _) = Z
  refine hK Z ?_
  subst hZ
  clear hK K
  refine kAll_pw (by kernel_rfl) (fun K hK => ?_)
  go_simp
  generalize hZ : (Act.mk _ _) = Z
  refine hK Z ?_
  subst hZ
  clear hK K
  refine kAll_pw (by kernel_rfl) (fun K hK => ?_)
  go_simp
  generalize hZ : (Act.mk _ _) = Z
  refine hK Z ?_
  subst hZ
  clear hK K
  refine kAll_pw (by kernel_rfl) (fun K hK => ?_)
  go_simp
  generalize hZ : (Act.mk _ _) = Z
  refine hK Z ?_
  subst hZ
  clear hK K
  refine kAll_pw (by kernel_rfl) (fun K hK => ?_)
  go_simp
  generalize hZ : (Act.mk _ _) = Z
  refine hK Z ?_
  subst hZ
  clear hK K
  refine kAll_pw (by kernel_rfl) (fun K hK => ?_)
  go_simp
  generalize hZ : (Act.mk _ _) = Z
  refine hK Z ?_
  subst hZ
  clear hK K
  refine kAll_tn _ (fun v W W' hk h => h.keep0 hk) (fun W hW hF => kStep_w (by kernel_rfl) fun K Q hK => ?_) (fun u0 K hK => ?_)
  · have h0 := F_40.out W (hW)
    have h1 := F_41.out W (hW)
    go_simp
    refine (joinI_any h0 h1 (by decide)).mono ?_
    rintro e w' ⟨u, rfl, hu, hk⟩
    exact hK _ _ hk hu
  go_simp
  generalize hZ : (Act.mk _ _) = Z
  refine hK Z ?_
  subst hZ
  clear hK K
  refine kAll_pw (by kernel_rfl) (fun K hK => ?_)
  go_simp
  generalize hZ : (Act.mk _ _) = Z
  refine hK Z ?_
  subst hZ
  clear hK K
  refine kAll_dn _ (fun W hW hF => kStep_w (by kernel_rfl) fun K Q hK => ?_) (fun K hK => ?_)
  · have h0 : (fun v W => IsTB 300 W v (joinM l0 l1)) u0 W := kHas_at hF 0 rfl (by kernel_rfl)
    have h1 := F_41.out W (hW)
    go_simp
    refine (sameI_is true h0 h1 (by decide) HJB.out).mono ?_
    rintro e w' ⟨rfl, hk⟩
    exact hK _ _ hk rfl
  go_simp
  generalize hZ : (Act.mk _ _) = Z
  refine hK Z ?_
  subst hZ
  clear hK K
  refine kAll_pw (by kernel_rfl) (fun K hK => ?_)
  go_simp
  generalize hZ : (Act.mk _ _) = Z
  refine hK Z ?_
  subst hZ
  clear hK K
  refine kAll_p (fun K hK => ?_)
  go_simp
  generalize hZ : (Act.mk _ _) = Z
  refine hK Z ?_
  subst hZ
  clear hK K
  refine kAll_p (fun K hK => ?_)
  go_simp
  generalize hZ : (Act.mk _ _) = Z
  refine hK Z ?_
  subst hZ
  clear hK K
  refine kAll_nil (fun W44 hW hF => ?_)
  clear hF
  have hk_45 : Keep (fun _ => False) _ W44 := hW
  have F_46 := Lib.hid (fun W h => F_40.out W (keep0_trans _ _ _ hk_45 h))
  have F_47 := Lib.hid (fun W h => F_41.out W (keep0_trans _ _ _ hk_45 h))
  have F_48 := Lib.hid (fun W h => F_42.out W (keep0_trans _ _ _ hk_45 h))
  have K_49 := Lib.hid (keep0_trans _ _ _ K_43.out hk_45)
  clear hk_45 F_40 F_41 F_42 K_43
  clear hW
  go_wp2
  go_ret
  exact ⟨rfl, K_49.out⟩
set_option maxRecDepth 100000 in
set_option maxHeartbeats 4000000 in
theorem stands_2d (A0 A1 A2 : Option Addr) (n0 n1 n2 c0 c1 c2 : Nat) (l0 l1 l2 : List Tick) (w : World) (HBig : Hid ([n0, n1, n2].any (fun x => decide (150 < x)) = false)) (F0 : Hid (∀ W, Keep (fun _ => False) w W → IsTB 150 W (.slice A0 n0 c0) l0)) (F1 : Hid (∀ W, Keep (fun _ => False) w W → IsTB 150 W (.slice A1 n1 c1) l1)) (F2 : Hid (∀ W, Keep (fun _ => False) w W → IsTB 150 W (.slice A2 n2 c2) l2))
    (HX : Hid (cmpM l0 l1 = 2)) (HY : Hid (cmpM l1 l0 = 3)) (HAA : Hid (cmpM l0 l0 = 1)) (HJ : Hid (cmpM (joinM l0 l1) l1 = 1)) (z : Int) (hz : (z == 2) = false) (HZ : Hid (cmpM l1 l2 = z)) (HMb : Hid (mayT l1 = false)) :
    Calls Try.prog 6 #[.slice A0 n0 c0, .slice A1 n1 c1, .slice A2 n2 c2] w (Tell (.bool true) w) := by
  have K0 := Lib.hid (Keep.refl (fun _ => False) w)
  go_enter Try.func6, Try.ntmps6
  go_upto_region 1 with (fail)
  refine wp_region_kord (Keep (fun _ => False)) (Keep.refl _) keep0_trans 9 (Ts := [some (.inl (.bool true)), none, none, none, none, none, some (.inr (fun v W => IsLg W v [n0, n1, n2])), some (.inl (.bool false)), none]) ?_
  simp only [List.take, List.drop]
  refine kAll_dn _ (fun W hW hF => kStep_of fun K Q hK => ?_) (fun K hK => ?_)
  · go_simp
    refine (works_any W).mono ?_
    rintro e w' ⟨rfl, hk⟩
    exact hK _ _ hk rfl
  go_simp
  generalize hZ : (Act.mk _ _) = Z
  refine hK Z ?_
  subst hZ
  clear hK K
  refine kAll_p (fun K hK => ?_)
  go_simp
  generalize hZ : (Act.mk _ _) = Z
  refine hK Z ?_
  subst hZ
  clear hK K
  refine kAll_p (fun K hK => ?_)
  go_simp
  generalize hZ : (Act.mk _ _) = Z
  refine hK Z ?_
  subst hZ
  clear hK K
  refine kAll_pw (by kernel_rfl) (fun K hK => ?_)
  go_simp
  generalize hZ : (Act.mk _ _) = Z
  refine hK Z ?_
  subst hZ
  clear hK K
  refine kAll_pw (by kernel_rfl) (fun K hK => ?_)
  go_simp
  generalize hZ : (Act.mk _ _) = Z
  refine hK Z ?_
  subst hZ
  clear hK K
  refine kAll_pw (by kernel_rfl) (fun K hK => ?_)
  go_simp
  generalize hZ : (Act.mk _ _) = Z
  refine hK Z ?_
  subst hZ
  clear hK K
  refine kAll_tn _ (fun v W W' hk h => h.keep0 hk) (fun W hW hF => kStep_w (by kernel_rfl) fun K Q hK => ?_) (fun u0 K hK => ?_)
  · go_simp
    exact hK _ _ ((Keep.refl _ _).alloc _) ⟨_, _, _, [(A0, n0, c0), (A1, n1, c1), (A2, n2, c2)], rfl, rfl, rfl, RdK.of_blk (Blk.new _ _ _) 3 1 rfl⟩
  go_simp
  generalize hZ : (Act.mk _ _) = Z
  refine hK Z ?_
  subst hZ
  clear hK K
  refine kAll_dn _ (fun W hW hF => kStep_w (by kernel_rfl) fun K Q hK => ?_) (fun K hK => ?_)
  · have h0 : (fun v W => IsLg W v [n0, n1, n2]) u0 W := kHas_at hF 0 rfl (by kernel_rfl)
    go_simp
    refine (large_is false h0 (by simp) HBig.out).mono ?_
    rintro e w' ⟨rfl, hk⟩
    exact hK _ _ hk rfl
  go_simp
  generalize hZ : (Act.mk _ _) = Z
  refine hK Z ?_
  subst hZ
  clear hK K
  refine kAll_p (fun K hK => ?_)
  go_simp
  generalize hZ : (Act.mk _ _) = Z
  refine hK Z ?_
  subst hZ
  clear hK K
  refine kAll_nil (fun W1 hW hF => ?_)
  clear hF
  have hk_2 : Keep (fun _ => False) _ W1 := hW
  have F_3 := Lib.hid (fun W h => F0.out W (keep0_trans _ _ _ hk_2 h))
  have F_4 := Lib.hid (fun W h => F1.out W (keep0_trans _ _ _ hk_2 h))
  have F_5 := Lib.hid (fun W h => F2.out W (keep0_trans _ _ _ hk_2 h))
  have K_6 := Lib.hid (keep0_trans _ _ _ K0.out hk_2)
  clear hk_2 F0 F1 F2 K0
  clear hW
  go_upto_region 3 with (fail)
  refine wp_region_kord (Keep (fun _ => False)) (Keep.refl _) keep0_trans 4 (Ts := [none, none, some (.inl (.int .u8 2)), none]) ?_
  simp only [List.take, List.drop]
  refine kAll_p (fun K hK => ?_)
  go_simp
  generalize hZ : (Act.mk _ _) = Z
  refine hK Z ?_
  subst hZ
  clear hK K
  refine kAll_p (fun K hK => ?_)
  go_simp
  generalize hZ : (Act.mk _ _) = Z
  refine hK Z ?_
  subst hZ
  clear hK K
  refine kAll_dn _ (fun W hW hF => kStep_of fun K Q hK => ?_) (fun K hK => ?_)
  · have h0 := F_3.out W (hW)
    have h1 := F_4.out W (hW)
    go_simp
    refine (cmpI_is 2 h0 h1 (by decide) HX.out).mono ?_
    rintro e w' ⟨rfl, hk⟩
    exact hK _ _ hk rfl
  go_simp
  generalize hZ : (Act.mk _ _) = Z
  refine hK Z ?_
  subst hZ
  clear hK K
  refine kAll_p (fun K hK => ?_)
  go_simp
  generalize hZ : (Act.mk _ _) = Z
  refine hK Z ?_
  subst hZ
  clear hK K
  refine kAll_nil (fun W7 hW hF => ?_)
  clear hF
  have hk_8 : Keep (fun _ => False) _ W7 := hW
  have F_9 := Lib.hid (fun W h => F_3.out W (keep0_trans _ _ _ hk_8 h))
  have F_10 := Lib.hid (fun W h => F_4.out W (keep0_trans _ _ _ hk_8 h))
  have F_11 := Lib.hid (fun W h => F_5.out W (keep0_trans _ _ _ hk_8 h))
  have K_12 := Lib.hid (keep0_trans _ _ _ K_6.out hk_8)
  clear hk_8 F_3 F_4 F_5 K_6
  clear hW
  go_upto_region 4 with (fail)
  refine wp_region_kord (Keep (fun _ => False)) (Keep.refl _) keep0_trans 4 (Ts := [none, none, some (.inl (.int .u8 3)), none]) ?_
  simp only [List.take, List.drop]
  refine kAll_p (fun K hK => ?_)
  go_simp
  generalize hZ : (Act.mk _ _) = Z
  refine hK Z ?_
  subst hZ
  clear hK K
  refine kAll_p (fun K hK => ?_)
  go_simp
  generalize hZ : (Act.mk _ _) = Z
  refine hK Z ?_
  subst hZ
  clear hK K
  refine kAll_dn _ (fun W hW hF => kStep_of fun K Q hK => ?_) (fun K hK => ?_)
  · have h0 := F_10.out W (hW)
    have h1 := F_9.out W (hW)
    go_simp
    refine (cmpI_is 3 h0 h1 (by decide) HY.out).mono ?_
    rintro e w' ⟨rfl, hk⟩
    exact hK _ _ hk rfl
  go_simp
  generalize hZ : (Act.mk _ _) = Z
  refine hK Z ?_
  subst hZ
  clear hK K
  refine kAll_p (fun K hK => ?_)
  go_simp
  generalize hZ : (Act.mk _ _) = Z
  refine hK Z ?_
  subst hZ
  clear hK K
  refine kAll_nil (fun W13 hW hF => ?_)
  clear hF
  have hk_14 : Keep (fun _ => False) _ W13 := hW
  have F_15 := Lib.hid (fun W h => F_9.out W (keep0_trans _ _ _ hk_14 h))
  have F_16 := Lib.hid (fun W h => F_10.out W (keep0_trans _ _ _ hk_14 h))
  have F_17 := Lib.hid (fun W h => F_11.out W (keep0_trans _ _ _ hk_14 h))
  have K_18 := Lib.hid (keep0_trans _ _ _ K_12.out hk_14)
  clear hk_14 F_9 F_10 F_11 K_12
  clear hW
  go_upto_region 5 with (fail)
  refine wp_region_kord (Keep (fun _ => False)) (Keep.refl _) keep0_trans 2 (Ts := [some (.inr (fun v W => ∃ g, v = .slice (some ⟨g, 0, none⟩) 5 5 ∧ Blk W g 5 #[.int .u8 0, .int .u8 1, .int .u8 3, .int .u8 2, .int .u8 4])), none]) ?_
  simp only [List.take, List.drop]
  refine kAll_tn _ (fun v W W' (hk : Keep (fun _ => False) W W') ⟨g, e, hb⟩ => ⟨g, e, Blk.keep hb hk (fun h => h)⟩) (fun W hW hF => kStep_of fun K Q hK => ?_) (fun u0 K hK => ?_)
  · go_simp
    exact hK _ _ ((Keep.refl _ _).alloc _) ⟨_, rfl, Blk.new _ _ _⟩
  go_simp
  generalize hZ : (Act.mk _ _) = Z
  refine hK Z ?_
  subst hZ
  clear hK K
  refine kAll_p (fun K hK => ?_)
  go_simp
  generalize hZ : (Act.mk _ _) = Z
  refine hK Z ?_
  subst hZ
  clear hK K
  refine kAll_nil (fun W19 hW hF => ?_)
  have ht : (fun v W => ∃ g, v = .slice (some ⟨g, 0, none⟩) 5 5 ∧ Blk W g 5 #[.int .u8 0, .int .u8 1, .int .u8 3, .int .u8 2, .int .u8 4]) u0 W19 := kAllHas_at hF 0 rfl
  obtain ⟨g, rfl, hg⟩ := ht
  have HT := Lib.hid hg
  clear hg
  clear hF
  have hk_20 : Keep (fun _ => False) _ W19 := hW
  have F_21 := Lib.hid (fun W h => F_15.out W (keep0_trans _ _ _ hk_20 h))
  have F_22 := Lib.hid (fun W h => F_16.out W (keep0_trans _ _ _ hk_20 h))
  have F_23 := Lib.hid (fun W h => F_17.out W (keep0_trans _ _ _ hk_20 h))
  have K_24 := Lib.hid (keep0_trans _ _ _ K_18.out hk_20)
  clear hk_20 F_15 F_16 F_17 K_18
  clear hW
  go_upto_region 6 with (fail)
  refine wp_region_kord (Keep (fun _ => False)) (Keep.refl _) keep0_trans 20 (Ts := [none, none, none, none, none, none, none, none, none, none, none, some (.inl (.int .u8 3)), none, none, none, none, none, some (.inl (.int .u8 1)), none, none]) ?_
  simp only [List.take, List.drop]
  refine kAll_p (fun K hK => ?_)
  go_simp
  generalize hZ : (Act.mk _ _) = Z
  refine hK Z ?_
  subst hZ
  clear hK K
  refine kAll_p (fun K hK => ?_)
  go_simp
  generalize hZ : (Act.mk _ _) = Z
  refine hK Z ?_
  subst hZ
  clear hK K
  refine kAll_p (fun K hK => ?_)
  go_simp
  generalize hZ : (Act.mk _ _) = Z
  refine hK Z ?_
  subst hZ
  clear hK K
  refine kAll_pw (by kernel_rfl) (fun K hK => ?_)
  go_simp
  generalize hZ : (Act.mk _ _) = Z
  refine hK Z ?_
  subst hZ
  clear hK K
  refine kAll_pw (by kernel_rfl) (fun K hK => ?_)
  go_simp
  generalize hZ : (Act.mk _ _) = Z
  refine hK Z ?_
  subst hZ
  clear hK K
  refine kAll_p (fun K hK => ?_)
  go_simp
  generalize hZ : (Act.mk _ _) = Z
  refine hK Z ?_
  subst hZ
  clear hK K
  refine kAll_p (fun K hK => ?_)
  go_simp
  generalize hZ : (Act.mk _ _) = Z
  refine hK Z ?_
  subst hZ
  clear hK K
  refine kAll_pw (by kernel_rfl) (fun K hK => ?_)
  go_simp
  generalize hZ : (Act.mk _ _) = Z
  refine hK Z ?_
  subst hZ
  clear hK K
  refine kAll_pw (by kernel_rfl) (fun K hK => ?_)
  go_simp
  generalize hZ : (Act.mk _ _) = Z
  refine hK Z ?_
  subst hZ
  clear hK K
  refine kAll_pw (by kernel_rfl) (fun K hK => ?_)
  go_simp
  generalize hZ : (Act.mk _ _) = Z
  refine hK Z ?_
  subst hZ
  clear hK K
  refine kAll_pw (by kernel_rfl) (fun K hK => ?_)
  go_simp
  generalize hZ : (Act.mk _ _) = Z
  refine hK Z ?_
  subst hZ
  clear hK K
  refine kAll_dn _ (fun W hW hF => kStep_w (by kernel_rfl) fun K Q hK => ?_) (fun K hK => ?_)
  · have e0 := (HT.out.keep hW (fun h => h)).cell 0
    have e1 := (HT.out.keep hW (fun h => h)).cell 1
    have e2 := (HT.out.keep hW (fun h => h)).cell 2
    have e3 := (HT.out.keep hW (fun h => h)).cell 3
    have e4 := (HT.out.keep hW (fun h => h)).cell 4
    simp at e0 e1 e2 e3 e4
    go_simp
    exact hK _ _ (Keep.refl _ _) rfl
  go_simp
  generalize hZ : (Act.mk _ _) = Z
  refine hK Z ?_
  subst hZ
  clear hK K
  refine kAll_pw (by kernel_rfl) (fun K hK => ?_)
  go_simp
  generalize hZ : (Act.mk _ _) = Z
  refine hK Z ?_
  subst hZ
  clear hK K
  refine kAll_p (fun K hK => ?_)
  go_simp
  generalize hZ : (Act.mk _ _) = Z
  refine hK Z ?_
  subst hZ
  clear hK K
  refine kAll_p (fun K hK => ?_)
  go_simp
  generalize hZ : (Act.mk _ _) = Z
  refine hK Z ?_
  subst hZ
  clear hK K
  refine kAll_pw (by kernel_rfl) (fun K hK => ?_)
  go_simp
  generalize hZ : (Act.mk _ _) = Z
  refine hK Z ?_
  subst hZ
  clear hK K
  refine kAll_pw (by kernel_rfl) (fun K hK => ?_)
  go_simp
  generalize hZ : (Act.mk _ _) = Z
  refine hK Z ?_
  subst hZ
  clear hK K
  refine kAll_dn _ (fun W hW hF => kStep_w (by kernel_rfl) fun K Q hK => ?_) (fun K hK => ?_)
  · have h0 := F_21.out W (hW)
    have h1 := F_21.out W (hW)
    go_simp
    refine (cmpI_is 1 h0 h1 (by decide) HAA.out).mono ?_
    rintro e w' ⟨rfl, hk⟩
    exact hK _ _ hk rfl
  go_simp
  generalize hZ : (Act.mk _ _) = Z
  refine hK Z ?_
  subst hZ
  clear hK K
  refine kAll_pw (by kernel_rfl) (fun K hK => ?_)
  go_simp
  generalize hZ : (Act.mk _ _) = Z
  refine hK Z ?_
  subst hZ
  clear hK K
  refine kAll_p (fun K hK => ?_)
  go_simp
  generalize hZ : (Act.mk _ _) = Z
  refine hK Z ?_
  subst hZ
  clear hK K
  refine kAll_nil (fun W25 hW hF => ?_)
  clear hF
  have hk_26 : Keep (fun _ => False) _ W25 := hW
  have B_27 := Lib.hid (HT.out.keep hk_26 (fun h => h))
  have F_28 := Lib.hid (fun W h => F_21.out W (keep0_trans _ _ _ hk_26 h))
  have F_29 := Lib.hid (fun W h => F_22.out W (keep0_trans _ _ _ hk_26 h))
  have F_30 := Lib.hid (fun W h => F_23.out W (keep0_trans _ _ _ hk_26 h))
  have K_31 := Lib.hid (keep0_trans _ _ _ K_24.out hk_26)
  clear hk_26 HT F_21 F_22 F_23 K_24
  clear hW
  go_upto_region 8 with (fail)
  refine wp_region_kord (Keep (fun _ => False)) (Keep.refl _) keep0_trans 14 (Ts := [none, none, none, none, none, some (.inl (.int .u8 z)), none, none, none, none, none, none, none, none]) ?_
  simp only [List.take, List.drop]
  refine kAll_p (fun K hK => ?_)
  go_simp
  generalize hZ : (Act.mk _ _) = Z
  refine hK Z ?_
  subst hZ
  clear hK K
  refine kAll_p (fun K hK => ?_)
  go_simp
  generalize hZ : (Act.mk _ _) = Z
  refine hK Z ?_
  subst hZ
  clear hK K
  refine kAll_p (fun K hK => ?_)
  go_simp
  generalize hZ : (Act.mk _ _) = Z
  refine hK Z ?_
  subst hZ
  clear hK K
  refine kAll_pw (by kernel_rfl) (fun K hK => ?_)
  go_simp
  generalize hZ : (Act.mk _ _) = Z
  refine hK Z ?_
  subst hZ
  clear hK K
  refine kAll_pw (by kernel_rfl) (fun K hK => ?_)
  go_simp
  generalize hZ : (Act.mk _ _) = Z
  refine hK Z ?_
  subst hZ
  clear hK K
  refine kAll_dn _ (fun W hW hF => kStep_w (by kernel_rfl) fun K Q hK => ?_) (fun K hK => ?_)
  · have h0 := F_29.out W (hW)
    have h1 := F_30.out W (hW)
    go_simp
    refine (cmpI_is z h0 h1 (by decide) HZ.out).mono ?_
    rintro e w' ⟨rfl, hk⟩
    exact hK _ _ hk rfl
  go_simp
  generalize hZ : (Act.mk _ _) = Z
  refine hK Z ?_
  subst hZ
  clear hK K
  refine kAll_pw (by kernel_rfl) (fun K hK => ?_)
  go_simp
  generalize hZ : (Act.mk _ _) = Z
  refine hK Z ?_
  subst hZ
  clear hK K
  refine kAll_p (fun K hK => ?_)
  go_simp
  generalize hZ : (Act.mk _ _) = Z
  refine hK Z ?_
  subst hZ
  clear hK K
  refine kAll_p (fun K hK => ?_)
  go_simp
  generalize hZ : (Act.mk _ _) = Z
  refine hK Z ?_
  subst hZ
  clear hK K
  refine kAll_skip (by kernel_rfl) ?_
  refine kAll_skip (by kernel_rfl) ?_
  refine kAll_skip (by kernel_rfl) ?_
  refine kAll_skip (by kernel_rfl) ?_
  refine kAll_p (fun K hK => ?_)
  go_simp
  generalize hZ : (Act.mk _ _) = Z
  refine hK Z ?_
  subst hZ
  clear hK K
  refine kAll_nil (fun W32 hW hF => ?_)
  clear hF
  have hk_33 : Keep (fun _ => False) _ W32 := hW
  have F_34 := Lib.hid (fun W h => F_28.out W (keep0_trans _ _ _ hk_33 h))
  have F_35 := Lib.hid (fun W h => F_29.out W (keep0_trans _ _ _ hk_33 h))
  have F_36 := Lib.hid (fun W h => F_30.out W (keep0_trans _ _ _ hk_33 h))
  have K_37 := Lib.hid (keep0_trans _ _ _ K_31.out hk_33)
  clear hk_33 F_28 F_29 F_30 K_31
  clear hW
  go_upto_region 10 with (fail)
  refine wp_region_kord (Keep (fun _ => False)) (Keep.refl _) keep0_trans 6 (Ts := [none, none, some (.inr (fun v W => IsTB 300 W v (joinM l0 l1))), none, some (.inl (.int .u8 1)), none]) ?_
  simp only [List.take, List.drop]
  refine kAll_p (fun K hK => ?_)
  go_simp
  generalize hZ : (Act.mk _ _) = Z
  refine hK Z ?_
  subst hZ
  clear hK K
  refine kAll_p (fun K hK => ?_)
  go_simp
  generalize hZ : (Act.mk _ _) = Z
  refine hK Z ?_
  subst hZ
  clear hK K
  refine kAll_tn _ (fun v W W' hk h => h.keep0 hk) (fun W hW hF => kStep_of fun K Q hK => ?_) (fun u0 K hK => ?_)
  · have h0 := F_34.out W (hW)
    have h1 := F_35.out W (hW)
    go_simp
    refine (joinI_any h0 h1 (by decide)).mono ?_
    rintro e w' ⟨u, rfl, hu, hk⟩
    exact hK _ _ hk hu
  go_simp
  generalize hZ : (Act.mk _ _) = Z
  refine hK Z ?_
  subst hZ
  clear hK K
  refine kAll_p (fun K hK => ?_)
  go_simp
  generalize hZ : (Act.mk _ _) = Z
  refine hK Z ?_
  subst hZ
  clear hK K
  refine kAll_dn _ (fun W hW hF => kStep_of fun K Q hK => ?_) (fun K hK => ?_)
  · have h0 : (fun v W => IsTB 300 W v (joinM l0 l1)) u0 W := kHas_at hF 0 rfl (by kernel_rfl)
    have h1 := F_35.out W (hW)
    go_simp
    refine (cmpI_is 1 h0 h1 (by decide) HJ.out).mono ?_
    rintro e w' ⟨rfl, hk⟩
    exact hK _ _ hk rfl
  go_simp
  generalize hZ : (Act.mk _ _) = Z
  refine hK Z ?_
  subst hZ
  clear hK K
  refine kAll_p (fun K hK => ?_)
  go_simp
  generalize hZ : (Act.mk _ _) = Z
  refine hK Z ?_
  subst hZ
  clear hK K
  refine kAll_nil (fun W38 hW hF => ?_)
  clear hF
  have hk_39 : Keep (fun _ => False) _ W38 := hW
  have F_40 := Lib.hid (fun W h => F_34.out W (keep0_trans _ _ _ hk_39 h))
  have F_41 := Lib.hid (fun W h => F_35.out W (keep0_trans _ _ _ hk_39 h))
  have F_42 := Lib.hid (fun W h => F_36.out W (keep0_trans _ _ _ hk_39 h))
  have K_43 := Lib.hid (keep0_trans _ _ _ K_37.out hk_39)
  clear hk_39 F_34 F_35 F_36 K_37
  clear hW
  go_upto_region 11 with (fail)
  refine wp_region_kord (Keep (fun _ => False)) (Keep.refl _) keep0_trans 26 (Ts := [none, none, none, none, none, none, none, none, none, none, none, none, none, none, some (.inl (.bool false)), none, none, none, none, none, none, none, none, none, none, none]) ?_
  simp only [List.take, List.drop]
  refine kAll_p (fun K hK => ?_)
  go_simp
  generalize hZ : (Act.mk _ _) = Z
  refine hK Z ?_
  subst hZ
  clear hK K
  refine kAll_p (fun K hK => ?_)
  go_simp
  generalize hZ : (Act.mk _ _) = Z
  refine hK Z ?_
  subst hZ
  clear hK K
  refine kAll_p (fun K hK => ?_)
  go_simp
  generalize hZ : (Act.mk _ _) = Z
  refine hK Z ?_
  subst hZ
  clear hK K
  refine kAll_skip (by kernel_rfl) ?_
  refine kAll_skip (by kernel_rfl) ?_
  refine kAll_p (fun K hK => ?_)
  go_simp
  generalize hZ : (Act.mk _ _) = Z
  refine hK Z ?_
  subst hZ
  clear hK K
  refine kAll_p (fun K hK => ?_)
  go_simp
  generalize hZ : (Act.mk _ _) = Z
  refine hK Z ?_
  subst hZ
  clear hK K
  refine kAll_p (fun K hK => ?_)
  go_simp
  generalize hZ : (Act.mk _ _) = Z
  refine hK Z ?_
  subst hZ
  clear hK K
  refine kAll_p (fun K hK => ?_)
  go_simp
  generalize hZ : (Act.mk _ _) = Z
  refine hK Z ?_
  subst hZ
  clear hK K
  refine kAll_p (fun K hK => ?_)
  go_simp
  generalize hZ : (Act.mk _ _) = Z
  refine hK Z ?_
  subst hZ
  clear hK K
  refine kAll_pw (by kernel_rfl) (fun K hK => ?_)
  go_simp
  generalize hZ : (Act.mk _ _) = Z
  refine hK Z ?_
  subst hZ
  clear hK K
  refine kAll_pw (by kernel_rfl) (fun K hK => ?_)
  go_simp
  generalize hZ : (Act.mk _ _) = Z
  refine hK Z ?_
  subst hZ
  clear hK K
  refine kAll_pw (by kernel_rfl) (fun K hK => ?_)
  go_simp
  generalize hZ : (Act.mk _ _) = Z
  refine hK Z ?_
  subst hZ
  clear hK K
  refine kAll_pw (by kernel_rfl) (fun K hK => ?_)
  go_simp
  generalize hZ : (Act.mk _ _) = Z
  refine hK Z ?_
  subst hZ
  clear hK K
  refine kAll_dn _ (fun W hW hF => kStep_w (by kernel_rfl) fun K Q hK => ?_) (fun K hK => ?_)
  · have h0 := F_41.out W (hW)
    go_simp
    refine (mayI_is false h0 (by decide) HMb.out).mono ?_
    rintro e w' ⟨rfl, hk⟩
    exact hK _ _ hk rfl
  go_simp
  generalize hZ : (Act.mk _ _) = Z
  refine hK Z ?_
  subst hZ
  clear hK K
  refine kAll_pw (by kernel_rfl) (fun K hK => ?_)
  go_simp
  generalize hZ : (Act.mk _ _) = Z
  refine hK Z ?_
  subst hZ
  clear hK K
  refine kAll_pw (by kernel_rfl) (fun K hK => ?_)
  go_simp
  generalize hZ : (Act.mk _ _) = Z
  refine hK Z ?_
  subst hZ
  clear hK K
  refine kAll_pw (by kernel_rfl) (fun K hK => ?_)
  go_simp
  generalize hZ : (Act.mk _ _) = Z
  refine hK Z ?_
  subst hZ
  clear hK K
  refine kAll_skip (by kernel_rfl) ?_
  refine kAll_skip (by kernel_rfl) ?_
  refine kAll_skip (by kernel_rfl) ?_
  refine kAll_skip (by kernel_rfl) ?_
  refine kAll_skip (by kernel_rfl) ?_
  refine kAll_pw (by kernel_rfl) (fun K hK => ?_)
  go_simp
  generalize hZ : (Act.mk _ _) = Z
  refine hK Z ?_
  subst hZ
  clear hK K
  refine kAll_p (fun K hK => ?_)
  go_simp
  generalize hZ : (Act.mk _ _) = Z
  refine hK Z ?_
  subst hZ
  clear hK K
  refine kAll_p (fun K hK => ?_)
  go_simp
  generalize hZ : (Act.mk _ _) = Z
  refine hK Z ?_
  subst hZ
  clear hK K
  refine kAll_nil (fun W44 hW hF => ?_)
  clear hF
  have hk_45 : Keep (fun _ => False) _ W44 := hW
  have F_46 := Lib.hid (fun W h => F_40.out W (keep0_trans _ _ _ hk_45 h))
  have F_47 := Lib.hid (fun W h => F_41.out W (keep0_trans _ _ _ hk_45 h))
  have F_48 := Lib.hid (fun W h => F_42.out W (keep0_trans _ _ _ hk_45 h))
  have K_49 := Lib.hid (keep0_trans _ _ _ K_43.out hk_45)
  clear hk_45 F_40 F_41 F_42 K_43
  clear hW
  go_wp2
  go_ret
  exact ⟨rfl, K_49.out⟩
theorem cmpM_of (a b : List Tick) : (leC a b → leC b a → cmpM a b = 1) ∧ (leC a b → ¬ leC b a → cmpM a b = 2) ∧ (¬ leC a b → leC b a → cmpM a b = 3) ∧ (¬ leC a b → ¬ leC b a → cmpM a b = 4) := by
  rcases cmpM_cases a b with ⟨h1, h2, h⟩ | ⟨h1, h2, h⟩ | ⟨h1, h2, h⟩ | ⟨h1, h2, h⟩ <;> exact ⟨fun q1 q2 => by first | exact h | exact absurd q1 h1 | exact absurd q2 h2 | exact absurd h1 q1 | exact absurd h2 q2, fun q1 q2 => by first | exact h | exact absurd q1 h1 | exact absurd q2 h2 | exact absurd h1 q1 | exact absurd h2 q2, fun q1 q2 => by first | exact h | exact absurd q1 h1 | exact absurd q2 h2 | exact absurd h1 q1 | exact absurd h2 q2, fun q1 q2 => by first | exact h | exact absurd q1 h1 | exact absurd q2 h2 | exact absurd h1 q1 | exact absurd h2 q2⟩
theorem leC_joinL {a b : List Tick} : leC (joinM a b) b ↔ leC a b := ⟨fun h => leC_trans (leC_left a b) h, fun h => leC_join h (leC_refl b)⟩
theorem stands_tell (A0 A1 A2 : Option Addr) (n0 n1 n2 c0 c1 c2 : Nat) (l0 l1 l2 : List Tick) (w : World) (h0 : RdT w A0 n0 l0) (h1 : RdT w A1 n1 l1) (h2 : RdT w A2 n2 l2) :
    Calls Try.prog 6 #[.slice A0 n0 c0, .slice A1 n1 c1, .slice A2 n2 c2] w (Tell (.bool true) w) := by
  rcases big_or [n0, n1, n2] with hb | ⟨hb, hle⟩
  · exact stands_big A0 A1 A2 n0 n1 n2 c0 c1 c2 w (Lib.hid hb)
  · have HBig := Lib.hid hb
    have b0 : n0 ≤ 150 := hle n0 (by simp)
    have b1 : n1 ≤ 150 := hle n1 (by simp)
    have b2 : n2 ≤ 150 := hle n2 (by simp)
    have F0 : Hid (∀ W, Keep (fun _ => False) w W → IsTB 150 W (.slice A0 n0 c0) l0) := Lib.hid fun W h => ⟨_, _, _, rfl, h0.keep0 h, b0⟩
    have F1 : Hid (∀ W, Keep (fun _ => False) w W → IsTB 150 W (.slice A1 n1 c1) l1) := Lib.hid fun W h => ⟨_, _, _, rfl, h1.keep0 h, b1⟩
    have F2 : Hid (∀ W, Keep (fun _ => False) w W → IsTB 150 W (.slice A2 n2 c2) l2) := Lib.hid fun W h => ⟨_, _, _, rfl, h2.keep0 h, b2⟩
    have HAA := Lib.hid ((cmpM_of l0 l0).1 (leC_refl _) (leC_refl _))
    have hr := leC_right l0 l1
    rcases cmpM_cases l0 l1 with ⟨g1, g2, g⟩ | ⟨g1, g2, g⟩ | ⟨g1, g2, g⟩ | ⟨g1, g2, g⟩
    · exact stands_1 A0 A1 A2 n0 n1 n2 c0 c1 c2 l0 l1 l2 w HBig F0 F1 F2 (Lib.hid g) (Lib.hid ((cmpM_of _ _).1 g2 g1)) HAA (Lib.hid ((cmpM_of _ _).1 (leC_joinL.2 g1) hr))
    · have HX := Lib.hid g
      have HY := Lib.hid ((cmpM_of l1 l0).2.2.1 g2 g1)
      have HJ := Lib.hid ((cmpM_of _ _).1 (leC_joinL.2 g1) hr)
      by_cases hz : cmpM l1 l2 = 2
      · have hac : cmpM l0 l2 = 2 := by
          rcases cmpM_cases l1 l2 with ⟨q1, q2, q⟩ | ⟨q1, q2, q⟩ | ⟨q1, q2, q⟩ | ⟨q1, q2, q⟩
          · rw [q] at hz; cases hz
          · exact (cmpM_of _ _).2.1 (leC_trans g1 q1) (fun e => g2 (leC_trans q1 e))
          · rw [q] at hz; cases hz
          · rw [q] at hz; cases hz
        cases mb : mayT l1
        · exact stands_2b A0 A1 A2 n0 n1 n2 c0 c1 c2 l0 l1 l2 w HBig F0 F1 F2 HX HY HAA HJ (Lib.hid hz) (Lib.hid hac) (Lib.hid mb)
        · exact stands_2a A0 A1 A2 n0 n1 n2 c0 c1 c2 l0 l1 l2 w HBig F0 F1 F2 HX HY HAA HJ (Lib.hid hz) (Lib.hid hac) (Lib.hid mb) (Lib.hid (decide_eq_true (by rw [joinM_comm]; exact joinM_of ((mayT_iff _).1 mb) g1)))
      · have hz' : (cmpM l1 l2 == 2) = false := by simpa using hz
        cases mb : mayT l1
        · exact stands_2d A0 A1 A2 n0 n1 n2 c0 c1 c2 l0 l1 l2 w HBig F0 F1 F2 HX HY HAA HJ _ hz' (Lib.hid rfl) (Lib.hid mb)
        · exact stands_2c A0 A1 A2 n0 n1 n2 c0 c1 c2 l0 l1 l2 w HBig F0 F1 F2 HX HY HAA HJ _ hz' (Lib.hid rfl) (Lib.hid mb) (Lib.hid (decide_eq_true (by rw [joinM_comm]; exact joinM_of ((mayT_iff _).1 mb) g1)))
    · exact stands_3 A0 A1 A2 n0 n1 n2 c0 c1 c2 l0 l1 l2 w HBig F0 F1 F2 (Lib.hid g) (Lib.hid ((cmpM_of _ _).2.1 g2 g1)) HAA (Lib.hid ((cmpM_of _ _).2.2.1 (fun e => g1 (leC_joinL.1 e)) hr))
    · exact stands_4 A0 A1 A2 n0 n1 n2 c0 c1 c2 l0 l1 l2 w HBig F0 F1 F2 (Lib.hid g) (Lib.hid ((cmpM_of _ _).2.2.2 g2 g1)) HAA (Lib.hid ((cmpM_of _ _).2.2.1 (fun e => g1 (leC_joinL.1 e)) hr))
theorem walkClockStands {w : World} (v0 : Value) (w0 : InTs w v0) (v1 : Value) (w1 : InTs w v1) (v2 : Value) (w2 : InTs w v2) :
    Calls Try.prog 6 #[v0, v1, v2] w fun e w' => e = .returned (.bool true) ∧ Below w.heap.size w w' := by
  obtain ⟨A0, n0, c0, l0, rfl, _, _, h0⟩ := w0
  obtain ⟨A1, n1, c1, l1, rfl, _, _, h1⟩ := w1
  obtain ⟨A2, n2, c2, l2, rfl, _, _, h2⟩ := w2
  exact (stands_tell A0 A1 A2 n0 n1 n2 c0 c1 c2 l0 l1 l2 w h0 h1 h2).mono fun _ _ ⟨h, k⟩ => ⟨h, k.b⟩
end Go.Proofs.Ytljmpjkfdkcjnaa
