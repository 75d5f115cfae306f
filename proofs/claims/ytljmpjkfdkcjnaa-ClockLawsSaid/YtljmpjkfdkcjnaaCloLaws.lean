/-
  The statement ClockLaws. Written by gen_laws.py.
-/
import Derived.Test.YtljmpjkfdkcjnaaCloK
import Derived.Test.YtljmpjkfdkcjnaaKord
namespace Go.Proofs.Ytljmpjkfdkcjnaa
open Go.RowKit
attribute [local irreducible] kAll
attribute [local go_sem] kQuiet kQuietUpon

theorem big_or (l : List Nat) : l.any (fun x => decide (150 < x)) = true ∨ (l.any (fun x => decide (150 < x)) = false ∧ ∀ x ∈ l, x ≤ 150) := by
  cases h : l.any (fun x => decide (150 < x))
  · rw [List.any_eq_false] at h
    exact .inr ⟨rfl, fun x hx => by have := h x hx; simp at this; exact this⟩
  · exact .inl rfl
theorem leC_nil (a : List Tick) : leC [] a := fun id => getM_nn a id
set_option maxRecDepth 100000 in
set_option maxHeartbeats 4000000 in
theorem laws_tell (A0 A1 A2 : Option Addr) (n0 n1 n2 c0 c1 c2 : Nat) (l0 l1 l2 : List Tick) (w : World) (h0 : RdT w A0 n0 l0) (h1 : RdT w A1 n1 l1) (h2 : RdT w A2 n2 l2) :
    Calls Try.prog 5 #[.slice A0 n0 c0, .slice A1 n1 c1, .slice A2 n2 c2] w (Tell (.bool true) w) := by
  have K0 := Lib.hid (Keep.refl (fun _ => False) w)
  rcases big_or [n0, n1, n2] with hb | ⟨hb, hle⟩
  · have HBig := Lib.hid hb
    clear hb h0 h1 h2
    go_enter Try.func5, Try.ntmps5
    go_upto_region 1 with (fail)
    refine wp_region_kord (Keep (fun _ => False)) (Keep.refl _) keep0_trans 9 (Ts := [some (.inl (.bool true)), none, none, none, none, none, some (.inr (fun v W => IsLg W v [n0, n1, n2])), some (.inl (.bool true)), none]) ?_
    simp only [List.take, List.drop]
    refine kAll_dn _ (fun W hW hF => kStep_of fun K Q hK => ?_) (fun K hK => ?_)
    · go_simp
      refine (works_any W).mono ?_
      rintro e w' ⟨rfl, hk⟩
      exact hK _ _ hk rfl
    go_simp
    generalize hZ : (Act.mk _ _) = Z
    refine hK Z ?_
    subst hZ
    clear hK K
    refine kAll_p (fun K hK => ?_)
    go_simp
    generalize hZ : (Act.mk _ _) = Z
    refine hK Z ?_
    subst hZ
    clear hK K
    refine kAll_p (fun K hK => ?_)
    go_simp
    generalize hZ : (Act.mk _ _) = Z
    refine hK Z ?_
    subst hZ
    clear hK K
    refine kAll_pw (by kernel_rfl) (fun K hK => ?_)
    go_simp
    generalize hZ : (Act.mk _ _) = Z
    refine hK Z ?_
    subst hZ
    clear hK K
    refine kAll_pw (by kernel_rfl) (fun K hK => ?_)
    go_simp
    generalize hZ : (Act.mk _ _) = Z
    refine hK Z ?_
    subst hZ
    clear hK K
    refine kAll_pw (by kernel_rfl) (fun K hK => ?_)
    go_simp
    generalize hZ : (Act.mk _ _) = Z
    refine hK Z ?_
    subst hZ
    clear hK K
    refine kAll_tn _ (fun v W W' hk h => h.keep0 hk) (fun W hW hF => kStep_w (by kernel_rfl) fun K Q hK => ?_) (fun u0 K hK => ?_)
    · go_simp
      exact hK _ _ ((Keep.refl _ _).alloc _) ⟨_, _, _, [(A0, n0, c0), (A1, n1, c1), (A2, n2, c2)], rfl, rfl, rfl, RdK.of_blk (Blk.new _ _ _) 3 1 rfl⟩
    go_simp
    generalize hZ : (Act.mk _ _) = Z
    refine hK Z ?_
    subst hZ
    clear hK K
    refine kAll_dn _ (fun W hW hF => kStep_w (by kernel_rfl) fun K Q hK => ?_) (fun K hK => ?_)
    · have h0 : (fun v W => IsLg W v [n0, n1, n2]) u0 W := kHas_at hF 0 rfl (by kernel_rfl)
      go_simp
      refine (large_is true h0 (by simp) HBig.out).mono ?_
      rintro e w' ⟨rfl, hk⟩
      exact hK _ _ hk rfl
    go_simp
    generalize hZ : (Act.mk _ _) = Z
    refine hK Z ?_
    subst hZ
    clear hK K
    refine kAll_p (fun K hK => ?_)
    go_simp
    generalize hZ : (Act.mk _ _) = Z
    refine hK Z ?_
    subst hZ
    clear hK K
    refine kAll_nil (fun W1 hW hF => ?_)
    clear hF
    have hk_2 : Keep (fun _ => False) _ W1 := hW
    have K_3 := Lib.hid (keep0_trans _ _ _ K0.out hk_2)
    clear hk_2 K0
    clear hW
    go_wp2_with fail
    refine (works_any _).mono ?_
    rintro e w2 ⟨rfl, hk⟩
    have KZ := Lib.hid (keep0_trans _ _ _ K_3.out hk)
    clear hk
    go_wp2
    go_ret
    exact ⟨rfl, KZ.out⟩
  · have HBig := Lib.hid hb
    have b0 : n0 ≤ 150 := hle n0 (by simp)
    have b1 : n1 ≤ 150 := hle n1 (by simp)
    have b2 : n2 ≤ 150 := hle n2 (by simp)
    have F0 : Hid (∀ W, Keep (fun _ => False) w W → IsTB 150 W (.slice A0 n0 c0) l0) := Lib.hid fun W h => ⟨_, _, _, rfl, h0.keep0 h, b0⟩
    have F1 : Hid (∀ W, Keep (fun _ => False) w W → IsTB 150 W (.slice A1 n1 c1) l1) := Lib.hid fun W h => ⟨_, _, _, rfl, h1.keep0 h, b1⟩
    have F2 : Hid (∀ W, Keep (fun _ => False) w W → IsTB 150 W (.slice A2 n2 c2) l2) := Lib.hid fun W h => ⟨_, _, _, rfl, h2.keep0 h, b2⟩
    have HL0 := Lib.hid h0.1
    have HL1 := Lib.hid h1.1
    clear hb hle h0 h1 h2
    cases ma : mayT l0
    · have HMa := Lib.hid ma
      clear ma
      go_enter Try.func5, Try.ntmps5
      go_upto_region 1 with (fail)
      refine wp_region_kord (Keep (fun _ => False)) (Keep.refl _) keep0_trans 9 (Ts := [some (.inl (.bool true)), none, none, none, none, none, some (.inr (fun v W => IsLg W v [n0, n1, n2])), some (.inl (.bool false)), none]) ?_
      simp only [List.take, List.drop]
      refine kAll_dn _ (fun W hW hF => kStep_of fun K Q hK => ?_) (fun K hK => ?_)
      · go_simp
        refine (works_any W).mono ?_
        rintro e w' ⟨rfl, hk⟩
        exact hK _ _ hk rfl
      go_simp
      generalize hZ : (Act.mk _ _) = Z
      refine hK Z ?_
      subst hZ
      clear hK K
      refine kAll_p (fun K hK => ?_)
      go_simp
      generalize hZ : (Act.mk _ _) = Z
      refine hK Z ?_
      subst hZ
      clear hK K
      refine kAll_p (fun K hK => ?_)
      go_simp
      generalize hZ : (Act.mk _ _) = Z
      refine hK Z ?_
      subst hZ
      clear hK K
      refine kAll_pw (by kernel_rfl) (fun K hK => ?_)
      go_simp
      generalize hZ : (Act.mk _ _) = Z
      refine hK Z ?_
      subst hZ
      clear hK K
      refine kAll_pw (by kernel_rfl) (fun K hK => ?_)
      go_simp
      generalize hZ : (Act.mk _ _) = Z
      refine hK Z ?_
      subst hZ
      clear hK K
      refine kAll_pw (by kernel_rfl) (fun K hK => ?_)
      go_simp
      generalize hZ : (Act.mk _ _) = Z
      refine hK Z ?_
      subst hZ
      clear hK K
      refine kAll_tn _ (fun v W W' hk h => h.keep0 hk) (fun W hW hF => kStep_w (by kernel_rfl) fun K Q hK => ?_) (fun u0 K hK => ?_)
      · go_simp
        exact hK _ _ ((Keep.refl _ _).alloc _) ⟨_, _, _, [(A0, n0, c0), (A1, n1, c1), (A2, n2, c2)], rfl, rfl, rfl, RdK.of_blk (Blk.new _ _ _) 3 1 rfl⟩
      go_simp
      generalize hZ : (Act.mk _ _) = Z
      refine hK Z ?_
      subst hZ
      clear hK K
      refine kAll_dn _ (fun W hW hF => kStep_w (by kernel_rfl) fun K Q hK => ?_) (fun K hK => ?_)
      · have h0 : (fun v W => IsLg W v [n0, n1, n2]) u0 W := kHas_at hF 0 rfl (by kernel_rfl)
        go_simp
        refine (large_is false h0 (by simp) HBig.out).mono ?_
        rintro e w' ⟨rfl, hk⟩
        exact hK _ _ hk rfl
      go_simp
      generalize hZ : (Act.mk _ _) = Z
      refine hK Z ?_
      subst hZ
      clear hK K
      refine kAll_p (fun K hK => ?_)
      go_simp
      generalize hZ : (Act.mk _ _) = Z
      refine hK Z ?_
      subst hZ
      clear hK K
      refine kAll_nil (fun W1 hW hF => ?_)
      clear hF
      have hk_2 : Keep (fun _ => False) _ W1 := hW
      have F_3 := Lib.hid (fun W h => F0.out W (keep0_trans _ _ _ hk_2 h))
      have F_4 := Lib.hid (fun W h => F1.out W (keep0_trans _ _ _ hk_2 h))
      have F_5 := Lib.hid (fun W h => F2.out W (keep0_trans _ _ _ hk_2 h))
      have K_6 := Lib.hid (keep0_trans _ _ _ K0.out hk_2)
      clear hk_2 F0 F1 F2 K0
      clear hW
      go_upto_region 4 with (fail)
      refine wp_region_kord (Keep (fun _ => False)) (Keep.refl _) keep0_trans 45 (Ts := [none, none, none, some (.inr (fun v W => IsTB 300 W v (joinM l0 l1))), none, none, some (.inr (fun v W => IsTB 300 W v (joinM l1 l0))), some (.inl (.bool true)), none, none, none, none, none, some (.inr (fun v W => IsTB 300 W v (joinM l0 l1))), none, some (.inr (fun v W => IsTB 450 W v (joinM (joinM l0 l1) l2))), none, none, none, some (.inr (fun v W => IsTB 300 W v (joinM l1 l2))), some (.inr (fun v W => IsTB 450 W v (joinM l0 (joinM l1 l2)))), some (.inl (.bool true)), none, none, none, none, some (.inl (.bool false)), none, none, none, none, none, none, none, none, none, none, none, none, none, none, none, none, none, none]) ?_
      simp only [List.take, List.drop]
      refine kAll_p (fun K hK => ?_)
      go_simp
      generalize hZ : (Act.mk _ _) = Z
      refine hK Z ?_
      subst hZ
      clear hK K
      refine kAll_p (fun K hK => ?_)
      go_simp
      generalize hZ : (Act.mk _ _) = Z
      refine hK Z ?_
      subst hZ
      clear hK K
      refine kAll_p (fun K hK => ?_)
      go_simp
      generalize hZ : (Act.mk _ _) = Z
      refine hK Z ?_
      subst hZ
      clear hK K
      refine kAll_tn _ (fun v W W' hk h => h.keep0 hk) (fun W hW hF => kStep_of fun K Q hK => ?_) (fun u0 K hK => ?_)
      · have h0 := F_3.out W (hW)
        have h1 := F_4.out W (hW)
        go_simp
        refine (joinI_any h0 h1 (by decide)).mono ?_
        rintro e w' ⟨u, rfl, hu, hk⟩
        exact hK _ _ hk hu
      go_simp
      generalize hZ : (Act.mk _ _) = Z
      refine hK Z ?_
      subst hZ
      clear hK K
      refine kAll_p (fun K hK => ?_)
      go_simp
      generalize hZ : (Act.mk _ _) = Z
      refine hK Z ?_
      subst hZ
      clear hK K
      refine kAll_p (fun K hK => ?_)
      go_simp
      generalize hZ : (Act.mk _ _) = Z
      refine hK Z ?_
      subst hZ
      clear hK K
      refine kAll_tn _ (fun v W W' hk h => h.keep0 hk) (fun W hW hF => kStep_of fun K Q hK => ?_) (fun u1 K hK => ?_)
      · have h0 := F_4.out W (hW)
        have h1 := F_3.out W (hW)
        go_simp
        refine (joinI_any h0 h1 (by decide)).mono ?_
        rintro e w' ⟨u, rfl, hu, hk⟩
        exact hK _ _ hk hu
      go_simp
      generalize hZ : (Act.mk _ _) = Z
      refine hK Z ?_
      subst hZ
      clear hK K
      refine kAll_dn _ (fun W hW hF => kStep_of fun K Q hK => ?_) (fun K hK => ?_)
      · have h0 : (fun v W => IsTB 300 W v (joinM l0 l1)) u0 W := kHas_at hF 1 rfl (by kernel_rfl)
        have h1 : (fun v W => IsTB 300 W v (joinM l1 l0)) u1 W := kHas_at hF 0 rfl (by kernel_rfl)
        go_simp
        refine (sameI_is true h0 h1 (by decide) (decide_eq_true (joinM_comm _ _))).mono ?_
        rintro e w' ⟨rfl, hk⟩
        exact hK _ _ hk rfl
      go_simp
      generalize hZ : (Act.mk _ _) = Z
      refine hK Z ?_
      subst hZ
      clear hK K
      refine kAll_p (fun K hK => ?_)
      go_simp
      generalize hZ : (Act.mk _ _) = Z
      refine hK Z ?_
      subst hZ
      clear hK K
      refine kAll_p (fun K hK => ?_)
      go_simp
      generalize hZ : (Act.mk _ _) = Z
      refine hK Z ?_
      subst hZ
      clear hK K
      refine kAll_pw (by kernel_rfl) (fun K hK => ?_)
      go_simp
      generalize hZ : (Act.mk _ _) = Z
      refine hK Z ?_
      subst hZ
      clear hK K
      refine kAll_pw (by kernel_rfl) (fun K hK => ?_)
      go_simp
      generalize hZ : (Act.mk _ _) = Z
      refine hK Z ?_
      subst hZ
      clear hK K
      refine kAll_pw (by kernel_rfl) (fun K hK => ?_)
      go_simp
      generalize hZ : (Act.mk _ _) = Z
      refine hK Z ?_
      subst hZ
      clear hK K
      refine kAll_tn _ (fun v W W' hk h => h.keep0 hk) (fun W hW hF => kStep_w (by kernel_rfl) fun K Q hK => ?_) (fun u2 K hK => ?_)
      · have h0 := F_3.out W (hW)
        have h1 := F_4.out W (hW)
        go_simp
        refine (joinI_any h0 h1 (by decide)).mono ?_
        rintro e w' ⟨u, rfl, hu, hk⟩
        exact hK _ _ hk hu
      go_simp
      generalize hZ : (Act.mk _ _) = Z
      refine hK Z ?_
      subst hZ
      clear hK K
      refine kAll_pw (by kernel_rfl) (fun K hK => ?_)
      go_simp
      generalize hZ : (Act.mk _ _) = Z
      refine hK Z ?_
      subst hZ
      clear hK K
      refine kAll_tn _ (fun v W W' hk h => h.keep0 hk) (fun W hW hF => kStep_w (by kernel_rfl) fun K Q hK => ?_) (fun u3 K hK => ?_)
      · have h0 : (fun v W => IsTB 300 W v (joinM l0 l1)) u2 W := kHas_at hF 0 rfl (by kernel_rfl)
        have h1 := F_5.out W (hW)
        go_simp
        refine (joinI_any h0 h1 (by decide)).mono ?_
        rintro e w' ⟨u, rfl, hu, hk⟩
        exact hK _ _ hk hu
      go_simp
      generalize hZ : (Act.mk _ _) = Z
      refine hK Z ?_
      subst hZ
      clear hK K
      refine kAll_pw (by kernel_rfl) (fun K hK => ?_)
      go_simp
      generalize hZ : (Act.mk _ _) = Z
      refine hK Z ?_
      subst hZ
      clear hK K
      refine kAll_pw (by kernel_rfl) (fun K hK => ?_)
      go_simp
      generalize hZ : (Act.mk _ _) = Z
      refine hK Z ?_
      subst hZ
      clear hK K
      refine kAll_pw (by kernel_rfl) (fun K hK => ?_)
      go_simp
      generalize hZ : (Act.mk _ _) = Z
      refine hK Z ?_
      subst hZ
      clear hK K
      refine kAll_tn _ (fun v W W' hk h => h.keep0 hk) (fun W hW hF => kStep_w (by kernel_rfl) fun K Q hK => ?_) (fun u4 K hK => ?_)
      · have h0 := F_4.out W (hW)
        have h1 := F_5.out W (hW)
        go_simp
        refine (joinI_any h0 h1 (by decide)).mono ?_
        rintro e w' ⟨u, rfl, hu, hk⟩
        exact hK _ _ hk hu
      go_simp
      generalize hZ : (Act.mk _ _) = Z
      refine hK Z ?_
      subst hZ
      clear hK K
      refine kAll_tn _ (fun v W W' hk h => h.keep0 hk) (fun W hW hF => kStep_w (by kernel_rfl) fun K Q hK => ?_) (fun u5 K hK => ?_)
      · have h0 := F_3.out W (hW)
        have h1 : (fun v W => IsTB 300 W v (joinM l1 l2)) u4 W := kHas_at hF 0 rfl (by kernel_rfl)
        go_simp
        refine (joinI_any h0 h1 (by decide)).mono ?_
        rintro e w' ⟨u, rfl, hu, hk⟩
        exact hK _ _ hk hu
      go_simp
      generalize hZ : (Act.mk _ _) = Z
      refine hK Z ?_
      subst hZ
      clear hK K
      refine kAll_dn _ (fun W hW hF => kStep_w (by kernel_rfl) fun K Q hK => ?_) (fun K hK => ?_)
      · have h0 : (fun v W => IsTB 450 W v (joinM (joinM l0 l1) l2)) u3 W := kHas_at hF 2 rfl (by kernel_rfl)
        have h1 : (fun v W => IsTB 450 W v (joinM l0 (joinM l1 l2))) u5 W := kHas_at hF 0 rfl (by kernel_rfl)
        go_simp
        refine (sameI_is true h0 h1 (by decide) (decide_eq_true (joinM_assoc _ _ _))).mono ?_
        rintro e w' ⟨rfl, hk⟩
        exact hK _ _ hk rfl
      go_simp
      generalize hZ : (Act.mk _ _) = Z
      refine hK Z ?_
      subst hZ
      clear hK K
      refine kAll_pw (by kernel_rfl) (fun K hK => ?_)
      go_simp
      generalize hZ : (Act.mk _ _) = Z
      refine hK Z ?_
      subst hZ
      clear hK K
      refine kAll_p (fun K hK => ?_)
      go_simp
      generalize hZ : (Act.mk _ _) = Z
      refine hK Z ?_
      subst hZ
      clear hK K
      refine kAll_p (fun K hK => ?_)
      go_simp
      generalize hZ : (Act.mk _ _) = Z
      refine hK Z ?_
      subst hZ
      clear hK K
      refine kAll_pw (by kernel_rfl) (fun K hK => ?_)
      go_simp
      generalize hZ : (Act.mk _ _) = Z
      refine hK Z ?_
      subst hZ
      clear hK K
      refine kAll_dn _ (fun W hW hF => kStep_w (by kernel_rfl) fun K Q hK => ?_) (fun K hK => ?_)
      · have h0 := F_3.out W (hW)
        go_simp
        refine (mayI_is false h0 (by decide) HMa.out).mono ?_
        rintro e w' ⟨rfl, hk⟩
        exact hK _ _ hk rfl
      go_simp
      generalize hZ : (Act.mk _ _) = Z
      refine hK Z ?_
      subst hZ
      clear hK K
      refine kAll_pw (by kernel_rfl) (fun K hK => ?_)
      go_simp
      generalize hZ : (Act.mk _ _) = Z
      refine hK Z ?_
      subst hZ
      clear hK K
      refine kAll_skip (by kernel_rfl) ?_
      refine kAll_skip (by kernel_rfl) ?_
      refine kAll_skip (by kernel_rfl) ?_
      refine kAll_skip (by kernel_rfl) ?_
      refine kAll_skip (by kernel_rfl) ?_
      refine kAll_skip (by kernel_rfl) ?_
      refine kAll_skip (by kernel_rfl) ?_
      refine kAll_skip (by kernel_rfl) ?_
      refine kAll_skip (by kernel_rfl) ?_
      refine kAll_skip (by kernel_rfl) ?_
      refine kAll_skip (by kernel_rfl) ?_
      refine kAll_skip (by kernel_rfl) ?_
      refine kAll_skip (by kernel_rfl) ?_
      refine kAll_skip (by kernel_rfl) ?_
      refine kAll_skip (by kernel_rfl) ?_
      refine kAll_pw (by kernel_rfl) (fun K hK => ?_)
      go_simp
      generalize hZ : (Act.mk _ _) = Z
      refine hK Z ?_
      subst hZ
      clear hK K
      refine kAll_p (fun K hK => ?_)
      go_simp
      generalize hZ : (Act.mk _ _) = Z
      refine hK Z ?_
      subst hZ
      clear hK K
      refine kAll_nil (fun W7 hW hF => ?_)
      clear hF
      have hk_8 : Keep (fun _ => False) _ W7 := hW
      have F_9 := Lib.hid (fun W h => F_3.out W (keep0_trans _ _ _ hk_8 h))
      have F_10 := Lib.hid (fun W h => F_4.out W (keep0_trans _ _ _ hk_8 h))
      have F_11 := Lib.hid (fun W h => F_5.out W (keep0_trans _ _ _ hk_8 h))
      have K_12 := Lib.hid (keep0_trans _ _ _ K_6.out hk_8)
      clear hk_8 F_3 F_4 F_5 K_6
      clear hW
      go_upto_region 6 with (fail)
      refine wp_region_kord (Keep (fun _ => False)) (Keep.refl _) keep0_trans 23 (Ts := [none, some (.inl (.bool false)), none, none, none, none, none, none, none, none, none, none, none, none, none, none, none, none, none, none, none, none, none]) ?_
      simp only [List.take, List.drop]
      refine kAll_p (fun K hK => ?_)
      go_simp
      generalize hZ : (Act.mk _ _) = Z
      refine hK Z ?_
      subst hZ
      clear hK K
      refine kAll_dn _ (fun W hW hF => kStep_of fun K Q hK => ?_) (fun K hK => ?_)
      · have h0 := F_9.out W (hW)
        go_simp
        refine (mayI_is false h0 (by decide) HMa.out).mono ?_
        rintro e w' ⟨rfl, hk⟩
        exact hK _ _ hk rfl
      go_simp
      generalize hZ : (Act.mk _ _) = Z
      refine hK Z ?_
      subst hZ
      clear hK K
      refine kAll_p (fun K hK => ?_)
      go_simp
      generalize hZ : (Act.mk _ _) = Z
      refine hK Z ?_
      subst hZ
      clear hK K
      refine kAll_p (fun K hK => ?_)
      go_simp
      generalize hZ : (Act.mk _ _) = Z
      refine hK Z ?_
      subst hZ
      clear hK K
      refine kAll_skip (by kernel_rfl) ?_
      refine kAll_skip (by kernel_rfl) ?_
      refine kAll_skip (by kernel_rfl) ?_
      refine kAll_p (fun K hK => ?_)
      go_simp
      generalize hZ : (Act.mk _ _) = Z
      refine hK Z ?_
      subst hZ
      clear hK K
      refine kAll_p (fun K hK => ?_)
      go_simp
      generalize hZ : (Act.mk _ _) = Z
      refine hK Z ?_
      subst hZ
      clear hK K
      refine kAll_skip (by kernel_rfl) ?_
      refine kAll_skip (by kernel_rfl) ?_
      refine kAll_skip (by kernel_rfl) ?_
      refine kAll_skip (by kernel_rfl) ?_
      refine kAll_p (fun K hK => ?_)
      go_simp
      generalize hZ : (Act.mk _ _) = Z
      refine hK Z ?_
      subst hZ
      clear hK K
      refine kAll_p (fun K hK => ?_)
      go_simp
      generalize hZ : (Act.mk _ _) = Z
      refine hK Z ?_
      subst hZ
      clear hK K
      refine kAll_skip (by kernel_rfl) ?_
      refine kAll_skip (by kernel_rfl) ?_
      refine kAll_skip (by kernel_rfl) ?_
      refine kAll_skip (by kernel_rfl) ?_
      refine kAll_skip (by kernel_rfl) ?_
      refine kAll_skip (by kernel_rfl) ?_
      refine kAll_p (fun K hK => ?_)
      go_simp
      generalize hZ : (Act.mk _ _) = Z
      refine hK Z ?_
      subst hZ
      clear hK K
      refine kAll_p (fun K hK => ?_)
      go_simp
      generalize hZ : (Act.mk _ _) = Z
      refine hK Z ?_
      subst hZ
      clear hK K
      refine kAll_nil (fun W13 hW hF => ?_)
      clear hF
      have hk_14 : Keep (fun _ => False) _ W13 := hW
      have F_15 := Lib.hid (fun W h => F_9.out W (keep0_trans _ _ _ hk_14 h))
      have F_16 := Lib.hid (fun W h => F_10.out W (keep0_trans _ _ _ hk_14 h))
      have F_17 := Lib.hid (fun W h => F_11.out W (keep0_trans _ _ _ hk_14 h))
      have K_18 := Lib.hid (keep0_trans _ _ _ K_12.out hk_14)
      clear hk_14 F_9 F_10 F_11 K_12
      clear hW
      go_wp2
      go_ret
      exact ⟨rfl, K_18.out⟩
    · have HMa := Lib.hid ma
      have HJ1 : Hid (decide (joinM l0 l0 = l0) = true) := Lib.hid (decide_eq_true (joinM_of ((mayT_iff _).1 ma) (leC_refl _)))
      have HJ2 : Hid (decide (joinM l0 [] = l0) = true) := Lib.hid (decide_eq_true (joinM_of ((mayT_iff _).1 ma) (leC_nil _)))
      cases mb : mayT l1
      · have HMb := Lib.hid mb
        clear ma mb
        go_enter Try.func5, Try.ntmps5
        go_upto_region 1 with (fail)
        refine wp_region_kord (Keep (fun _ => False)) (Keep.refl _) keep0_trans 9 (Ts := [some (.inl (.bool true)), none, none, none, none, none, some (.inr (fun v W => IsLg W v [n0, n1, n2])), some (.inl (.bool false)), none]) ?_
        simp only [List.take, List.drop]
        refine kAll_dn _ (fun W hW hF => kStep_of fun K Q hK => ?_) (fun K hK => ?_)
        · go_simp
          refine (works_any W).mono ?_
          rintro e w' ⟨rfl, hk⟩
          exact hK _ _ hk rfl
        go_simp
        generalize hZ : (Act.mk _ _) = Z
        refine hK Z ?_
        subst hZ
        clear hK K
        refine kAll_p (fun K hK => ?_)
        go_simp
        generalize hZ : (Act.mk _ _) = Z
        refine hK Z ?_
        subst hZ
        clear hK K
        refine kAll_p (fun K hK => ?_)
        go_simp
        generalize hZ : (Act.mk _ _) = Z
        refine hK Z ?_
        subst hZ
        clear hK K
        refine kAll_pw (by kernel_rfl) (fun K hK => ?_)
        go_simp
        generalize hZ : (Act.mk _ _) = Z
        refine hK Z ?_
        subst hZ
        clear hK K
        refine kAll_pw (by kernel_rfl) (fun K hK => ?_)
        go_simp
        generalize hZ : (Act.mk _ _) = Z
        refine hK Z ?_
        subst hZ
        clear hK K
        refine kAll_pw (by kernel_rfl) (fun K hK => ?_)
        go_simp
        generalize hZ : (Act.mk _ _) = Z
        refine hK Z ?_
        subst hZ
        clear hK K
        refine kAll_tn _ (fun v W W' hk h => h.keep0 hk) (fun W hW hF => kStep_w (by kernel_rfl) fun K Q hK => ?_) (fun u0 K hK => ?_)
        · go_simp
          exact hK _ _ ((Keep.refl _ _).alloc _) ⟨_, _, _, [(A0, n0, c0), (A1, n1, c1), (A2, n2, c2)], rfl, rfl, rfl, RdK.of_blk (Blk.new _ _ _) 3 1 rfl⟩
        go_simp
        generalize hZ : (Act.mk _ _) = Z
        refine hK Z ?_
        subst hZ
        clear hK K
        refine kAll_dn _ (fun W hW hF => kStep_w (by kernel_rfl) fun K Q hK => ?_) (fun K hK => ?_)
        · have h0 : (fun v W => IsLg W v [n0, n1, n2]) u0 W := kHas_at hF 0 rfl (by kernel_rfl)
          go_simp
          refine (large_is false h0 (by simp) HBig.out).mono ?_
          rintro e w' ⟨rfl, hk⟩
          exact hK _ _ hk rfl
        go_simp
        generalize hZ : (Act.mk _ _) = Z
        refine hK Z ?_
        subst hZ
        clear hK K
        refine kAll_p (fun K hK => ?_)
        go_simp
        generalize hZ : (Act.mk _ _) = Z
        refine hK Z ?_
        subst hZ
        clear hK K
        refine kAll_nil (fun W1 hW hF => ?_)
        clear hF
        have hk_2 : Keep (fun _ => False) _ W1 := hW
        have F_3 := Lib.hid (fun W h => F0.out W (keep0_trans _ _ _ hk_2 h))
        have F_4 := Lib.hid (fun W h => F1.out W (keep0_trans _ _ _ hk_2 h))
        have F_5 := Lib.hid (fun W h => F2.out W (keep0_trans _ _ _ hk_2 h))
        have K_6 := Lib.hid (keep0_trans _ _ _ K0.out hk_2)
        clear hk_2 F0 F1 F2 K0
        clear hW
        go_upto_region 4 with (fail)
        refine wp_region_kord (Keep (fun _ => False)) (Keep.refl _) keep0_trans 45 (Ts := [none, none, none, some (.inr (fun v W => IsTB 300 W v (joinM l0 l1))), none, none, some (.inr (fun v W => IsTB 300 W v (joinM l1 l0))), some (.inl (.bool true)), none, none, none, none, none, some (.inr (fun v W => IsTB 300 W v (joinM l0 l1))), none, some (.inr (fun v W => IsTB 450 W v (joinM (joinM l0 l1) l2))), none, none, none, some (.inr (fun v W => IsTB 300 W v (joinM l1 l2))), some (.inr (fun v W => IsTB 450 W v (joinM l0 (joinM l1 l2)))), some (.inl (.bool true)), none, none, none, none, some (.inl (.bool true)), none, none, none, none, some (.inr (fun v W => IsTB 300 W v (joinM l0 l0))), none, some (.inl (.bool true)), none, none, none, none, some (.inr (fun v W => IsTB 150 W v (joinM l0 []))), none, some (.inl (.bool true)), none, none, none, none]) ?_
        simp only [List.take, List.drop]
        refine kAll_p (fun K hK => ?_)
        go_simp
        generalize hZ : (Act.mk _ _) = Z
        refine hK Z ?_
        subst hZ
        clear hK K
        refine kAll_p (fun K hK => ?_)
        go_simp
        generalize hZ : (Act.mk _ _) = Z
        refine hK Z ?_
        subst hZ
        clear hK K
        refine kAll_p (fun K hK => ?_)
        go_simp
        generalize hZ : (Act.mk _ _) = Z
        refine hK Z ?_
        subst hZ
        clear hK K
        refine kAll_tn _ (fun v W W' hk h => h.keep0 hk) (fun W hW hF => kStep_of fun K Q hK => ?_) (fun u0 K hK => ?_)
        · have h0 := F_3.out W (hW)
          have h1 := F_4.out W (hW)
          go_simp
          refine (joinI_any h0 h1 (by decide)).mono ?_
          rintro e w' ⟨u, rfl, hu, hk⟩
          exact hK _ _ hk hu
        go_simp
        generalize hZ : (Act.mk _ _) = Z
        refine hK Z ?_
        subst hZ
        clear hK K
        refine kAll_p (fun K hK => ?_)
        go_simp
        generalize hZ : (Act.mk _ _) = Z
        refine hK Z ?_
        subst hZ
        clear hK K
        refine kAll_p (fun K hK => ?_)
        go_simp
        generalize hZ : (Act.mk _ _) = Z
        refine hK Z ?_
        subst hZ
        clear hK K
        refine kAll_tn _ (fun v W W' hk h => h.keep0 hk) (fun W hW hF => kStep_of fun K Q hK => ?_) (fun u1 K hK => ?_)
        · have h0 := F_4.out W (hW)
          have h1 := F_3.out W (hW)
          go_simp
          refine (joinI_any h0 h1 (by decide)).mono ?_
          rintro e w' ⟨u, rfl, hu, hk⟩
          exact hK _ _ hk hu
        go_simp
        generalize hZ : (Act.mk _ _) = Z
        refine hK Z ?_
        subst hZ
        clear hK K
        refine kAll_dn _ (fun W hW hF => kStep_of fun K Q hK => ?_) (fun K hK => ?_)
        · have h0 : (fun v W => IsTB 300 W v (joinM l0 l1)) u0 W := kHas_at hF 1 rfl (by kernel_rfl)
          have h1 : (fun v W => IsTB 300 W v (joinM l1 l0)) u1 W := kHas_at hF 0 rfl (by kernel_rfl)
          go_simp
          refine (sameI_is true h0 h1 (by decide) (decide_eq_true (joinM_comm _ _))).mono ?_
          rintro e w' ⟨rfl, hk⟩
          exact hK _ _ hk rfl
        go_simp
        generalize hZ : (Act.mk _ _) = Z
        refine hK Z ?_
        subst hZ
        clear hK K
        refine kAll_p (fun K hK => ?_)
        go_simp
        generalize hZ : (Act.mk _ _) = Z
        refine hK Z ?_
        subst hZ
        clear hK K
        refine kAll_p (fun K hK => ?_)
        go_simp
        generalize hZ : (Act.mk _ _) = Z
        refine hK Z ?_
        subst hZ
        clear hK K
        refine kAll_pw (by kernel_rfl) (fun K hK => ?_)
        go_simp
        generalize hZ : (Act.mk _ _) = Z
        refine hK Z ?_
        subst hZ
        clear hK K
        refine kAll_pw (by kernel_rfl) (fun K hK => ?_)
        go_simp
        generalize hZ : (Act.mk _ _) = Z
        refine hK Z ?_
        subst hZ
        clear hK K
        refine kAll_pw (by kernel_rfl) (fun K hK => ?_)
        go_simp
        generalize hZ : (Act.mk _ _) = Z
        refine hK Z ?_
        subst hZ
        clear hK K
        refine kAll_tn _ (fun v W W' hk h => h.keep0 hk) (fun W hW hF => kStep_w (by kernel_rfl) fun K Q hK => ?_) (fun u2 K hK => ?_)
        · have h0 := F_3.out W (hW)
          have h1 := F_4.out W (hW)
          go_simp
          refine (joinI_any h0 h1 (by decide)).mono ?_
          rintro e w' ⟨u, rfl, hu, hk⟩
          exact hK _ _ hk hu
        go_simp
        generalize hZ : (Act.mk _ _) = Z
        refine hK Z ?_
        subst hZ
        clear hK K
        refine kAll_pw (by kernel_rfl) (fun K hK => ?_)
        go_simp
        generalize hZ : (Act.mk _ _) = Z
        refine hK Z ?_
        subst hZ
        clear hK K
        refine kAll_tn _ (fun v W W' hk h => h.keep0 hk) (fun W hW hF => kStep_w (by kernel_rfl) fun K Q hK => ?_) (fun u3 K hK => ?_)
        · have h0 : (fun v W => IsTB 300 W v (joinM l0 l1)) u2 W := kHas_at hF 0 rfl (by kernel_rfl)
          have h1 := F_5.out W (hW)
          go_simp
          refine (joinI_any h0 h1 (by decide)).mono ?_
          rintro e w' ⟨u, rfl, hu, hk⟩
          exact hK _ _ hk hu
        go_simp
        generalize hZ : (Act.mk _ _) = Z
        refine hK Z ?_
        subst hZ
        clear hK K
        refine kAll_pw (by kernel_rfl) (fun K hK => ?_)
        go_simp
        generalize hZ : (Act.mk _ _) = Z
        refine hK Z ?_
        subst hZ
        clear hK K
        refine kAll_pw (by kernel_rfl) (fun K hK => ?_)
        go_simp
        generalize hZ : (Act.mk _ _) = Z
        refine hK Z ?_
        subst hZ
        clear hK K
        refine kAll_pw (by kernel_rfl) (fun K hK => ?_)
        go_simp
        generalize hZ : (Act.mk _ _) = Z
        refine hK Z ?_
        subst hZ
        clear hK K
        refine kAll_tn _ (fun v W W' hk h => h.keep0 hk) (fun W hW hF => kStep_w (by kernel_rfl) fun K Q hK => ?_) (fun u4 K hK => ?_)
        · have h0 := F_4.out W (hW)
          have h1 := F_5.out W (hW)
          go_simp
          refine (joinI_any h0 h1 (by decide)).mono ?_
          rintro e w' ⟨u, rfl, hu, hk⟩
          exact hK _ _ hk hu
        go_simp
        generalize hZ : (Act.mk _ _) = Z
        refine hK Z ?_
        subst hZ
        clear hK K
        refine kAll_tn _ (fun v W W' hk h => h.keep0 hk) (fun W hW hF => kStep_w (by kernel_rfl) fun K Q hK => ?_) (fun u5 K hK => ?_)
        · have h0 := F_3.out W (hW)
          have h1 : (fun v W => IsTB 300 W v (joinM l1 l2)) u4 W := kHas_at hF 0 rfl (by kernel_rfl)
          go_simp
          refine (joinI_any h0 h1 (by decide)).mono ?_
          rintro e w' ⟨u, rfl, hu, hk⟩
          exact hK _ _ hk hu
        go_simp
        generalize hZ : (Act.mk _ _) = Z
        refine hK Z ?_
        subst hZ
        clear hK K
        refine kAll_dn _ (fun W hW hF => kStep_w (by kernel_rfl) fun K Q hK => ?_) (fun K hK => ?_)
        · have h0 : (fun v W => IsTB 450 W v (joinM (joinM l0 l1) l2)) u3 W := kHas_at hF 2 rfl (by kernel_rfl)
          have h1 : (fun v W => IsTB 450 W v (joinM l0 (joinM l1 l2))) u5 W := kHas_at hF 0 rfl (by kernel_rfl)
          go_simp
          refine (sameI_is true h0 h1 (by decide) (decide_eq_true (joinM_assoc _ _ _))).mono ?_
          rintro e w' ⟨rfl, hk⟩
          exact hK _ _ hk rfl
        go_simp
        generalize hZ : (Act.mk _ _) = Z
        refine hK Z ?_
        subst hZ
        clear hK K
        refine kAll_pw (by kernel_rfl) (fun K hK => ?_)
        go_simp
        generalize hZ : (Act.mk _ _) = Z
        refine hK Z ?_
        subst hZ
        clear hK K
        refine kAll_p (fun K hK => ?_)
        go_simp
        generalize hZ : (Act.mk _ _) = Z
        refine hK Z ?_
        subst hZ
        clear hK K
        refine kAll_p (fun K hK => ?_)
        go_simp
        generalize hZ : (Act.mk _ _) = Z
        refine hK Z ?_
        subst hZ
        clear hK K
        refine kAll_pw (by kernel_rfl) (fun K hK => ?_)
        go_simp
        generalize hZ : (Act.mk _ _) = Z
        refine hK Z ?_
        subst hZ
        clear hK K
        refine kAll_dn _ (fun W hW hF => kStep_w (by kernel_rfl) fun K Q hK => ?_) (fun K hK => ?_)
        · have h0 := F_3.out W (hW)
          go_simp
          refine (mayI_is true h0 (by decide) HMa.out).mono ?_
          rintro e w' ⟨rfl, hk⟩
          exact hK _ _ hk rfl
        go_simp
        generalize hZ : (Act.mk _ _) = Z
        refine hK Z ?_
        subst hZ
        clear hK K
        refine kAll_pw (by kernel_rfl) (fun K hK => ?_)
        go_simp
        generalize hZ : (Act.mk _ _) = Z
        refine hK Z ?_
        subst hZ
        clear hK K
        refine kAll_pw (by kernel_rfl) (fun K hK => ?_)
        go_simp
        generalize hZ : (Act.mk _ _) = Z
        refine hK Z ?_
        subst hZ
        clear hK K
        refine kAll_pw (by kernel_rfl) (fun K hK => ?_)
        go_simp
        generalize hZ : (Act.mk _ _) = Z
        refine hK Z ?_
        subst hZ
        clear hK K
        refine kAll_pw (by kernel_rfl) (fun K hK => ?_)
        go_simp
        generalize hZ : (Act.mk _ _) = Z
        refine hK Z ?_
        subst hZ
        clear hK K
        refine kAll_tn _ (fun v W W' hk h => h.keep0 hk) (fun W hW hF => kStep_w (by kernel_rfl) fun K Q hK => ?_) (fun u6 K hK => ?_)
        · have h0 := F_3.out W (hW)
          have h1 := F_3.out W (hW)
          go_simp
          refine (joinI_any h0 h1 (by decide)).mono ?_
          rintro e w' ⟨u, rfl, hu, hk⟩
          exact hK _ _ hk hu
        go_simp
        generalize hZ : (Act.mk _ _) = Z
        refine hK Z ?_
        subst hZ
        clear hK K
        refine kAll_pw (by kernel_rfl) (fun K hK => ?_)
        go_simp
        generalize hZ : (Act.mk _ _) = Z
        refine hK Z ?_
        subst hZ
        clear hK K
        refine kAll_dn _ (fun W hW hF => kStep_w (by kernel_rfl) fun K Q hK => ?_) (fun K hK => ?_)
        · have h0 : (fun v W => IsTB 300 W v (joinM l0 l0)) u6 W := kHas_at hF 0 rfl (by kernel_rfl)
          have h1 := F_3.out W (hW)
          go_simp
          refine (sameI_is true h0 h1 (by decide) HJ1.out).mono ?_
          rintro e w' ⟨rfl, hk⟩
          exact hK _ _ hk rfl
        go_simp
        generalize hZ : (Act.mk _ _) = Z
        refine hK Z ?_
        subst hZ
        clear hK K
        refine kAll_pw (by kernel_rfl) (fun K hK => ?_)
        go_simp
        generalize hZ : (Act.mk _ _) = Z
        refine hK Z ?_
        subst hZ
        clear hK K
        refine kAll_pw (by kernel_rfl) (fun K hK => ?_)
        go_simp
        generalize hZ : (Act.mk _ _) = Z
        refine hK Z ?_
        subst hZ
        clear hK K
        refine kAll_pw (by kernel_rfl) (fun K hK => ?_)
        go_simp
        generalize hZ : (Act.mk _ _) = Z
        refine hK Z ?_
        subst hZ
        clear hK K
        refine kAll_pw (by kernel_rfl) (fun K hK => ?_)
        go_simp
        generalize hZ : (Act.mk _ _) = Z
        refine hK Z ?_
        subst hZ
        clear hK K
        refine kAll_tn _ (fun v W W' hk h => h.keep0 hk) (fun W hW hF => kStep_w (by kernel_rfl) fun K Q hK => ?_) (fun u7 K hK => ?_)
        · have h0 := F_3.out W (hW)
          have h1 := isTB_nil W
          go_simp
          refine (joinI_any h0 h1 (by decide)).mono ?_
          rintro e w' ⟨u, rfl, hu, hk⟩
          exact hK _ _ hk hu
        go_simp
        generalize hZ : (Act.mk _ _) = Z
        refine hK Z ?_
        subst hZ
        clear hK K
        refine kAll_pw (by kernel_rfl) (fun K hK => ?_)
        go_simp
        generalize hZ : (Act.mk _ _) = Z
        refine hK Z ?_
        subst hZ
        clear hK K
        refine kAll_dn _ (fun W hW hF => kStep_w (by kernel_rfl) fun K Q hK => ?_) (fun K hK => ?_)
        · have h0 : (fun v W => IsTB 150 W v (joinM l0 [])) u7 W := kHas_at hF 0 rfl (by kernel_rfl)
          have h1 := F_3.out W (hW)
          go_simp
          refine (sameI_is true h0 h1 (by decide) HJ2.out).mono ?_
          rintro e w' ⟨rfl, hk⟩
          exact hK _ _ hk rfl
        go_simp
        generalize hZ : (Act.mk _ _) = Z
        refine hK Z ?_
        subst hZ
        clear hK K
        refine kAll_pw (by kernel_rfl) (fun K hK => ?_)
        go_simp
        generalize hZ : (Act.mk _ _) = Z
        refine hK Z ?_
        subst hZ
        clear hK K
        refine kAll_pw (by kernel_rfl) (fun K hK => ?_)
        go_simp
        generalize hZ : (Act.mk _ _) = Z
        refine hK Z ?_
        subst hZ
        clear hK K
        refine kAll_pw (by kernel_rfl) (fun K hK => ?_)
        go_simp
        generalize hZ : (Act.mk _ _) = Z
        refine hK Z ?_
        subst hZ
        clear hK K
        refine kAll_p (fun K hK => ?_)
        go_simp
        generalize hZ : (Act.mk _ _) = Z
        refine hK Z ?_
        subst hZ
        clear hK K
        refine kAll_nil (fun W7 hW hF => ?_)
        clear hF
        have hk_8 : Keep (fun _ => False) _ W7 := hW
        have F_9 := Lib.hid (fun W h => F_3.out W (keep0_trans _ _ _ hk_8 h))
        have F_10 := Lib.hid (fun W h => F_4.out W (keep0_trans _ _ _ hk_8 h))
        have F_11 := Lib.hid (fun W h => F_5.out W (keep0_trans _ _ _ hk_8 h))
        have K_12 := Lib.hid (keep0_trans _ _ _ K_6.out hk_8)
        clear hk_8 F_3 F_4 F_5 K_6
        clear hW
        go_upto_region 6 with (fail)
        refine wp_region_kord (Keep (fun _ => False)) (Keep.refl _) keep0_trans 23 (Ts := [none, some (.inl (.bool true)), none, none, none, some (.inl (.bool false)), none, none, none, none, none, none, none, none, none, none, none, none, none, none, none, none, none]) ?_
        simp only [List.take, List.drop]
        refine kAll_p (fun K hK => ?_)
        go_simp
        generalize hZ : (Act.mk _ _) = Z
        refine hK Z ?_
        subst hZ
        clear hK K
        refine kAll_dn _ (fun W hW hF => kStep_of fun K Q hK => ?_) (fun K hK => ?_)
        · have h0 := F_9.out W (hW)
          go_simp
          refine (mayI_is true h0 (by decide) HMa.out).mono ?_
          rintro e w' ⟨rfl, hk⟩
          exact hK _ _ hk rfl
        go_simp
        generalize hZ : (Act.mk _ _) = Z
        refine hK Z ?_
        subst hZ
        clear hK K
        refine kAll_p (fun K hK => ?_)
        go_simp
        generalize hZ : (Act.mk _ _) = Z
        refine hK Z ?_
        subst hZ
        clear hK K
        refine kAll_p (fun K hK => ?_)
        go_simp
        generalize hZ : (Act.mk _ _) = Z
        refine hK Z ?_
        subst hZ
        clear hK K
        refine kAll_pw (by kernel_rfl) (fun K hK => ?_)
        go_simp
        generalize hZ : (Act.mk _ _) = Z
        refine hK Z ?_
        subst hZ
        clear hK K
        refine kAll_dn _ (fun W hW hF => kStep_w (by kernel_rfl) fun K Q hK => ?_) (fun K hK => ?_)
        · have h0 := F_10.out W (hW)
          go_simp
          refine (mayI_is false h0 (by decide) HMb.out).mono ?_
          rintro e w' ⟨rfl, hk⟩
          exact hK _ _ hk rfl
        go_simp
        generalize hZ : (Act.mk _ _) = Z
        refine hK Z ?_
        subst hZ
        clear hK K
        refine kAll_pw (by kernel_rfl) (fun K hK => ?_)
        go_simp
        generalize hZ : (Act.mk _ _) = Z
        refine hK Z ?_
        subst hZ
        clear hK K
        refine kAll_p (fun K hK => ?_)
        go_simp
        generalize hZ : (Act.mk _ _) = Z
        refine hK Z ?_
        subst hZ
        clear hK K
        refine kAll_p (fun K hK => ?_)
        go_simp
        generalize hZ : (Act.mk _ _) = Z
        refine hK Z ?_
        subst hZ
        clear hK K
        refine kAll_skip (by kernel_rfl) ?_
        refine kAll_skip (by kernel_rfl) ?_
        refine kAll_skip (by kernel_rfl) ?_
        refine kAll_skip (by kernel_rfl) ?_
        refine kAll_p (fun K hK => ?_)
        go_simp
        generalize hZ : (Act.mk _ _) = Z
        refine hK Z ?_
        subst hZ
        clear hK K
        refine kAll_p (fun K hK => ?_)
        go_simp
        generalize hZ : (Act.mk _ _) = Z
        refine hK Z ?_
        subst hZ
        clear hK K
        refine kAll_skip (by kernel_rfl) ?_
        refine kAll_skip (by kernel_rfl) ?_
        refine kAll_skip (by kernel_rfl) ?_
        refine kAll_skip (by kernel_rfl) ?_
        refine kAll_skip (by kernel_rfl) ?_
        refine kAll_skip (by kernel_rfl) ?_
        refine kAll_p (fun K hK => ?_)
        go_simp
        generalize hZ : (Act.mk _ _) = Z
        refine hK Z ?_
        subst hZ
        clear hK K
        refine kAll_p (fun K hK => ?_)
        go_simp
        generalize hZ : (Act.mk _ _) = Z
        refine hK Z ?_
        subst hZ
        clear hK K
        refine kAll_nil (fun W13 hW hF => ?_)
        clear hF
        have hk_14 : Keep (fun _ => False) _ W13 := hW
        have F_15 := Lib.hid (fun W h => F_9.out W (keep0_trans _ _ _ hk_14 h))
        have F_16 := Lib.hid (fun W h => F_10.out W (keep0_trans _ _ _ hk_14 h))
        have F_17 := Lib.hid (fun W h => F_11.out W (keep0_trans _ _ _ hk_14 h))
        have K_18 := Lib.hid (keep0_trans _ _ _ K_12.out hk_14)
        clear hk_14 F_9 F_10 F_11 K_12
        clear hW
        go_wp2
        go_ret
        exact ⟨rfl, K_18.out⟩
      · have HMb := Lib.hid mb
        cases mj : mayT (joinM l0 l1)
        · have HMj := Lib.hid mj
          have hgt : (64 : Int) < (n0 : Int) + (n1 : Int) := by
            rcases Nat.lt_or_ge 64 (n0 + n1) with q | q
            · omega
            · exfalso
              have := (mayT_iff _).2 (joinM_may ((mayT_iff _).1 ma) ((mayT_iff _).1 mb) (by rw [HL0.out, HL1.out]; exact q))
              rw [mj] at this; cases this
          have hgt2 : decide ((64 : Int) < (n0 : Int) + (n1 : Int)) = true := decide_eq_true hgt
          have hwr : IntKind.i64.wrap ((n0 : Int) + (n1 : Int)) = (n0 : Int) + (n1 : Int) := IntWalk.i64_in _ (by omega)
          clear ma mb mj
          go_enter Try.func5, Try.ntmps5
          go_upto_region 1 with (fail)
          refine wp_region_kord (Keep (fun _ => False)) (Keep.refl _) keep0_trans 9 (Ts := [some (.inl (.bool true)), none, none, none, none, none, some (.inr (fun v W => IsLg W v [n0, n1, n2])), some (.inl (.bool false)), none]) ?_
          simp only [List.take, List.drop]
          refine kAll_dn _ (fun W hW hF => kStep_of fun K Q hK => ?_) (fun K hK => ?_)
          · go_simp
            refine (works_any W).mono ?_
            rintro e w' ⟨rfl, hk⟩
            exact hK _ _ hk rfl
          go_simp
          generalize hZ : (Act.mk _ _) = Z
          refine hK Z ?_
          subst hZ
          clear hK K
          refine kAll_p (fun K hK => ?_)
          go_simp
          generalize hZ : (Act.mk _ _) = Z
          refine hK Z ?_
          subst hZ
          clear hK K
          refine kAll_p (fun K hK => ?_)
          go_simp
          generalize hZ : (Act.mk _ _) = Z
          refine hK Z ?_
          subst hZ
          clear hK K
          refine kAll_pw (by kernel_rfl) (fun K hK => ?_)
          go_simp
          generalize hZ : (Act.mk _ _) = Z
          refine hK Z ?_
          subst hZ
          clear hK K
          refine kAll_pw (by kernel_rfl) (fun K hK => ?_)
          go_simp
          generalize hZ : (Act.mk _ _) = Z
          refine hK Z ?_
          subst hZ
          clear hK K
          refine kAll_pw (by kernel_rfl) (fun K hK => ?_)
          go_simp
          generalize hZ : (Act.mk _ _) = Z
          refine hK Z ?_
          subst hZ
          clear hK K
          refine kAll_tn _ (fun v W W' hk h => h.keep0 hk) (fun W hW hF => kStep_w (by kernel_rfl) fun K Q hK => ?_) (fun u0 K hK => ?_)
          · go_simp
            exact hK _ _ ((Keep.refl _ _).alloc _) ⟨_, _, _, [(A0, n0, c0), (A1, n1, c1), (A2, n2, c2)], rfl, rfl, rfl, RdK.of_blk (Blk.new _ _ _) 3 1 rfl⟩
          go_simp
          generalize hZ : (Act.mk _ _) = Z
          refine hK Z ?_
          subst hZ
          clear hK K
          refine kAll_dn _ (fun W hW hF => kStep_w (by kernel_rfl) fun K Q hK => ?_) (fun K hK => ?_)
          · have h0 : (fun v W => IsLg W v [n0, n1, n2]) u0 W := kHas_at hF 0 rfl (by kernel_rfl)
            go_simp
            refine (large_is false h0 (by simp) HBig.out).mono ?_
            rintro e w' ⟨rfl, hk⟩
            exact hK _ _ hk rfl
          go_simp
          generalize hZ : (Act.mk _ _) = Z
          refine hK Z ?_
          subst hZ
          clear hK K
          refine kAll_p (fun K hK => ?_)
          go_simp
          generalize hZ : (Act.mk _ _) = Z
          refine hK Z ?_
          subst hZ
          clear hK K
          refine kAll_nil (fun W1 hW hF => ?_)
          clear hF
          have hk_2 : Keep (fun _ => False) _ W1 := hW
          have F_3 := Lib.hid (fun W h => F0.out W (keep0_trans _ _ _ hk_2 h))
          have F_4 := Lib.hid (fun W h => F1.out W (keep0_trans _ _ _ hk_2 h))
          have F_5 := Lib.hid (fun W h => F2.out W (keep0_trans _ _ _ hk_2 h))
          have K_6 := Lib.hid (keep0_trans _ _ _ K0.out hk_2)
          clear hk_2 F0 F1 F2 K0
          clear hW
          go_upto_region 4 with (fail)
          refine wp_region_kord (Keep (fun _ => False)) (Keep.refl _) keep0_trans 45 (Ts := [none, none, none, some (.inr (fun v W => IsTB 300 W v (joinM l0 l1))), none, none, some (.inr (fun v W => IsTB 300 W v (joinM l1 l0))), some (.inl (.bool true)), none, none, none, none, none, some (.inr (fun v W => IsTB 300 W v (joinM l0 l1))), none, some (.inr (fun v W => IsTB 450 W v (joinM (joinM l0 l1) l2))), none, none, none, some (.inr (fun v W => IsTB 300 W v (joinM l1 l2))), some (.inr (fun v W => IsTB 450 W v (joinM l0 (joinM l1 l2)))), some (.inl (.bool true)), none, none, none, none, some (.inl (.bool true)), none, none, none, none, some (.inr (fun v W => IsTB 300 W v (joinM l0 l0))), none, some (.inl (.bool true)), none, none, none, none, some (.inr (fun v W => IsTB 150 W v (joinM l0 []))), none, some (.inl (.bool true)), none, none, none, none]) ?_
          simp only [List.take, List.drop]
          refine kAll_p (fun K hK => ?_)
          go_simp
          generalize hZ : (Act.mk _ _) = Z
          refine hK Z ?_
          subst hZ
          clear hK K
          refine kAll_p (fun K hK => ?_)
          go_simp
          generalize hZ : (Act.mk _ _) = Z
          refine hK Z ?_
          subst hZ
          clear hK K
          refine kAll_p (fun K hK => ?_)
          go_simp
          generalize hZ : (Act.mk _ _) = Z
          refine hK Z ?_
          subst hZ
          clear hK K
          refine kAll_tn _ (fun v W W' hk h => h.keep0 hk) (fun W hW hF => kStep_of fun K Q hK => ?_) (fun u0 K hK => ?_)
          · have h0 := F_3.out W (hW)
            have h1 := F_4.out W (hW)
            go_simp
            refine (joinI_any h0 h1 (by decide)).mono ?_
            rintro e w' ⟨u, rfl, hu, hk⟩
            exact hK _ _ hk hu
          go_simp
          generalize hZ : (Act.mk _ _) = Z
          refine hK Z ?_
          subst hZ
          clear hK K
          refine kAll_p (fun K hK => ?_)
          go_simp
          generalize hZ : (Act.mk _ _) = Z
          refine hK Z ?_
          subst hZ
          clear hK K
          refine kAll_p (fun K hK => ?_)
          go_simp
          generalize hZ : (Act.mk _ _) = Z
          refine hK Z ?_
          subst hZ
          clear hK K
          refine kAll_tn _ (fun v W W' hk h => h.keep0 hk) (fun W hW hF => kStep_of fun K Q hK => ?_) (fun u1 K hK => ?_)
          · have h0 := F_4.out W (hW)
            have h1 := F_3.out W (hW)
            go_simp
            refine (joinI_any h0 h1 (by decide)).mono ?_
            rintro e w' ⟨u, rfl, hu, hk⟩
            exact hK _ _ hk hu
          go_simp
          generalize hZ : (Act.mk _ _) = Z
          refine hK Z ?_
          subst hZ
          clear hK K
          refine kAll_dn _ (fun W hW hF => kStep_of fun K Q hK => ?_) (fun K hK => ?_)
          · have h0 : (fun v W => IsTB 300 W v (joinM l0 l1)) u0 W := kHas_at hF 1 rfl (by kernel_rfl)
            have h1 : (fun v W => IsTB 300 W v (joinM l1 l0)) u1 W := kHas_at hF 0 rfl (by kernel_rfl)
            go_simp
            refine (sameI_is true h0 h1 (by decide) (decide_eq_true (joinM_comm _ _))).mono ?_
            rintro e w' ⟨rfl, hk⟩
            exact hK _ _ hk rfl
          go_simp
          generalize hZ : (Act.mk _ _) = Z
          refine hK Z ?_
          subst hZ
          clear hK K
          refine kAll_p (fun K hK => ?_)
          go_simp
          generalize hZ : (Act.mk _ _) = Z
          refine hK Z ?_
          subst hZ
          clear hK K
          refine kAll_p (fun K hK => ?_)
          go_simp
          generalize hZ : (Act.mk _ _) = Z
          refine hK Z ?_
          subst hZ
          clear hK K
          refine kAll_pw (by kernel_rfl) (fun K hK => ?_)
          go_simp
          generalize hZ : (Act.mk _ _) = Z
          refine hK Z ?_
          subst hZ
          clear hK K
          refine kAll_pw (by kernel_rfl) (fun K hK => ?_)
          go_simp
          generalize hZ : (Act.mk _ _) = Z
          refine hK Z ?_
          subst hZ
          clear hK K
          refine kAll_pw (by kernel_rfl) (fun K hK => ?_)
          go_simp
          generalize hZ : (Act.mk _ _) = Z
          refine hK Z ?_
          subst hZ
          clear hK K
          refine kAll_tn _ (fun v W W' hk h => h.keep0 hk) (fun W hW hF => kStep_w (by kernel_rfl) fun K Q hK => ?_) (fun u2 K hK => ?_)
          · have h0 := F_3.out W (hW)
            have h1 := F_4.out W (hW)
            go_simp
            refine (joinI_any h0 h1 (by decide)).mono ?_
            rintro e w' ⟨u, rfl, hu, hk⟩
            exact hK _ _ hk hu
          go_simp
          generalize hZ : (Act.mk _ _) = Z
          refine hK Z ?_
          subst hZ
          clear hK K
          refine kAll_pw (by kernel_rfl) (fun K hK => ?_)
          go_simp
          generalize hZ : (Act.mk _ _) = Z
          refine hK Z ?_
          subst hZ
          clear hK K
          refine kAll_tn _ (fun v W W' hk h => h.keep0 hk) (fun W hW hF => kStep_w (by kernel_rfl) fun K Q hK => ?_) (fun u3 K hK => ?_)
          · have h0 : (fun v W => IsTB 300 W v (joinM l0 l1)) u2 W := kHas_at hF 0 rfl (by kernel_rfl)
            have h1 := F_5.out W (hW)
            go_simp
            refine (joinI_any h0 h1 (by decide)).mono ?_
            rintro e w' ⟨u, rfl, hu, hk⟩
            exact hK _ _ hk hu
          go_simp
          generalize hZ : (Act.mk _ _) = Z
          refine hK Z ?_
          subst hZ
          clear hK K
          refine kAll_pw (by kernel_rfl) (fun K hK => ?_)
          go_simp
          generalize hZ : (Act.mk _ _) = Z
          refine hK Z ?_
          subst hZ
          clear hK K
          refine kAll_pw (by kernel_rfl) (fun K hK => ?_)
          go_simp
          generalize hZ : (Act.mk _ _) = Z
          refine hK Z ?_
          subst hZ
          clear hK K
          refine kAll_pw (by kernel_rfl) (fun K hK => ?_)
          go_simp
          generalize hZ : (Act.mk _ _) = Z
          refine hK Z ?_
          subst hZ
          clear hK K
          refine kAll_tn _ (fun v W W' hk h => h.keep0 hk) (fun W hW hF => kStep_w (by kernel_rfl) fun K Q hK => ?_) (fun u4 K hK => ?_)
          · have h0 := F_4.out W (hW)
            have h1 := F_5.out W (hW)
            go_simp
            refine (joinI_any h0 h1 (by decide)).mono ?_
            rintro e w' ⟨u, rfl, hu, hk⟩
            exact hK _ _ hk hu
          go_simp
          generalize hZ : (Act.mk _ _) = Z
          refine hK Z ?_
          subst hZ
          clear hK K
          refine kAll_tn _ (fun v W W' hk h => h.keep0 hk) (fun W hW hF => kStep_w (by kernel_rfl) fun K Q hK => ?_) (fun u5 K hK => ?_)
          · have h0 := F_3.out W (hW)
            have h1 : (fun v W => IsTB 300 W v (joinM l1 l2)) u4 W := kHas_at hF 0 rfl (by kernel_rfl)
            go_simp
            refine (joinI_any h0 h1 (by decide)).mono ?_
            rintro e w' ⟨u, rfl, hu, hk⟩
            exact hK _ _ hk hu
          go_simp
          generalize hZ : (Act.mk _ _) = Z
          refine hK Z ?_
          subst hZ
          clear hK K
          refine kAll_dn _ (fun W hW hF => kStep_w (by kernel_rfl) fun K Q hK => ?_) (fun K hK => ?_)
          · have h0 : (fun v W => IsTB 450 W v (joinM (joinM l0 l1) l2)) u3 W := kHas_at hF 2 rfl (by kernel_rfl)
            have h1 : (fun v W => IsTB 450 W v (joinM l0 (joinM l1 l2))) u5 W := kHas_at hF 0 rfl (by kernel_rfl)
            go_simp
            refine (sameI_is true h0 h1 (by decide) (decide_eq_true (joinM_assoc _ _ _))).mono ?_
            rintro e w' ⟨rfl, hk⟩
            exact hK _ _ hk rfl
          go_simp
          generalize hZ : (Act.mk _ _) = Z
          refine hK Z ?_
          subst hZ
          clear hK K
          refine kAll_pw (by kernel_rfl) (fun K hK => ?_)
          go_simp
          generalize hZ : (Act.mk _ _) = Z
          refine hK Z ?_
          subst hZ
          clear hK K
          refine kAll_p (fun K hK => ?_)
          go_simp
          generalize hZ : (Act.mk _ _) = Z
          refine hK Z ?_
          subst hZ
          clear hK K
          refine kAll_p (fun K hK => ?_)
          go_simp
          generalize hZ : (Act.mk _ _) = Z
          refine hK Z ?_
          subst hZ
          clear hK K
          refine kAll_pw (by kernel_rfl) (fun K hK => ?_)
          go_simp
          generalize hZ : (Act.mk _ _) = Z
          refine hK Z ?_
          subst hZ
          clear hK K
          refine kAll_dn _ (fun W hW hF => kStep_w (by kernel_rfl) fun K Q hK => ?_) (fun K hK => ?_)
          · have h0 := F_3.out W (hW)
            go_simp
            refine (mayI_is true h0 (by decide) HMa.out).mono ?_
            rintro e w' ⟨rfl, hk⟩
            exact hK _ _ hk rfl
          go_simp
          generalize hZ : (Act.mk _ _) = Z
          refine hK Z ?_
          subst hZ
          clear hK K
          refine kAll_pw (by kernel_rfl) (fun K hK => ?_)
          go_simp
          generalize hZ : (Act.mk _ _) = Z
          refine hK Z ?_
          subst hZ
          clear hK K
          refine kAll_pw (by kernel_rfl) (fun K hK => ?_)
          go_simp
          generalize hZ : (Act.mk _ _) = Z
          refine hK Z ?_
          subst hZ
          clear hK K
          refine kAll_pw (by kernel_rfl) (fun K hK => ?_)
          go_simp
          generalize hZ : (Act.mk _ _) = Z
          refine hK Z ?_
          subst hZ
          clear hK K
          refine kAll_pw (by kernel_rfl) (fun K hK => ?_)
          go_simp
          generalize hZ : (Act.mk _ _) = Z
          refine hK Z ?_
          subst hZ
          clear hK K
          refine kAll_tn _ (fun v W W' hk h => h.keep0 hk) (fun W hW hF => kStep_w (by kernel_rfl) fun K Q hK => ?_) (fun u6 K hK => ?_)
          · have h0 := F_3.out W (hW)
            have h1 := F_3.out W (hW)
            go_simp
            refine (joinI_any h0 h1 (by decide)).mono ?_
            rintro e w' ⟨u, rfl, hu, hk⟩
            exact hK _ _ hk hu
          go_simp
          generalize hZ : (Act.mk _ _) = Z
          refine hK Z ?_
          subst hZ
          clear hK K
          refine kAll_pw (by kernel_rfl) (fun K hK => ?_)
          go_simp
          generalize hZ : (Act.mk _ _) = Z
          refine hK Z ?_
          subst hZ
          clear hK K
          refine kAll_dn _ (fun W hW hF => kStep_w (by kernel_rfl) fun K Q hK => ?_) (fun K hK => ?_)
          · have h0 : (fun v W => IsTB 300 W v (joinM l0 l0)) u6 W := kHas_at hF 0 rfl (by kernel_rfl)
            have h1 := F_3.out W (hW)
            go_simp
            refine (sameI_is true h0 h1 (by decide) HJ1.out).mono ?_
            rintro e w' ⟨rfl, hk⟩
            exact hK _ _ hk rfl
          go_simp
          generalize hZ : (Act.mk _ _) = Z
          refine hK Z ?_
          subst hZ
          clear hK K
          refine kAll_pw (by kernel_rfl) (fun K hK => ?_)
          go_simp
          generalize hZ : (Act.mk _ _) = Z
          refine hK Z ?_
          subst hZ
          clear hK K
          refine kAll_pw (by kernel_rfl) (fun K hK => ?_)
          go_simp
          generalize hZ : (Act.mk _ _) = Z
          refine hK Z ?_
          subst hZ
          clear hK K
          refine kAll_pw (by kernel_rfl) (fun K hK => ?_)
          go_simp
          generalize hZ : (Act.mk _ _) = Z
          refine hK Z ?_
          subst hZ
          clear hK K
          refine kAll_pw (by kernel_rfl) (fun K hK => ?_)
          go_simp
          generalize hZ : (Act.mk _ _) = Z
          refine hK Z ?_
          subst hZ
          clear hK K
          refine kAll_tn _ (fun v W W' hk h => h.keep0 hk) (fun W hW hF => kStep_w (by kernel_rfl) fun K Q hK => ?_) (fun u7 K hK => ?_)
          · have h0 := F_3.out W (hW)
            have h1 := isTB_nil W
            go_simp
            refine (joinI_any h0 h1 (by decide)).mono ?_
            rintro e w' ⟨u, rfl, hu, hk⟩
            exact hK _ _ hk hu
          go_simp
          generalize hZ : (Act.mk _ _) = Z
          refine hK Z ?_
          subst hZ
          clear hK K
          refine kAll_pw (by kernel_rfl) (fun K hK => ?_)
          go_simp
          generalize hZ : (Act.mk _ _) = Z
          refine hK Z ?_
          subst hZ
          clear hK K
          refine kAll_dn _ (fun W hW hF => kStep_w (by kernel_rfl) fun K Q hK => ?_) (fun K hK => ?_)
          · have h0 : (fun v W => IsTB 150 W v (joinM l0 [])) u7 W := kHas_at hF 0 rfl (by kernel_rfl)
            have h1 := F_3.out W (hW)
            go_simp
            refine (sameI_is true h0 h1 (by decide) HJ2.out).mono ?_
            rintro e w' ⟨rfl, hk⟩
            exact hK _ _ hk rfl
          go_simp
          generalize hZ : (Act.mk _ _) = Z
          refine hK Z ?_
          subst hZ
          clear hK K
          refine kAll_pw (by kernel_rfl) (fun K hK => ?_)
          go_simp
          generalize hZ : (Act.mk _ _) = Z
          refine hK Z ?_
          subst hZ
          clear hK K
          refine kAll_pw (by kernel_rfl) (fun K hK => ?_)
          go_simp
          generalize hZ : (Act.mk _ _) = Z
          refine hK Z ?_
          subst hZ
          clear hK K
          refine kAll_pw (by kernel_rfl) (fun K hK => ?_)
          go_simp
          generalize hZ : (Act.mk _ _) = Z
          refine hK Z ?_
          subst hZ
          clear hK K
          refine kAll_p (fun K hK => ?_)
          go_simp
          generalize hZ : (Act.mk _ _) = Z
          refine hK Z ?_
          subst hZ
          clear hK K
          refine kAll_nil (fun W7 hW hF => ?_)
          clear hF
          have hk_8 : Keep (fun _ => False) _ W7 := hW
          have F_9 := Lib.hid (fun W h => F_3.out W (keep0_trans _ _ _ hk_8 h))
          have F_10 := Lib.hid (fun W h => F_4.out W (keep0_trans _ _ _ hk_8 h))
          have F_11 := Lib.hid (fun W h => F_5.out W (keep0_trans _ _ _ hk_8 h))
          have K_12 := Lib.hid (keep0_trans _ _ _ K_6.out hk_8)
          clear hk_8 F_3 F_4 F_5 K_6
          clear hW
          go_upto_region 6 with (fail)
          refine wp_region_kord (Keep (fun _ => False)) (Keep.refl _) keep0_trans 23 (Ts := [none, some (.inl (.bool true)), none, none, none, some (.inl (.bool true)), none, none, none, none, none, some (.inr (fun v W => IsTB 300 W v (joinM l0 l1))), some (.inl (.bool false)), none, none, none, none, none, none, none, none, none, none]) ?_
          simp only [List.take, List.drop]
          refine kAll_p (fun K hK => ?_)
          go_simp
          generalize hZ : (Act.mk _ _) = Z
          refine hK Z ?_
          subst hZ
          clear hK K
          refine kAll_dn _ (fun W hW hF => kStep_of fun K Q hK => ?_) (fun K hK => ?_)
          · have h0 := F_9.out W (hW)
            go_simp
            refine (mayI_is true h0 (by decide) HMa.out).mono ?_
            rintro e w' ⟨rfl, hk⟩
            exact hK _ _ hk rfl
          go_simp
          generalize hZ : (Act.mk _ _) = Z
          refine hK Z ?_
          subst hZ
          clear hK K
          refine kAll_p (fun K hK => ?_)
          go_simp
          generalize hZ : (Act.mk _ _) = Z
          refine hK Z ?_
          subst hZ
          clear hK K
          refine kAll_p (fun K hK => ?_)
          go_simp
          generalize hZ : (Act.mk _ _) = Z
          refine hK Z ?_
          subst hZ
          clear hK K
          refine kAll_pw (by kernel_rfl) (fun K hK => ?_)
          go_simp
          generalize hZ : (Act.mk _ _) = Z
          refine hK Z ?_
          subst hZ
          clear hK K
          refine kAll_dn _ (fun W hW hF => kStep_w (by kernel_rfl) fun K Q hK => ?_) (fun K hK => ?_)
          · have h0 := F_10.out W (hW)
            go_simp
            refine (mayI_is true h0 (by decide) HMb.out).mono ?_
            rintro e w' ⟨rfl, hk⟩
            exact hK _ _ hk rfl
          go_simp
          generalize hZ : (Act.mk _ _) = Z
          refine hK Z ?_
          subst hZ
          clear hK K
          refine kAll_pw (by kernel_rfl) (fun K hK => ?_)
          go_simp
          generalize hZ : (Act.mk _ _) = Z
          refine hK Z ?_
          subst hZ
          clear hK K
          refine kAll_p (fun K hK => ?_)
          go_simp
          generalize hZ : (Act.mk _ _) = Z
          refine hK Z ?_
          subst hZ
          clear hK K
          refine kAll_p (fun K hK => ?_)
          go_simp
          generalize hZ : (Act.mk _ _) = Z
          refine hK Z ?_
          subst hZ
          clear hK K
          refine kAll_pw (by kernel_rfl) (fun K hK => ?_)
          go_simp
          generalize hZ : (Act.mk _ _) = Z
          refine hK Z ?_
          subst hZ
          clear hK K
          refine kAll_pw (by kernel_rfl) (fun K hK => ?_)
          go_simp
          generalize hZ : (Act.mk _ _) = Z
          refine hK Z ?_
          subst hZ
          clear hK K
          refine kAll_tn _ (fun v W W' hk h => h.keep0 hk) (fun W hW hF => kStep_w (by kernel_rfl) fun K Q hK => ?_) (fun u0 K hK => ?_)
          · have h0 := F_9.out W (hW)
            have h1 := F_10.out W (hW)
            go_simp
            refine (joinI_any h0 h1 (by decide)).mono ?_
            rintro e w' ⟨u, rfl, hu, hk⟩
            exact hK _ _ hk hu
          go_simp
          generalize hZ : (Act.mk _ _) = Z
          refine hK Z ?_
          subst hZ
          clear hK K
          refine kAll_dn _ (fun W hW hF => kStep_w (by kernel_rfl) fun K Q hK => ?_) (fun K hK => ?_)
          · have h0 : (fun v W => IsTB 300 W v (joinM l0 l1)) u0 W := kHas_at hF 0 rfl (by kernel_rfl)
            go_simp
            refine (mayI_is false h0 (by decide) HMj.out).mono ?_
            rintro e w' ⟨rfl, hk⟩
            exact hK _ _ hk rfl
          go_simp
          generalize hZ : (Act.mk _ _) = Z
          refine hK Z ?_
          subst hZ
          clear hK K
          refine kAll_p (fun K hK => ?_)
          go_simp
          generalize hZ : (Act.mk _ _) = Z
          refine hK Z ?_
          subst hZ
          clear hK K
          refine kAll_p (fun K hK => ?_)
          go_simp
          generalize hZ : (Act.mk _ _) = Z
          refine hK Z ?_
          subst hZ
          clear hK K
          refine kAll_pw (by kernel_rfl) (fun K hK => ?_)
          go_simp
          generalize hZ : (Act.mk _ _) = Z
          refine hK Z ?_
          subst hZ
          clear hK K
          refine kAll_pw (by kernel_rfl) (fun K hK => ?_)
          go_simp
          generalize hZ : (Act.mk _ _) = Z
          refine hK Z ?_
          subst hZ
          clear hK K
          refine kAll_pw (by kernel_rfl) (fun K hK => ?_)
          go_simp
          generalize hZ : (Act.mk _ _) = Z
          refine hK Z ?_
          subst hZ
          clear hK K
          refine kAll_pw (by kernel_rfl) (fun K hK => ?_)
          go_simp
          generalize hZ : (Act.mk _ _) = Z
          refine hK Z ?_
          subst hZ
          clear hK K
          refine kAll_pw (by kernel_rfl) (fun K hK => ?_)
          go_simp
          generalize hZ : (Act.mk _ _) = Z
          refine hK Z ?_
          subst hZ
          clear hK K
          refine kAll_pw (by kernel_rfl) (fun K hK => ?_)
          go_simp
          generalize hZ : (Act.mk _ _) = Z
          refine hK Z ?_
          subst hZ
          clear hK K
          refine kAll_p (fun K hK => ?_)
          go_simp
          generalize hZ : (Act.mk _ _) = Z
          refine hK Z ?_
          subst hZ
          clear hK K
          refine kAll_p (fun K hK => ?_)
          go_simp
          generalize hZ : (Act.mk _ _) = Z
          refine hK Z ?_
          subst hZ
          clear hK K
          refine kAll_nil (fun W13 hW hF => ?_)
          clear hF
          have hk_14 : Keep (fun _ => False) _ W13 := hW
          have F_15 := Lib.hid (fun W h => F_9.out W (keep0_trans _ _ _ hk_14 h))
          have F_16 := Lib.hid (fun W h => F_10.out W (keep0_trans _ _ _ hk_14 h))
          have F_17 := Lib.hid (fun W h => F_11.out W (keep0_trans _ _ _ hk_14 h))
          have K_18 := Lib.hid (keep0_trans _ _ _ K_12.out hk_14)
          clear hk_14 F_9 F_10 F_11 K_12
          clear hW
          go_wp2
          go_ret
          exact ⟨rfl, K_18.out⟩
        · have HMj := Lib.hid mj
          clear ma mb mj
          go_enter Try.func5, Try.ntmps5
          go_upto_region 1 with (fail)
          refine wp_region_kord (Keep (fun _ => False)) (Keep.refl _) keep0_trans 9 (Ts := [some (.inl (.bool true)), none, none, none, none, none, some (.inr (fun v W => IsLg W v [n0, n1, n2])), some (.inl (.bool false)), none]) ?_
          simp only [List.take, List.drop]
          refine kAll_dn _ (fun W hW hF => kStep_of fun K Q hK => ?_) (fun K hK => ?_)
          · go_simp
            refine (works_any W).mono ?_
            rintro e w' ⟨rfl, hk⟩
            exact hK _ _ hk rfl
          go_simp
          generalize hZ : (Act.mk _ _) = Z
          refine hK Z ?_
          subst hZ
          clear hK K
          refine kAll_p (fun K hK => ?_)
          go_simp
          generalize hZ : (Act.mk _ _) = Z
          refine hK Z ?_
          subst hZ
          clear hK K
          refine kAll_p (fun K hK => ?_)
          go_simp
          generalize hZ : (Act.mk _ _) = Z
          refine hK Z ?_
          subst hZ
          clear hK K
          refine kAll_pw (by kernel_rfl) (fun K hK => ?_)
          go_simp
          generalize hZ : (Act.mk _ _) = Z
          refine hK Z ?_
          subst hZ
          clear hK K
          refine kAll_pw (by kernel_rfl) (fun K hK => ?_)
          go_simp
          generalize hZ : (Act.mk _ _) = Z
          refine hK Z ?_
          subst hZ
          clear hK K
          refine kAll_pw (by kernel_rfl) (fun K hK => ?_)
          go_simp
          generalize hZ : (Act.mk _ _) = Z
          refine hK Z ?_
          subst hZ
          clear hK K
          refine kAll_tn _ (fun v W W' hk h => h.keep0 hk) (fun W hW hF => kStep_w (by kernel_rfl) fun K Q hK => ?_) (fun u0 K hK => ?_)
          · go_simp
            exact hK _ _ ((Keep.refl _ _).alloc _) ⟨_, _, _, [(A0, n0, c0), (A1, n1, c1), (A2, n2, c2)], rfl, rfl, rfl, RdK.of_blk (Blk.new _ _ _) 3 1 rfl⟩
          go_simp
          generalize hZ : (Act.mk _ _) = Z
          refine hK Z ?_
          subst hZ
          clear hK K
          refine kAll_dn _ (fun W hW hF => kStep_w (by kernel_rfl) fun K Q hK => ?_) (fun K hK => ?_)
          · have h0 : (fun v W => IsLg W v [n0, n1, n2]) u0 W := kHas_at hF 0 rfl (by kernel_rfl)
            go_simp
            refine (large_is false h0 (by simp) HBig.out).mono ?_
            rintro e w' ⟨rfl, hk⟩
            exact hK _ _ hk rfl
          go_simp
          generalize hZ : (Act.mk _ _) = Z
          refine hK Z ?_
          subst hZ
          clear hK K
          refine kAll_p (fun K hK => ?_)
          go_simp
          generalize hZ : (Act.mk _ _) = Z
          refine hK Z ?_
          subst hZ
          clear hK K
          refine kAll_nil (fun W1 hW hF => ?_)
          clear hF
          have hk_2 : Keep (fun _ => False) _ W1 := hW
          have F_3 := Lib.hid (fun W h => F0.out W (keep0_trans _ _ _ hk_2 h))
          have F_4 := Lib.hid (fun W h => F1.out W (keep0_trans _ _ _ hk_2 h))
          have F_5 := Lib.hid (fun W h => F2.out W (keep0_trans _ _ _ hk_2 h))
          have K_6 := Lib.hid (keep0_trans _ _ _ K0.out hk_2)
          clear hk_2 F0 F1 F2 K0
          clear hW
          go_upto_region 4 with (fail)
          refine wp_region_kord (Keep (fun _ => False)) (Keep.refl _) keep0_trans 45 (Ts := [none, none, none, some (.inr (fun v W => IsTB 300 W v (joinM l0 l1))), none, none, some (.inr (fun v W => IsTB 300 W v (joinM l1 l0))), some (.inl (.bool true)), none, none, none, none, none, some (.inr (fun v W => IsTB 300 W v (joinM l0 l1))), none, some (.inr (fun v W => IsTB 450 W v (joinM (joinM l0 l1) l2))), none, none, none, some (.inr (fun v W => IsTB 300 W v (joinM l1 l2))), some (.inr (fun v W => IsTB 450 W v (joinM l0 (joinM l1 l2)))), some (.inl (.bool true)), none, none, none, none, some (.inl (.bool true)), none, none, none, none, some (.inr (fun v W => IsTB 300 W v (joinM l0 l0))), none, some (.inl (.bool true)), none, none, none, none, some (.inr (fun v W => IsTB 150 W v (joinM l0 []))), none, some (.inl (.bool true)), none, none, none, none]) ?_
          simp only [List.take, List.drop]
          refine kAll_p (fun K hK => ?_)
          go_simp
          generalize hZ : (Act.mk _ _) = Z
          refine hK Z ?_
          subst hZ
          clear hK K
          refine kAll_p (fun K hK => ?_)
          go_simp
          generalize hZ : (Act.mk _ _) = Z
          refine hK Z ?_
          subst hZ
          clear hK K
          refine kAll_p (fun K hK => ?_)
          go_simp
          generalize hZ : (Act.mk _ _) = Z
          refine hK Z ?_
          subst hZ
          clear hK K
          refine kAll_tn _ (fun v W W' hk h => h.keep0 hk) (fun W hW hF => kStep_of fun K Q hK => ?_) (fun u0 K hK => ?_)
          · have h0 := F_3.out W (hW)
            have h1 := F_4.out W (hW)
            go_simp
            refine (joinI_any h0 h1 (by decide)).mono ?_
            rintro e w' ⟨u, rfl, hu, hk⟩
            exact hK _ _ hk hu
          go_simp
          generalize hZ : (Act.mk _ _) = Z
          refine hK Z ?_
          subst hZ
          clear hK K
          refine kAll_p (fun K hK => ?_)
          go_simp
          generalize hZ : (Act.mk _ _) = Z
          refine hK Z ?_
          subst hZ
          clear hK K
          refine kAll_p (fun K hK => ?_)
          go_simp
          generalize hZ : (Act.mk _ _) = Z
          refine hK Z ?_
          subst hZ
          clear hK K
          refine kAll_tn _ (fun v W W' hk h => h.keep0 hk) (fun W hW hF => kStep_of fun K Q hK => ?_) (fun u1 K hK => ?_)
          · have h0 := F_4.out W (hW)
            have h1 := F_3.out W (hW)
            go_simp
            refine (joinI_any h0 h1 (by decide)).mono ?_
            rintro e w' ⟨u, rfl, hu, hk⟩
            exact hK _ _ hk hu
          go_simp
          generalize hZ : (Act.mk _ _) = Z
          refine hK Z ?_
          subst hZ
          clear hK K
          refine kAll_dn _ (fun W hW hF => kStep_of fun K Q hK => ?_) (fun K hK => ?_)
          · have h0 : (fun v W => IsTB 300 W v (joinM l0 l1)) u0 W := kHas_at hF 1 rfl (by kernel_rfl)
            have h1 : (fun v W => IsTB 300 W v (joinM l1 l0)) u1 W := kHas_at hF 0 rfl (by kernel_rfl)
            go_simp
            refine (sameI_is true h0 h1 (by decide) (decide_eq_true (joinM_comm _ _))).mono ?_
            rintro e w' ⟨rfl, hk⟩
            exact hK _ _ hk rfl
          go_simp
          generalize hZ : (Act.mk _ _) = Z
          refine hK Z ?_
          subst hZ
          clear hK K
          refine kAll_p (fun K hK => ?_)
          go_simp
          generalize hZ : (Act.mk _ _) = Z
          refine hK Z ?_
          subst hZ
          clear hK K
          refine kAll_p (fun K hK => ?_)
          go_simp
          generalize hZ : (Act.mk _ _) = Z
          refine hK Z ?_
          subst hZ
          clear hK K
          refine kAll_pw (by kernel_rfl) (fun K hK => ?_)
          go_simp
          generalize hZ : (Act.mk _ _) = Z
          refine hK Z ?_
          subst hZ
          clear hK K
          refine kAll_pw (by kernel_rfl) (fun K hK => ?_)
          go_simp
          generalize hZ : (Act.mk _ _) = Z
          refine hK Z ?_
          subst hZ
          clear hK K
          refine kAll_pw (by kernel_rfl) (fun K hK => ?_)
          go_simp
          generalize hZ : (Act.mk _ _) = Z
          refine hK Z ?_
          subst hZ
          clear hK K
          refine kAll_tn _ (fun v W W' hk h => h.keep0 hk) (fun W hW hF => kStep_w (by kernel_rfl) fun K Q hK => ?_) (fun u2 K hK => ?_)
          · have h0 := F_3.out W (hW)
            have h1 := F_4.out W (hW)
            go_simp
            refine (joinI_any h0 h1 (by decide)).mono ?_
            rintro e w' ⟨u, rfl, hu, hk⟩
            exact hK _ _ hk hu
          go_simp
          generalize hZ : (Act.mk _ _) = Z
          refine hK Z ?_
          subst hZ
          clear hK K
          refine kAll_pw (by kernel_rfl) (fun K hK => ?_)
          go_simp
          generalize hZ : (Act.mk _ _) = Z
          refine hK Z ?_
          subst hZ
          clear hK K
          refine kAll_tn _ (fun v W W' hk h => h.keep0 hk) (fun W hW hF => kStep_w (by kernel_rfl) fun K Q hK => ?_) (fun u3 K hK => ?_)
          · have h0 : (fun v W => IsTB 300 W v (joinM l0 l1)) u2 W := kHas_at hF 0 rfl (by kernel_rfl)
            have h1 := F_5.out W (hW)
            go_simp
            refine (joinI_any h0 h1 (by decide)).mono ?_
            rintro e w' ⟨u, rfl, hu, hk⟩
            exact hK _ _ hk hu
          go_simp
          generalize hZ : (Act.mk _ _) = Z
          refine hK Z ?_
          subst hZ
          clear hK K
          refine kAll_pw (by kernel_rfl) (fun K hK => ?_)
          go_simp
          generalize hZ : (Act.mk _ _) = Z
          refine hK Z ?_
          subst hZ
          clear hK K
          refine kAll_pw (by kernel_rfl) (fun K hK => ?_)
          go_simp
          generalize hZ : (Act.mk _ _) = Z
          refine hK Z ?_
          subst hZ
          clear hK K
          refine kAll_pw (by kernel_rfl) (fun K hK => ?_)
          go_simp
          generalize hZ : (Act.mk _ _) = Z
          refine hK Z ?_
          subst hZ
          clear hK K
          refine kAll_tn _ (fun v W W' hk h => h.keep0 hk) (fun W hW hF => kStep_w (by kernel_rfl) fun K Q hK => ?_) (fun u4 K hK => ?_)
          · have h0 := F_4.out W (hW)
            have h1 := F_5.out W (hW)
            go_simp
            refine (joinI_any h0 h1 (by decide)).mono ?_
            rintro e w' ⟨u, rfl, hu, hk⟩
            exact hK _ _ hk hu
          go_simp
          generalize hZ : (Act.mk _ _) = Z
          refine hK Z ?_
          subst hZ
          clear hK K
          refine kAll_tn _ (fun v W W' hk h => h.keep0 hk) (fun W hW hF => kStep_w (by kernel_rfl) fun K Q hK => ?_) (fun u5 K hK => ?_)
          · have h0 := F_3.out W (hW)
            have h1 : (fun v W => IsTB 300 W v (joinM l1 l2)) u4 W := kHas_at hF 0 rfl (by kernel_rfl)
            go_simp
            refine (joinI_any h0 h1 (by decide)).mono ?_
            rintro e w' ⟨u, rfl, hu, hk⟩
            exact hK _ _ hk hu
          go_simp
          generalize hZ : (Act.mk _ _) = Z
          refine hK Z ?_
          subst hZ
          clear hK K
          refine kAll_dn _ (fun W hW hF => kStep_w (by kernel_rfl) fun K Q hK => ?_) (fun K hK => ?_)
          · have h0 : (fun v W => IsTB 450 W v (joinM (joinM l0 l1) l2)) u3 W := kHas_at hF 2 rfl (by kernel_rfl)
            have h1 : (fun v W => IsTB 450 W v (joinM l0 (joinM l1 l2))) u5 W := kHas_at hF 0 rfl (by kernel_rfl)
            go_simp
            refine (sameI_is true h0 h1 (by decide) (decide_eq_true (joinM_assoc _ _ _))).mono ?_
            rintro e w' ⟨rfl, hk⟩
            exact hK _ _ hk rfl
          go_simp
          generalize hZ : (Act.mk _ _) = Z
          refine hK Z ?_
          subst hZ
          clear hK K
          refine kAll_pw (by kernel_rfl) (fun K hK => ?_)
          go_simp
          generalize hZ : (Act.mk _ _) = Z
          refine hK Z ?_
          subst hZ
          clear hK K
          refine kAll_p (fun K hK => ?_)
          go_simp
          generalize hZ : (Act.mk _ _) = Z
          refine hK Z ?_
          subst hZ
          clear hK K
          refine kAll_p (fun K hK => ?_)
          go_simp
          generalize hZ : (Act.mk _ _) = Z
          refine hK Z ?_
          subst hZ
          clear hK K
          refine kAll_pw (by kernel_rfl) (fun K hK => ?_)
          go_simp
          generalize hZ : (Act.mk _ _) = Z
          refine hK Z ?_
          subst hZ
          clear hK K
          refine kAll_dn _ (fun W hW hF => kStep_w (by kernel_rfl) fun K Q hK => ?_) (fun K hK => ?_)
          · have h0 := F_3.out W (hW)
            go_simp
            refine (mayI_is true h0 (by decide) HMa.out).mono ?_
            rintro e w' ⟨rfl, hk⟩
            exact hK _ _ hk rfl
          go_simp
          generalize hZ : (Act.mk _ _) = Z
          refine hK Z ?_
          subst hZ
          clear hK K
          refine kAll_pw (by kernel_rfl) (fun K hK => ?_)
          go_simp
          generalize hZ : (Act.mk _ _) = Z
          refine hK Z ?_
          subst hZ
          clear hK K
          refine kAll_pw (by kernel_rfl) (fun K hK => ?_)
          go_simp
          generalize hZ : (Act.mk _ _) = Z
          refine hK Z ?_
          subst hZ
          clear hK K
          refine kAll_pw (by kernel_rfl) (fun K hK => ?_)
          go_simp
          generalize hZ : (Act.mk _ _) = Z
          refine hK Z ?_
          subst hZ
          clear hK K
          refine kAll_pw (by kernel_rfl) (fun K hK => ?_)
          go_simp
          generalize hZ : (Act.mk _ _) = Z
          refine hK Z ?_
          subst hZ
          clear hK K
          refine kAll_tn _ (fun v W W' hk h => h.keep0 hk) (fun W hW hF => kStep_w (by kernel_rfl) fun K Q hK => ?_) (fun u6 K hK => ?_)
          · have h0 := F_3.out W (hW)
            have h1 := F_3.out W (hW)
            go_simp
            refine (joinI_any h0 h1 (by decide)).mono ?_
            rintro e w' ⟨u, rfl, hu, hk⟩
            exact hK _ _ hk hu
          go_simp
          generalize hZ : (Act.mk _ _) = Z
          refine hK Z ?_
          subst hZ
          clear hK K
          refine kAll_pw (by kernel_rfl) (fun K hK => ?_)
          go_simp
          generalize hZ : (Act.mk _ _) = Z
          refine hK Z ?_
          subst hZ
          clear hK K
          refine kAll_dn _ (fun W hW hF => kStep_w (by kernel_rfl) fun K Q hK => ?_) (fun K hK => ?_)
          · have h0 : (fun v W => IsTB 300 W v (joinM l0 l0)) u6 W := kHas_at hF 0 rfl (by kernel_rfl)
            have h1 := F_3.out W (hW)
            go_simp
            refine (sameI_is true h0 h1 (by decide) HJ1.out).mono ?_
            rintro e w' ⟨rfl, hk⟩
            exact hK _ _ hk rfl
          go_simp
          generalize hZ : (Act.mk _ _) = Z
          refine hK Z ?_
          subst hZ
          clear hK K
          refine kAll_pw (by kernel_rfl) (fun K hK => ?_)
          go_simp
          generalize hZ : (Act.mk _ _) = Z
          refine hK Z ?_
          subst hZ
          clear hK K
          refine kAll_pw (by kernel_rfl) (fun K hK => ?_)
          go_simp
          generalize hZ : (Act.mk _ _) = Z
          refine hK Z ?_
          subst hZ
          clear hK K
          refine kAll_pw (by kernel_rfl) (fun K hK => ?_)
          go_simp
          generalize hZ : (Act.mk _ _) = Z
          refine hK Z ?_
          subst hZ
          clear hK K
          refine kAll_pw (by kernel_rfl) (fun K hK => ?_)
          go_simp
          generalize hZ : (Act.mk _ _) = Z
          refine hK Z ?_
          subst hZ
          clear hK K
          refine kAll_tn _ (fun v W W' hk h => h.keep0 hk) (fun W hW hF => kStep_w (by kernel_rfl) fun K Q hK => ?_) (fun u7 K hK => ?_)
          · have h0 := F_3.out W (hW)
            have h1 := isTB_nil W
            go_simp
            refine (joinI_any h0 h1 (by decide)).mono ?_
            rintro e w' ⟨u, rfl, hu, hk⟩
            exact hK _ _ hk hu
          go_simp
          generalize hZ : (Act.mk _ _) = Z
          refine hK Z ?_
          subst hZ
          clear hK K
          refine kAll_pw (by kernel_rfl) (fun K hK => ?_)
          go_simp
          generalize hZ : (Act.mk _ _) = Z
          refine hK Z ?_
          subst hZ
          clear hK K
          refine kAll_dn _ (fun W hW hF => kStep_w (by kernel_rfl) fun K Q hK => ?_) (fun K hK => ?_)
          · have h0 : (fun v W => IsTB 150 W v (joinM l0 [])) u7 W := kHas_at hF 0 rfl (by kernel_rfl)
            have h1 := F_3.out W (hW)
            go_simp
            refine (sameI_is true h0 h1 (by decide) HJ2.out).mono ?_
            rintro e w' ⟨rfl, hk⟩
            exact hK _ _ hk rfl
          go_simp
          generalize hZ : (Act.mk _ _) = Z
          refine hK Z ?_
          subst hZ
          clear hK K
          refine kAll_pw (by kernel_rfl) (fun K hK => ?_)
          go_simp
          generalize hZ : (Act.mk _ _) = Z
          refine hK Z ?_
          subst hZ
          clear hK K
          refine kAll_pw (by kernel_rfl) (fun K hK => ?_)
          go_simp
          generalize hZ : (Act.mk _ _) = Z
          refine hK Z ?_
          subst hZ
          clear hK K
          refine kAll_pw (by kernel_rfl) (fun K hK => ?_)
          go_simp
          generalize hZ : (Act.mk _ _) = Z
          refine hK Z ?_
          subst hZ
          clear hK K
          refine kAll_p (fun K hK => ?_)
          go_simp
          generalize hZ : (Act.mk _ _) = Z
          refine hK Z ?_
          subst hZ
          clear hK K
          refine kAll_nil (fun W7 hW hF => ?_)
          clear hF
          have hk_8 : Keep (fun _ => False) _ W7 := hW
          have F_9 := Lib.hid (fun W h => F_3.out W (keep0_trans _ _ _ hk_8 h))
          have F_10 := Lib.hid (fun W h => F_4.out W (keep0_trans _ _ _ hk_8 h))
          have F_11 := Lib.hid (fun W h => F_5.out W (keep0_trans _ _ _ hk_8 h))
          have K_12 := Lib.hid (keep0_trans _ _ _ K_6.out hk_8)
          clear hk_8 F_3 F_4 F_5 K_6
          clear hW
          go_upto_region 6 with (fail)
          refine wp_region_kord (Keep (fun _ => False)) (Keep.refl _) keep0_trans 23 (Ts := [none, some (.inl (.bool true)), none, none, none, some (.inl (.bool true)), none, none, none, none, none, some (.inr (fun v W => IsTB 300 W v (joinM l0 l1))), some (.inl (.bool true)), none, none, none, none, none, none, none, none, none, none]) ?_
          simp only [List.take, List.drop]
          refine kAll_p (fun K hK => ?_)
          go_simp
          generalize hZ : (Act.mk _ _) = Z
          refine hK Z ?_
          subst hZ
          clear hK K
          refine kAll_dn _ (fun W hW hF => kStep_of fun K Q hK => ?_) (fun K hK => ?_)
          · have h0 := F_9.out W (hW)
            go_simp
            refine (mayI_is true h0 (by decide) HMa.out).mono ?_
            rintro e w' ⟨rfl, hk⟩
            exact hK _ _ hk rfl
          go_simp
          generalize hZ : (Act.mk _ _) = Z
          refine hK Z ?_
          subst hZ
          clear hK K
          refine kAll_p (fun K hK => ?_)
          go_simp
          generalize hZ : (Act.mk _ _) = Z
          refine hK Z ?_
          subst hZ
          clear hK K
          refine kAll_p (fun K hK => ?_)
          go_simp
          generalize hZ : (Act.mk _ _) = Z
          refine hK Z ?_
          subst hZ
          clear hK K
          refine kAll_pw (by kernel_rfl) (fun K hK => ?_)
          go_simp
          generalize hZ : (Act.mk _ _) = Z
          refine hK Z ?_
          subst hZ
          clear hK K
          refine kAll_dn _ (fun W hW hF => kStep_w (by kernel_rfl) fun K Q hK => ?_) (fun K hK => ?_)
          · have h0 := F_10.out W (hW)
            go_simp
            refine (mayI_is true h0 (by decide) HMb.out).mono ?_
            rintro e w' ⟨rfl, hk⟩
            exact hK _ _ hk rfl
          go_simp
          generalize hZ : (Act.mk _ _) = Z
          refine hK Z ?_
          subst hZ
          clear hK K
          refine kAll_pw (by kernel_rfl) (fun K hK => ?_)
          go_simp
          generalize hZ : (Act.mk _ _) = Z
          refine hK Z ?_
          subst hZ
          clear hK K
          refine kAll_p (fun K hK => ?_)
          go_simp
          generalize hZ : (Act.mk _ _) = Z
          refine hK Z ?_
          subst hZ
          clear hK K
          refine kAll_p (fun K hK => ?_)
          go_simp
          generalize hZ : (Act.mk _ _) = Z
          refine hK Z ?_
          subst hZ
          clear hK K
          refine kAll_pw (by kernel_rfl) (fun K hK => ?_)
          go_simp
          generalize hZ : (Act.mk _ _) = Z
          refine hK Z ?_
          subst hZ
          clear hK K
          refine kAll_pw (by kernel_rfl) (fun K hK => ?_)
          go_simp
          generalize hZ : (Act.mk _ _) = Z
          refine hK Z ?_
          subst hZ
          clear hK K
          refine kAll_tn _ (fun v W W' hk h => h.keep0 hk) (fun W hW hF => kStep_w (by kernel_rfl) fun K Q hK => ?_) (fun u0 K hK => ?_)
          · have h0 := F_9.out W (hW)
            have h1 := F_10.out W (hW)
            go_simp
            refine (joinI_any h0 h1 (by decide)).mono ?_
            rintro e w' ⟨u, rfl, hu, hk⟩
            exact hK _ _ hk hu
          go_simp
          generalize hZ : (Act.mk _ _) = Z
          refine hK Z ?_
          subst hZ
          clear hK K
          refine kAll_dn _ (fun W hW hF => kStep_w (by kernel_rfl) fun K Q hK => ?_) (fun K hK => ?_)
          · have h0 : (fun v W => IsTB 300 W v (joinM l0 l1)) u0 W := kHas_at hF 0 rfl (by kernel_rfl)
            go_simp
            refine (mayI_is true h0 (by decide) HMj.out).mono ?_
            rintro e w' ⟨rfl, hk⟩
            exact hK _ _ hk rfl
          go_simp
          generalize hZ : (Act.mk _ _) = Z
          refine hK Z ?_
          subst hZ
          clear hK K
          refine kAll_p (fun K hK => ?_)
          go_simp
          generalize hZ : (Act.mk _ _) = Z
          refine hK Z ?_
          subst hZ
          clear hK K
          refine kAll_p (fun K hK => ?_)
          go_simp
          generalize hZ : (Act.mk _ _) = Z
          refine hK Z ?_
          subst hZ
          clear hK K
          refine kAll_skip (by kernel_rfl) ?_
          refine kAll_skip (by kernel_rfl) ?_
          refine kAll_skip (by kernel_rfl) ?_
          refine kAll_skip (by kernel_rfl) ?_
          refine kAll_skip (by kernel_rfl) ?_
          refine kAll_skip (by kernel_rfl) ?_
          refine kAll_p (fun K hK => ?_)
          go_simp
          generalize hZ : (Act.mk _ _) = Z
          refine hK Z ?_
          subst hZ
          clear hK K
          refine kAll_p (fun K hK => ?_)
          go_simp
          generalize hZ : (Act.mk _ _) = Z
          refine hK Z ?_
          subst hZ
          clear hK K
          refine kAll_nil (fun W13 hW hF => ?_)
          clear hF
          have hk_14 : Keep (fun _ => False) _ W13 := hW
          have F_15 := Lib.hid (fun W h => F_9.out W (keep0_trans _ _ _ hk_14 h))
          have F_16 := Lib.hid (fun W h => F_10.out W (keep0_trans _ _ _ hk_14 h))
          have F_17 := Lib.hid (fun W h => F_11.out W (keep0_trans _ _ _ hk_14 h))
          have K_18 := Lib.hid (keep0_trans _ _ _ K_12.out hk_14)
          clear hk_14 F_9 F_10 F_11 K_12
          clear hW
          go_wp2
          go_ret
          exact ⟨rfl, K_18.out⟩
theorem walkClockLaws {w : World} (v0 : Value) (w0 : InTs w v0) (v1 : Value) (w1 : InTs w v1) (v2 : Value) (w2 : InTs w v2) :
    Calls Try.prog 5 #[v0, v1, v2] w fun e w' => e = .returned (.bool true) ∧ Below w.heap.size w w' := by
  obtain ⟨A0, n0, c0, l0, rfl, _, _, h0⟩ := w0
  obtain ⟨A1, n1, c1, l1, rfl, _, _, h1⟩ := w1
  obtain ⟨A2, n2, c2, l2, rfl, _, _, h2⟩ := w2
  exact (laws_tell A0 A1 A2 n0 n1 n2 c0 c1 c2 l0 l1 l2 w h0 h1 h2).mono fun _ _ ⟨h, k⟩ => ⟨h, k.b⟩
end Go.Proofs.Ytljmpjkfdkcjnaa
