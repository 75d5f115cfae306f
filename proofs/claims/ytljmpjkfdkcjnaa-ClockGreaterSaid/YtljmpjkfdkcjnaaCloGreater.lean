/-
  The statement ClockGreater. Written by gen_greater.py.
-/
import Derived.Test.YtljmpjkfdkcjnaaCloK
import Derived.Test.YtljmpjkfdkcjnaaKord
namespace Go.Proofs.Ytljmpjkfdkcjnaa
open Go.RowKit
attribute [local irreducible] kAll
attribute [local go_sem] kQuiet kQuietUpon

theorem big_or (l : List Nat) : l.any (fun x => decide (150 < x)) = true ∨ (l.any (fun x => decide (150 < x)) = false ∧ ∀ x ∈ l, x ≤ 150) := by
  cases h : l.any (fun x => decide (150 < x))
  · rw [List.any_eq_false] at h
    exact .inr ⟨rfl, fun x hx => by have := h x hx; simp at this; exact this⟩
  · exact .inl rfl
theorem above_any (s : Int) (w : World) : Calls Try.prog 16 #[.int .u8 s] w (Tell (.bool (decide (s = 3 ∨ s = 1))) w) := by
  by_cases h3 : s = 3
  · subst h3
    go_enter Try.func16, Try.ntmps16
    go_wp2
    go_ret
    exact ⟨rfl, Keep.refl _ _⟩
  · have e3 : (s == 3) = false := by simpa using h3
    by_cases h1 : s = 1
    · subst h1
      go_enter Try.func16, Try.ntmps16
      go_wp2
      go_ret
      exact ⟨rfl, Keep.refl _ _⟩
    · have e1 : (s == 1) = false := by simpa using h1
      have hd : decide (s = 3 ∨ s = 1) = false := decide_eq_false (fun h => h.elim h3 h1)
      rw [hd]
      go_enter Try.func16, Try.ntmps16
      go_wp2
      go_ret
      exact ⟨rfl, Keep.refl _ _⟩
theorem above_is (s : Int) (w : World) (r : Bool) (h : decide (s = 3 ∨ s = 1) = r) : Calls Try.prog 16 #[.int .u8 s] w (Tell (.bool r) w) := h ▸ above_any s w
set_option maxRecDepth 100000 in
set_option maxHeartbeats 4000000 in
theorem greater_big (A0 A1 A2 : Option Addr) (n0 n1 n2 c0 c1 c2 : Nat) (xa xi : Int) (w : World) (HBig : Hid ([n0, n1, n2].any (fun x => decide (150 < x)) = true)) :
    Calls Try.prog 4 #[.slice A0 n0 c0, .slice A1 n1 c1, .slice A2 n2 c2, idV (xa, xi)] w (Tell (.bool true) w) := by
  have K0 : Hid (Keep (fun _ => False) w (w.alloc (.cells #[.int .i64 xa, .int .i64 xi] 28))) := Lib.hid ((Keep.refl _ w).alloc _)
  have B7 : Hid (Blk (w.alloc (.cells #[.int .i64 xa, .int .i64 xi] 28)) w.heap.size 28 #[.int .i64 xa, .int .i64 xi]) := Lib.hid (Blk.new _ _ _)
  go_enter Try.func4, Try.ntmps4
  go_upto_region 1 with (fail)
  generalize hW0 : w.alloc (.cells #[.int .i64 xa, .int .i64 xi] 28) = W0 at *
  clear hW0
  clear B7
  refine wp_region_kord (Keep (fun _ => False)) (Keep.refl _) keep0_trans 9 (Ts := [some (.inl (.bool true)), none, none, none, none, none, some (.inr (fun v W => IsLg W v [n0, n1, n2])), some (.inl (.bool true)), none]) ?_
  simp only [List.take, List.drop]
  refine kAll_dn _ (fun W hW hF => kStep_of fun K Q hK => ?_) (fun K hK => ?_)
  · go_simp
    refine (works_any W).mono ?_
    rintro e w' ⟨rfl, hk⟩
    exact hK _ _ hk rfl
  go_simp
  generalize hZ : (Act.mk _ _) = Z
  refine hK Z ?_
  subst hZ
  clear hK K
  refine kAll_p (fun K hK => ?_)
  go_simp
  generalize hZ : (Act.mk _ _) = Z
  refine hK Z ?_
  subst hZ
  clear hK K
  refine kAll_p (fun K hK => ?_)
  go_simp
  generalize hZ : (Act.mk _ _) = Z
  refine hK Z ?_
  subst hZ
  clear hK K
  refine kAll_pw (by kernel_rfl) (fun K hK => ?_)
  go_simp
  generalize hZ : (Act.mk _ _) = Z
  refine hK Z ?_
  subst hZ
  clear hK K
  refine kAll_pw (by kernel_rfl) (fun K hK => ?_)
  go_simp
  generalize hZ : (Act.mk _ _) = Z
  refine hK Z ?_
  subst hZ
  clear hK K
  refine kAll_pw (by kernel_rfl) (fun K hK => ?_)
  go_simp
  generalize hZ : (Act.mk _ _) = Z
  refine hK Z ?_
  subst hZ
  clear hK K
  refine kAll_tn _ (fun v W W' hk h => h.keep0 hk) (fun W hW hF => kStep_w (by kernel_rfl) fun K Q hK => ?_) (fun u0 K hK => ?_)
  · go_simp
    exact hK _ _ ((Keep.refl _ _).alloc _) ⟨_, _, _, [(A0, n0, c0), (A1, n1, c1), (A2, n2, c2)], rfl, rfl, rfl, RdK.of_blk (Blk.new _ _ _) 3 1 rfl⟩
  go_simp
  generalize hZ : (Act.mk _ _) = Z
  refine hK Z ?_
  subst hZ
  clear hK K
  refine kAll_dn _ (fun W hW hF => kStep_w (by kernel_rfl) fun K Q hK => ?_) (fun K hK => ?_)
  · have h0 : (fun v W => IsLg W v [n0, n1, n2]) u0 W := kHas_at hF 0 rfl (by kernel_rfl)
    go_simp
    refine (large_is true h0 (by simp) HBig.out).mono ?_
    rintro e w' ⟨rfl, hk⟩
    exact hK _ _ hk rfl
  go_simp
  generalize hZ : (Act.mk _ _) = Z
  refine hK Z ?_
  subst hZ
  clear hK K
  refine kAll_p (fun K hK => ?_)
  go_simp
  generalize hZ : (Act.mk _ _) = Z
  refine hK Z ?_
  subst hZ
  clear hK K
  refine kAll_nil (fun W1 hW hF => ?_)
  clear hF
  have hk_2 : Keep (fun _ => False) _ W1 := hW
  have K_3 := Lib.hid (keep0_trans _ _ _ K0.out hk_2)
  clear hk_2 K0
  clear hW
  go_wp2_with fail
  refine (works_any _).mono ?_
  rintro e w2 ⟨rfl, hk⟩
  have KZ := Lib.hid (keep0_trans _ _ _ K_3.out hk)
  clear hk
  go_wp2
  go_ret
  exact ⟨rfl, KZ.out⟩
set_option maxRecDepth 100000 in
set_option maxHeartbeats 4000000 in
theorem greater_11 (A0 A1 A2 : Option Addr) (n0 n1 n2 c0 c1 c2 : Nat) (xa xi : Int) (w : World) (HBig : Hid ([n0, n1, n2].any (fun x => decide (150 < x)) = false)) (l0 l1 l2 : List Tick) (HF0 : Hid (∀ W, Keep (fun _ => False) w W → IsTB 150 W (.slice A0 n0 c0) l0)) (HF1 : Hid (∀ W, Keep (fun _ => False) w W → IsTB 150 W (.slice A1 n1 c1) l1)) (HF2 : Hid (∀ W, Keep (fun _ => False) w W → IsTB 150 W (.slice A2 n2 c2) l2))
    (hja : ∃ s : Int, (s = 1 ∨ s = 3) ∧ cmpM (joinM l0 l1) l0 = s) (hjb : ∃ s : Int, (s = 1 ∨ s = 3) ∧ cmpM (joinM l0 l1) l1 = s) (s1 : Int) (s2 : Int) (s3 : Int) (HS1 : Hid (cmpM l2 l0 = s1)) (HU1 : Hid (decide (s1 = 3 ∨ s1 = 1) = true)) (HS2 : Hid (cmpM l2 l1 = s2)) (HU2 : Hid (decide (s2 = 3 ∨ s2 = 1) = true)) (HS3 : Hid (cmpM l2 (joinM l0 l1) = s3)) (HU3 : Hid (decide (s3 = 3 ∨ s3 = 1) = true)) :
    Calls Try.prog 4 #[.slice A0 n0 c0, .slice A1 n1 c1, .slice A2 n2 c2, idV (xa, xi)] w (Tell (.bool true) w) := by
  have K0 : Hid (Keep (fun _ => False) w (w.alloc (.cells #[.int .i64 xa, .int .i64 xi] 28))) := Lib.hid ((Keep.refl _ w).alloc _)
  have B7 : Hid (Blk (w.alloc (.cells #[.int .i64 xa, .int .i64 xi] 28)) w.heap.size 28 #[.int .i64 xa, .int .i64 xi]) := Lib.hid (Blk.new _ _ _)
  go_enter Try.func4, Try.ntmps4
  go_upto_region 1 with (fail)
  generalize hW0 : w.alloc (.cells #[.int .i64 xa, .int .i64 xi] 28) = W0 at *
  clear hW0
  have F0 : Hid (∀ W, Keep (fun _ => False) W0 W → IsTB 150 W (.slice A0 n0 c0) l0) := Lib.hid fun W h => HF0.out W (keep0_trans _ _ _ K0.out h)
  have F1 : Hid (∀ W, Keep (fun _ => False) W0 W → IsTB 150 W (.slice A1 n1 c1) l1) := Lib.hid fun W h => HF1.out W (keep0_trans _ _ _ K0.out h)
  have F2 : Hid (∀ W, Keep (fun _ => False) W0 W → IsTB 150 W (.slice A2 n2 c2) l2) := Lib.hid fun W h => HF2.out W (keep0_trans _ _ _ K0.out h)
  refine wp_region_kord (Keep (fun _ => False)) (Keep.refl _) keep0_trans 9 (Ts := [some (.inl (.bool true)), none, none, none, none, none, some (.inr (fun v W => IsLg W v [n0, n1, n2])), some (.inl (.bool false)), none]) ?_
  simp only [List.take, List.drop]
  refine kAll_dn _ (fun W hW hF => kStep_of fun K Q hK => ?_) (fun K hK => ?_)
  · go_simp
    refine (works_any W).mono ?_
    rintro e w' ⟨rfl, hk⟩
    exact hK _ _ hk rfl
  go_simp
  generalize hZ : (Act.mk _ _) = Z
  refine hK Z ?_
  subst hZ
  clear hK K
  refine kAll_p (fun K hK => ?_)
  go_simp
  generalize hZ : (Act.mk _ _) = Z
  refine hK Z ?_
  subst hZ
  clear hK K
  refine kAll_p (fun K hK => ?_)
  go_simp
  generalize hZ : (Act.mk _ _) = Z
  refine hK Z ?_
  subst hZ
  clear hK K
  refine kAll_pw (by kernel_rfl) (fun K hK => ?_)
  go_simp
  generalize hZ : (Act.mk _ _) = Z
  refine hK Z ?_
  subst hZ
  clear hK K
  refine kAll_pw (by kernel_rfl) (fun K hK => ?_)
  go_simp
  generalize hZ : (Act.mk _ _) = Z
  refine hK Z ?_
  subst hZ
  clear hK K
  refine kAll_pw (by kernel_rfl) (fun K hK => ?_)
  go_simp
  generalize hZ : (Act.mk _ _) = Z
  refine hK Z ?_
  subst hZ
  clear hK K
  refine kAll_tn _ (fun v W W' hk h => h.keep0 hk) (fun W hW hF => kStep_w (by kernel_rfl) fun K Q hK => ?_) (fun u0 K hK => ?_)
  · go_simp
    exact hK _ _ ((Keep.refl _ _).alloc _) ⟨_, _, _, [(A0, n0, c0), (A1, n1, c1), (A2, n2, c2)], rfl, rfl, rfl, RdK.of_blk (Blk.new _ _ _) 3 1 rfl⟩
  go_simp
  generalize hZ : (Act.mk _ _) = Z
  refine hK Z ?_
  subst hZ
  clear hK K
  refine kAll_dn _ (fun W hW hF => kStep_w (by kernel_rfl) fun K Q hK => ?_) (fun K hK => ?_)
  · have h0 : (fun v W => IsLg W v [n0, n1, n2]) u0 W := kHas_at hF 0 rfl (by kernel_rfl)
    go_simp
    refine (large_is false h0 (by simp) HBig.out).mono ?_
    rintro e w' ⟨rfl, hk⟩
    exact hK _ _ hk rfl
  go_simp
  generalize hZ : (Act.mk _ _) = Z
  refine hK Z ?_
  subst hZ
  clear hK K
  refine kAll_p (fun K hK => ?_)
  go_simp
  generalize hZ : (Act.mk _ _) = Z
  refine hK Z ?_
  subst hZ
  clear hK K
  refine kAll_nil (fun W1 hW hF => ?_)
  clear hF
  have hk_2 : Keep (fun _ => False) _ W1 := hW
  have B_3 := Lib.hid (B7.out.keep hk_2 (fun h => h))
  have F_4 := Lib.hid (fun W h => F0.out W (keep0_trans _ _ _ hk_2 h))
  have F_5 := Lib.hid (fun W h => F1.out W (keep0_trans _ _ _ hk_2 h))
  have F_6 := Lib.hid (fun W h => F2.out W (keep0_trans _ _ _ hk_2 h))
  have K_7 := Lib.hid (keep0_trans _ _ _ K0.out hk_2)
  clear hk_2 B7 F0 F1 F2 K0
  clear hW
  go_upto_region 3 with (fail)
  refine wp_region_kord (Keep (fun _ => False)) (Keep.refl _) keep0_trans 4 (Ts := [none, none, some (.inr (fun v W => IsTB 300 W v (joinM l0 l1))), none]) ?_
  simp only [List.take, List.drop]
  refine kAll_p (fun K hK => ?_)
  go_simp
  generalize hZ : (Act.mk _ _) = Z
  refine hK Z ?_
  subst hZ
  clear hK K
  refine kAll_p (fun K hK => ?_)
  go_simp
  generalize hZ : (Act.mk _ _) = Z
  refine hK Z ?_
  subst hZ
  clear hK K
  refine kAll_tn _ (fun v W W' hk h => h.keep0 hk) (fun W hW hF => kStep_of fun K Q hK => ?_) (fun u0 K hK => ?_)
  · have h0 := F_4.out W (hW)
    have h1 := F_5.out W (hW)
    go_simp
    refine (joinI_any h0 h1 (by decide)).mono ?_
    rintro e w' ⟨u, rfl, hu, hk⟩
    exact hK _ _ hk hu
  go_simp
  generalize hZ : (Act.mk _ _) = Z
  refine hK Z ?_
  subst hZ
  clear hK K
  refine kAll_p (fun K hK => ?_)
  go_simp
  generalize hZ : (Act.mk _ _) = Z
  refine hK Z ?_
  subst hZ
  clear hK K
  refine kAll_nil (fun W8 hW hF => ?_)
  have hf : (fun v W => IsTB 300 W v (joinM l0 l1)) u0 W8 := kAllHas_at hF 0 rfl
  have Fj : Hid (∀ W, Keep (fun _ => False) W8 W → IsTB 300 W u0 (joinM l0 l1)) := Lib.hid fun W h => IsTB.keep0 hf h
  clear hf
  clear hF
  have hk_9 : Keep (fun _ => False) _ W8 := hW
  have B_10 := Lib.hid (B_3.out.keep hk_9 (fun h => h))
  have F_11 := Lib.hid (fun W h => F_4.out W (keep0_trans _ _ _ hk_9 h))
  have F_12 := Lib.hid (fun W h => F_5.out W (keep0_trans _ _ _ hk_9 h))
  have F_13 := Lib.hid (fun W h => F_6.out W (keep0_trans _ _ _ hk_9 h))
  have K_14 := Lib.hid (keep0_trans _ _ _ K_7.out hk_9)
  clear hk_9 B_3 F_4 F_5 F_6 K_7
  clear hW
  go_upto_region 4 with (fail)
  refine wp_region_krip (Keep (fun _ => False)) (Keep.refl _) keep0_trans 9 (by kernel_rfl) (by kernel_rfl) (Ts := [none, some (.inl (idV (xa, xi))), some (.inl (.int .i64 (max (getM l0 (xa, xi)) (getM l1 (xa, xi))))), none, some (.inl (idV (xa, xi))), some (.inl (.int .i64 (getM l0 (xa, xi)))), none, some (.inl (idV (xa, xi))), some (.inl (.int .i64 (getM l1 (xa, xi))))]) ?_
  simp only [List.take, List.drop]
  refine kAll_p (fun K hK => ?_)
  go_simp
  generalize hZ : (Act.mk _ _) = Z
  refine hK Z ?_
  subst hZ
  clear hK K
  refine kAll_dn _ (fun W hW hF => kStep_of fun K Q hK => ?_) (fun K hK => ?_)
  · have e0 := (B_10.out.drew.keep hW (fun h => h)).cell 0
    have e1 := (B_10.out.drew.keep hW (fun h => h)).cell 1
    simp at e0 e1
    go_simp
    exact hK _ _ (Keep.refl _ _) rfl
  go_simp
  generalize hZ : (Act.mk _ _) = Z
  refine hK Z ?_
  subst hZ
  clear hK K
  refine kAll_dn _ (fun W hW hF => kStep_of fun K Q hK => ?_) (fun K hK => ?_)
  · have h0 := Fj.out W (keepD (Keep.refl _ _) hW)
    go_simp
    refine (getI_is (xa, xi) (max (getM l0 (xa, xi)) (getM l1 (xa, xi))) h0 (by decide) (getM_join _ _ _)).mono ?_
    rintro e w' ⟨rfl, hk⟩
    exact hK _ _ hk rfl
  go_simp
  generalize hZ : (Act.mk _ _) = Z
  refine hK Z ?_
  subst hZ
  clear hK K
  refine kAll_p (fun K hK => ?_)
  go_simp
  generalize hZ : (Act.mk _ _) = Z
  refine hK Z ?_
  subst hZ
  clear hK K
  refine kAll_dn _ (fun W hW hF => kStep_of fun K Q hK => ?_) (fun K hK => ?_)
  · have e0 := (B_10.out.drew.keep hW (fun h => h)).cell 0
    have e1 := (B_10.out.drew.keep hW (fun h => h)).cell 1
    simp at e0 e1
    go_simp
    exact hK _ _ (Keep.refl _ _) rfl
  go_simp
  generalize hZ : (Act.mk _ _) = Z
  refine hK Z ?_
  subst hZ
  clear hK K
  refine kAll_dn _ (fun W hW hF => kStep_of fun K Q hK => ?_) (fun K hK => ?_)
  · have h0 := F_11.out W (keepD (Keep.refl _ _) hW)
    go_simp
    refine (getI_is (xa, xi) (getM l0 (xa, xi)) h0 (by decide) rfl).mono ?_
    rintro e w' ⟨rfl, hk⟩
    exact hK _ _ hk rfl
  go_simp
  generalize hZ : (Act.mk _ _) = Z
  refine hK Z ?_
  subst hZ
  clear hK K
  refine kAll_p (fun K hK => ?_)
  go_simp
  generalize hZ : (Act.mk _ _) = Z
  refine hK Z ?_
  subst hZ
  clear hK K
  refine kAll_dn _ (fun W hW hF => kStep_of fun K Q hK => ?_) (fun K hK => ?_)
  · have e0 := (B_10.out.drew.keep hW (fun h => h)).cell 0
    have e1 := (B_10.out.drew.keep hW (fun h => h)).cell 1
    simp at e0 e1
    go_simp
    exact hK _ _ (Keep.refl _ _) rfl
  go_simp
  generalize hZ : (Act.mk _ _) = Z
  refine hK Z ?_
  subst hZ
  clear hK K
  refine kAll_dn _ (fun W hW hF => kStep_of fun K Q hK => ?_) (fun K hK => ?_)
  · have h0 := F_12.out W (keepD (Keep.refl _ _) hW)
    go_simp
    refine (getI_is (xa, xi) (getM l1 (xa, xi)) h0 (by decide) rfl).mono ?_
    rintro e w' ⟨rfl, hk⟩
    exact hK _ _ hk rfl
  go_simp
  generalize hZ : (Act.mk _ _) = Z
  refine hK Z ?_
  subst hZ
  clear hK K
  refine kAll_nil (fun W15 hW hF => ?_)
  clear hF
  have hk_16 : Keep (fun _ => False) _ W15 := keepD (Keep.refl _ _) hW
  have B_17 := Lib.hid (B_10.out.keep hk_16 (fun h => h))
  have F_18 := Lib.hid (fun W h => F_11.out W (keep0_trans _ _ _ hk_16 h))
  have F_19 := Lib.hid (fun W h => F_12.out W (keep0_trans _ _ _ hk_16 h))
  have F_20 := Lib.hid (fun W h => F_13.out W (keep0_trans _ _ _ hk_16 h))
  have F_21 := Lib.hid (fun W h => Fj.out W (keep0_trans _ _ _ hk_16 h))
  have K_22 := Lib.hid (keep0_trans _ _ _ K_14.out hk_16)
  clear hk_16 B_10 F_11 F_12 F_13 Fj K_14
  clear hW
  have HP0 := Lib.hid (rfl : getM l0 (xa, xi) = getM l0 (xa, xi))
  clear HP0
  generalize getM l0 (xa, xi) = gp at *
  generalize getM l1 (xa, xi) = gq at *
  have hmx : (max gp gq != max gp gq) = false := by simp
  go_upto_region 6 with (fail)
  have BS : Hid (Blk (W15.alloc (.cells #[.slice A0 n0 c0, .slice A1 n1 c1] 24)) W15.heap.size 24 #[.slice A0 n0 c0, .slice A1 n1 c1]) := Lib.hid (Blk.new _ _ _)
  have KS : Hid (Keep (fun _ => False) W15 (W15.alloc (.cells #[.slice A0 n0 c0, .slice A1 n1 c1] 24))) := Lib.hid ((Keep.refl _ _).alloc _)
  go_wp2_with fail
  go_loopw [42] (fun i wr => ∃ q : Nat, q ≤ 2 ∧ i = .int .i64 (q : Int) ∧ Hid (Keep (fun _ => False) (W15.alloc (.cells #[.slice A0 n0 c0, .slice A1 n1 c1] 24)) wr)) (fun i _ => 2 - (intOf i).toNat)
  case atStart => exact ⟨0, by omega, rfl, Lib.hid (Keep.refl _ _)⟩
  case round =>
    obtain ⟨q, hq, rfl, HKr⟩ := hrel
    have HKw := Lib.hid (keep0_trans _ _ _ KS.out HKr.out)
    by_cases hlt : q < 2
    · rcases (by omega : q = 0 ∨ q = 1) with rfl | rfl
      · have s0 := HKr.out.cell (BS.out.cell 0) (fun h => h)
        obtain ⟨s, hs, hv⟩ := hja
        have HV := Lib.hid hv
        clear hv
        rcases hs with rfl | rfl
        all_goals
          go_wp2_with fail
          refine (cmpI_is _ (F_21.out _ HKw.out) (F_18.out _ HKw.out) (by decide) HV.out).mono ?_
          rintro e w9 ⟨rfl, hk⟩
          have HK9 := Lib.hid (keep0_trans _ _ _ HKr.out hk)
          clear hk
          go_wp2
          go_roundw
          case rel => exact ⟨1, by omega, by go_num, HK9⟩
          case measure => simp [intOf]
      · have s0 := HKr.out.cell (BS.out.cell 1) (fun h => h)
        obtain ⟨s, hs, hv⟩ := hjb
        have HV := Lib.hid hv
        clear hv
        rcases hs with rfl | rfl
        all_goals
          go_wp2_with fail
          refine (cmpI_is _ (F_21.out _ HKw.out) (F_19.out _ HKw.out) (by decide) HV.out).mono ?_
          rintro e w9 ⟨rfl, hk⟩
          have HK9 := Lib.hid (keep0_trans _ _ _ HKr.out hk)
          clear hk
          go_wp2
          go_roundw
          case rel => exact ⟨2, by omega, by go_num, HK9⟩
          case measure => simp [intOf]
    · obtain rfl : q = 2 := by omega
      clear BS
      have hk_23 : Keep (fun _ => False) _ wr := HKw.out
      have F_24 := Lib.hid (fun W h => F_18.out W (keep0_trans _ _ _ hk_23 h))
      have F_25 := Lib.hid (fun W h => F_19.out W (keep0_trans _ _ _ hk_23 h))
      have F_26 := Lib.hid (fun W h => F_20.out W (keep0_trans _ _ _ hk_23 h))
      have F_27 := Lib.hid (fun W h => F_21.out W (keep0_trans _ _ _ hk_23 h))
      have K_28 := Lib.hid (keep0_trans _ _ _ K_22.out hk_23)
      clear hk_23 F_18 F_19 F_20 F_21 K_22
      clear HKw HKr KS
      go_upto_region 14 with (fail)
      refine wp_region_kord (Keep (fun _ => False)) (Keep.refl _) keep0_trans 21 (Ts := [none, none, none, some (.inl (.int .u8 s1)), some (.inl (.bool true)), none, none, none, none, some (.inl (.int .u8 s2)), some (.inl (.bool true)), none, none, none, none, none, none, some (.inl (.int .u8 s3)), some (.inl (.bool true)), none, none]) ?_
      simp only [List.take, List.drop]
      refine kAll_p (fun K hK => ?_)
      go_simp
      generalize hZ : (Act.mk _ _) = Z
      refine hK Z ?_
      subst hZ
      clear hK K
      refine kAll_p (fun K hK => ?_)
      go_simp
      generalize hZ : (Act.mk _ _) = Z
      refine hK Z ?_
      subst hZ
      clear hK K
      refine kAll_p (fun K hK => ?_)
      go_simp
      generalize hZ : (Act.mk _ _) = Z
      refine hK Z ?_
      subst hZ
      clear hK K
      refine kAll_dn _ (fun W hW hF => kStep_of fun K Q hK => ?_) (fun K hK => ?_)
      · have h0 := F_26.out W (hW)
        have h1 := F_24.out W (hW)
        go_simp
        refine (cmpI_is s1 h0 h1 (by decide) HS1.out).mono ?_
        rintro e w' ⟨rfl, hk⟩
        exact hK _ _ hk rfl
      go_simp
      generalize hZ : (Act.mk _ _) = Z
      refine hK Z ?_
      subst hZ
      clear hK K
      refine kAll_dn _ (fun W hW hF => kStep_of fun K Q hK => ?_) (fun K hK => ?_)
      · go_simp
        refine (above_is s1 W true HU1.out).mono ?_
        rintro e w' ⟨rfl, hk⟩
        exact hK _ _ hk rfl
      go_simp
      generalize hZ : (Act.mk _ _) = Z
      refine hK Z ?_
      subst hZ
      clear hK K
      refine kAll_p (fun K hK => ?_)
      go_simp
      generalize hZ : (Act.mk _ _) = Z
      refine hK Z ?_
      subst hZ
      clear hK K
      refine kAll_pw (by kernel_rfl) (fun K hK => ?_)
      go_simp
      generalize hZ : (Act.mk _ _) = Z
      refine hK Z ?_
      subst hZ
      clear hK K
      refine kAll_pw (by kernel_rfl) (fun K hK => ?_)
      go_simp
      generalize hZ : (Act.mk _ _) = Z
      refine hK Z ?_
      subst hZ
      clear hK K
      refine kAll_pw (by kernel_rfl) (fun K hK => ?_)
      go_simp
      generalize hZ : (Act.mk _ _) = Z
      refine hK Z ?_
      subst hZ
      clear hK K
      refine kAll_dn _ (fun W hW hF => kStep_w (by kernel_rfl) fun K Q hK => ?_) (fun K hK => ?_)
      · have h0 := F_26.out W (hW)
        have h1 := F_25.out W (hW)
        go_simp
        refine (cmpI_is s2 h0 h1 (by decide) HS2.out).mono ?_
        rintro e w' ⟨rfl, hk⟩
        exact hK _ _ hk rfl
      go_simp
      generalize hZ : (Act.mk _ _) = Z
      refine hK Z ?_
      subst hZ
      clear hK K
      refine kAll_dn _ (fun W hW hF => kStep_w (by kernel_rfl) fun K Q hK => ?_) (fun K hK => ?_)
      · go_simp
        refine (above_is s2 W true HU2.out).mono ?_
        rintro e w' ⟨rfl, hk⟩
        exact hK _ _ hk rfl
      go_simp
      generalize hZ : (Act.mk _ _) = Z
      refine hK Z ?_
      subst hZ
      clear hK K
      refine kAll_p (fun K hK => ?_)
      go_simp
      generalize hZ : (Act.mk _ _) = Z
      refine hK Z ?_
      subst hZ
      clear hK K
      refine kAll_p (fun K hK => ?_)
      go_simp
      generalize hZ : (Act.mk _ _) = Z
      refine hK Z ?_
      subst hZ
      clear hK K
      refine kAll_p (fun K hK => ?_)
      go_simp
      generalize hZ : (Act.mk _ _) = Z
      refine hK Z ?_
      subst hZ
      clear hK K
      refine kAll_pw (by kernel_rfl) (fun K hK => ?_)
      go_simp
      generalize hZ : (Act.mk _ _) = Z
      refine hK Z ?_
      subst hZ
      clear hK K
      refine kAll_pw (by kernel_rfl) (fun K hK => ?_)
      go_simp
      generalize hZ : (Act.mk _ _) = Z
      refine hK Z ?_
      subst hZ
      clear hK K
      refine kAll_pw (by kernel_rfl) (fun K hK => ?_)
      go_simp
      generalize hZ : (Act.mk _ _) = Z
      refine hK Z ?_
      subst hZ
      clear hK K
      refine kAll_dn _ (fun W hW hF => kStep_w (by kernel_rfl) fun K Q hK => ?_) (fun K hK => ?_)
      · have h0 := F_26.out W (hW)
        have h1 := F_27.out W (hW)
        go_simp
        refine (cmpI_is s3 h0 h1 (by decide) HS3.out).mono ?_
        rintro e w' ⟨rfl, hk⟩
        exact hK _ _ hk rfl
      go_simp
      generalize hZ : (Act.mk _ _) = Z
      refine hK Z ?_
      subst hZ
      clear hK K
      refine kAll_dn _ (fun W hW hF => kStep_w (by kernel_rfl) fun K Q hK => ?_) (fun K hK => ?_)
      · go_simp
        refine (above_is s3 W true HU3.out).mono ?_
        rintro e w' ⟨rfl, hk⟩
        exact hK _ _ hk rfl
      go_simp
      generalize hZ : (Act.mk _ _) = Z
      refine hK Z ?_
      subst hZ
      clear hK K
      refine kAll_p (fun K hK => ?_)
      go_simp
      generalize hZ : (Act.mk _ _) = Z
      refine hK Z ?_
      subst hZ
      clear hK K
      refine kAll_p (fun K hK => ?_)
      go_simp
      generalize hZ : (Act.mk _ _) = Z
      refine hK Z ?_
      subst hZ
      clear hK K
      refine kAll_nil (fun W29 hW hF => ?_)
      clear hF
      have hk_30 : Keep (fun _ => False) _ W29 := hW
      have F_31 := Lib.hid (fun W h => F_24.out W (keep0_trans _ _ _ hk_30 h))
      have F_32 := Lib.hid (fun W h => F_25.out W (keep0_trans _ _ _ hk_30 h))
      have F_33 := Lib.hid (fun W h => F_26.out W (keep0_trans _ _ _ hk_30 h))
      have F_34 := Lib.hid (fun W h => F_27.out W (keep0_trans _ _ _ hk_30 h))
      have K_35 := Lib.hid (keep0_trans _ _ _ K_28.out hk_30)
      clear hk_30 F_24 F_25 F_26 F_27 K_28
      clear hW
      go_wp2
      go_ret
      exact ⟨rfl, K_35.out⟩
set_option maxRecDepth 100000 in
set_option maxHeartbeats 4000000 in
theorem greater_10 (A0 A1 A2 : Option Addr) (n0 n1 n2 c0 c1 c2 : Nat) (xa xi : Int) (w : World) (HBig : Hid ([n0, n1, n2].any (fun x => decide (150 < x)) = false)) (l0 l1 l2 : List Tick) (HF0 : Hid (∀ W, Keep (fun _ => False) w W → IsTB 150 W (.slice A0 n0 c0) l0)) (HF1 : Hid (∀ W, Keep (fun _ => False) w W → IsTB 150 W (.slice A1 n1 c1) l1)) (HF2 : Hid (∀ W, Keep (fun _ => False) w W → IsTB 150 W (.slice A2 n2 c2) l2))
    (hja : ∃ s : Int, (s = 1 ∨ s = 3) ∧ cmpM (joinM l0 l1) l0 = s) (hjb : ∃ s : Int, (s = 1 ∨ s = 3) ∧ cmpM (joinM l0 l1) l1 = s) (s1 : Int) (s2 : Int) (HS1 : Hid (cmpM l2 l0 = s1)) (HU1 : Hid (decide (s1 = 3 ∨ s1 = 1) = true)) (HS2 : Hid (cmpM l2 l1 = s2)) (HU2 : Hid (decide (s2 = 3 ∨ s2 = 1) = false)) :
    Calls Try.prog 4 #[.slice A0 n0 c0, .slice A1 n1 c1, .slice A2 n2 c2, idV (xa, xi)] w (Tell (.bool true) w) := by
  have K0 : Hid (Keep (fun _ => False) w (w.alloc (.cells #[.int .i64 xa, .int .i64 xi] 28))) := Lib.hid ((Keep.refl _ w).alloc _)
  have B7 : Hid (Blk (w.alloc (.cells #[.int .i64 xa, .int .i64 xi] 28)) w.heap.size 28 #[.int .i64 xa, .int .i64 xi]) := Lib.hid (Blk.new _ _ _)
  go_enter Try.func4, Try.ntmps4
  go_upto_region 1 with (fail)
  generalize hW0 : w.alloc (.cells #[.int .i64 xa, .int .i64 xi] 28) = W0 at *
  clear hW0
  have F0 : Hid (∀ W, Keep (fun _ => False) W0 W → IsTB 150 W (.slice A0 n0 c0) l0) := Lib.hid fun W h => HF0.out W (keep0_trans _ _ _ K0.out h)
  have F1 : Hid (∀ W, Keep (fun _ => False) W0 W → IsTB 150 W (.slice A1 n1 c1) l1) := Lib.hid fun W h => HF1.out W (keep0_trans _ _ _ K0.out h)
  have F2 : Hid (∀ W, Keep (fun _ => False) W0 W → IsTB 150 W (.slice A2 n2 c2) l2) := Lib.hid fun W h => HF2.out W (keep0_trans _ _ _ K0.out h)
  refine wp_region_kord (Keep (fun _ => False)) (Keep.refl _) keep0_trans 9 (Ts := [some (.inl (.bool true)), none, none, none, none, none, some (.inr (fun v W => IsLg W v [n0, n1, n2])), some (.inl (.bool false)), none]) ?_
  simp only [List.take, List.drop]
  refine kAll_dn _ (fun W hW hF => kStep_of fun K Q hK => ?_) (fun K hK => ?_)
  · go_simp
    refine (works_any W).mono ?_
    rintro e w' ⟨rfl, hk⟩
    exact hK _ _ hk rfl
  go_simp
  generalize hZ : (Act.mk _ _) = Z
  refine hK Z ?_
  subst hZ
  clear hK K
  refine kAll_p (fun K hK => ?_)
  go_simp
  generalize hZ : (Act.mk _ _) = Z
  refine hK Z ?_
  subst hZ
  clear hK K
  refine kAll_p (fun K hK => ?_)
  go_simp
  generalize hZ : (Act.mk _ _) = Z
  refine hK Z ?_
  subst hZ
  clear hK K
  refine kAll_pw (by kernel_rfl) (fun K hK => ?_)
  go_simp
  generalize hZ : (Act.mk _ _) = Z
  refine hK Z ?_
  subst hZ
  clear hK K
  refine kAll_pw (by kernel_rfl) (fun K hK => ?_)
  go_simp
  generalize hZ : (Act.mk _ _) = Z
  refine hK Z ?_
  subst hZ
  clear hK K
  refine kAll_pw (by kernel_rfl) (fun K hK => ?_)
  go_simp
  generalize hZ : (Act.mk _ _) = Z
  refine hK Z ?_
  subst hZ
  clear hK K
  refine kAll_tn _ (fun v W W' hk h => h.keep0 hk) (fun W hW hF => kStep_w (by kernel_rfl) fun K Q hK => ?_) (fun u0 K hK => ?_)
  · go_simp
    exact hK _ _ ((Keep.refl _ _).alloc _) ⟨_, _, _, [(A0, n0, c0), (A1, n1, c1), (A2, n2, c2)], rfl, rfl, rfl, RdK.of_blk (Blk.new _ _ _) 3 1 rfl⟩
  go_simp
  generalize hZ : (Act.mk _ _) = Z
  refine hK Z ?_
  subst hZ
  clear hK K
  refine kAll_dn _ (fun W hW hF => kStep_w (by kernel_rfl) fun K Q hK => ?_) (fun K hK => ?_)
  · have h0 : (fun v W => IsLg W v [n0, n1, n2]) u0 W := kHas_at hF 0 rfl (by kernel_rfl)
    go_simp
    refine (large_is false h0 (by simp) HBig.out).mono ?_
    rintro e w' ⟨rfl, hk⟩
    exact hK _ _ hk rfl
  go_simp
  generalize hZ : (Act.mk _ _) = Z
  refine hK Z ?_
  subst hZ
  clear hK K
  refine kAll_p (fun K hK => ?_)
  go_simp
  generalize hZ : (Act.mk _ _) = Z
  refine hK Z ?_
  subst hZ
  clear hK K
  refine kAll_nil (fun W1 hW hF => ?_)
  clear hF
  have hk_2 : Keep (fun _ => False) _ W1 := hW
  have B_3 := Lib.hid (B7.out.keep hk_2 (fun h => h))
  have F_4 := Lib.hid (fun W h => F0.out W (keep0_trans _ _ _ hk_2 h))
  have F_5 := Lib.hid (fun W h => F1.out W (keep0_trans _ _ _ hk_2 h))
  have F_6 := Lib.hid (fun W h => F2.out W (keep0_trans _ _ _ hk_2 h))
  have K_7 := Lib.hid (keep0_trans _ _ _ K0.out hk_2)
  clear hk_2 B7 F0 F1 F2 K0
  clear hW
  go_upto_region 3 with (fail)
  refine wp_region_kord (Keep (fun _ => False)) (Keep.refl _) keep0_trans 4 (Ts := [none, none, some (.inr (fun v W => IsTB 300 W v (joinM l0 l1))), none]) ?_
  simp only [List.take, List.drop]
  refine kAll_p (fun K hK => ?_)
  go_simp
  generalize hZ : (Act.mk _ _) = Z
  refine hK Z ?_
  subst hZ
  clear hK K
  refine kAll_p (fun K hK => ?_)
  go_simp
  generalize hZ : (Act.mk _ _) = Z
  refine hK Z ?_
  subst hZ
  clear hK K
  refine kAll_tn _ (fun v W W' hk h => h.keep0 hk) (fun W hW hF => kStep_of fun K Q hK => ?_) (fun u0 K hK => ?_)
  · have h0 := F_4.out W (hW)
    have h1 := F_5.out W (hW)
    go_simp
    refine (joinI_any h0 h1 (by decide)).mono ?_
    rintro e w' ⟨u, rfl, hu, hk⟩
    exact hK _ _ hk hu
  go_simp
  generalize hZ : (Act.mk _ _) = Z
  refine hK Z ?_
  subst hZ
  clear hK K
  refine kAll_p (fun K hK => ?_)
  go_simp
  generalize hZ : (Act.mk _ _) = Z
  refine hK Z ?_
  subst hZ
  clear hK K
  refine kAll_nil (fun W8 hW hF => ?_)
  have hf : (fun v W => IsTB 300 W v (joinM l0 l1)) u0 W8 := kAllHas_at hF 0 rfl
  have Fj : Hid (∀ W, Keep (fun _ => False) W8 W → IsTB 300 W u0 (joinM l0 l1)) := Lib.hid fun W h => IsTB.keep0 hf h
  clear hf
  clear hF
  have hk_9 : Keep (fun _ => False) _ W8 := hW
  have B_10 := Lib.hid (B_3.out.keep hk_9 (fun h => h))
  have F_11 := Lib.hid (fun W h => F_4.out W (keep0_trans _ _ _ hk_9 h))
  have F_12 := Lib.hid (fun W h => F_5.out W (keep0_trans _ _ _ hk_9 h))
  have F_13 := Lib.hid (fun W h => F_6.out W (keep0_trans _ _ _ hk_9 h))
  have K_14 := Lib.hid (keep0_trans _ _ _ K_7.out hk_9)
  clear hk_9 B_3 F_4 F_5 F_6 K_7
  clear hW
  go_upto_region 4 with (fail)
  refine wp_region_krip (Keep (fun _ => False)) (Keep.refl _) keep0_trans 9 (by kernel_rfl) (by kernel_rfl) (Ts := [none, some (.inl (idV (xa, xi))), some (.inl (.int .i64 (max (getM l0 (xa, xi)) (getM l1 (xa, xi))))), none, some (.inl (idV (xa, xi))), some (.inl (.int .i64 (getM l0 (xa, xi)))), none, some (.inl (idV (xa, xi))), some (.inl (.int .i64 (getM l1 (xa, xi))))]) ?_
  simp only [List.take, List.drop]
  refine kAll_p (fun K hK => ?_)
  go_simp
  generalize hZ : (Act.mk _ _) = Z
  refine hK Z ?_
  subst hZ
  clear hK K
  refine kAll_dn _ (fun W hW hF => kStep_of fun K Q hK => ?_) (fun K hK => ?_)
  · have e0 := (B_10.out.drew.keep hW (fun h => h)).cell 0
    have e1 := (B_10.out.drew.keep hW (fun h => h)).cell 1
    simp at e0 e1
    go_simp
    exact hK _ _ (Keep.refl _ _) rfl
  go_simp
  generalize hZ : (Act.mk _ _) = Z
  refine hK Z ?_
  subst hZ
  clear hK K
  refine kAll_dn _ (fun W hW hF => kStep_of fun K Q hK => ?_) (fun K hK => ?_)
  · have h0 := Fj.out W (keepD (Keep.refl _ _) hW)
    go_simp
    refine (getI_is (xa, xi) (max (getM l0 (xa, xi)) (getM l1 (xa, xi))) h0 (by decide) (getM_join _ _ _)).mono ?_
    rintro e w' ⟨rfl, hk⟩
    exact hK _ _ hk rfl
  go_simp
  generalize hZ : (Act.mk _ _) = Z
  refine hK Z ?_
  subst hZ
  clear hK K
  refine kAll_p (fun K hK => ?_)
  go_simp
  generalize hZ : (Act.mk _ _) = Z
  refine hK Z ?_
  subst hZ
  clear hK K
  refine kAll_dn _ (fun W hW hF => kStep_of fun K Q hK => ?_) (fun K hK => ?_)
  · have e0 := (B_10.out.drew.keep hW (fun h => h)).cell 0
    have e1 := (B_10.out.drew.keep hW (fun h => h)).cell 1
    simp at e0 e1
    go_simp
    exact hK _ _ (Keep.refl _ _) rfl
  go_simp
  generalize hZ : (Act.mk _ _) = Z
  refine hK Z ?_
  subst hZ
  clear hK K
  refine kAll_dn _ (fun W hW hF => kStep_of fun K Q hK => ?_) (fun K hK => ?_)
  · have h0 := F_11.out W (keepD (Keep.refl _ _) hW)
    go_simp
    refine (getI_is (xa, xi) (getM l0 (xa, xi)) h0 (by decide) rfl).mono ?_
    rintro e w' ⟨rfl, hk⟩
    exact hK _ _ hk rfl
  go_simp
  generalize hZ : (Act.mk _ _) = Z
  refine hK Z ?_
  subst hZ
  clear hK K
  refine kAll_p (fun K hK => ?_)
  go_simp
  generalize hZ : (Act.mk _ _) = Z
  refine hK Z ?_
  subst hZ
  clear hK K
  refine kAll_dn _ (fun W hW hF => kStep_of fun K Q hK => ?_) (fun K hK => ?_)
  · have e0 := (B_10.out.drew.keep hW (fun h => h)).cell 0
    have e1 := (B_10.out.drew.keep hW (fun h => h)).cell 1
    simp at e0 e1
    go_simp
    exact hK _ _ (Keep.refl _ _) rfl
  go_simp
  generalize hZ : (Act.mk _ _) = Z
  refine hK Z ?_
  subst hZ
  clear hK K
  refine kAll_dn _ (fun W hW hF => kStep_of fun K Q hK => ?_) (fun K hK => ?_)
  · have h0 := F_12.out W (keepD (Keep.refl _ _) hW)
    go_simp
    refine (getI_is (xa, xi) (getM l1 (xa, xi)) h0 (by decide) rfl).mono ?_
    rintro e w' ⟨rfl, hk⟩
    exact hK _ _ hk rfl
  go_simp
  generalize hZ : (Act.mk _ _) = Z
  refine hK Z ?_
  subst hZ
  clear hK K
  refine kAll_nil (fun W15 hW hF => ?_)
  clear hF
  have hk_16 : Keep (fun _ => False) _ W15 := keepD (Keep.refl _ _) hW
  have B_17 := Lib.hid (B_10.out.keep hk_16 (fun h => h))
  have F_18 := Lib.hid (fun W h => F_11.out W (keep0_trans _ _ _ hk_16 h))
  have F_19 := Lib.hid (fun W h => F_12.out W (keep0_trans _ _ _ hk_16 h))
  have F_20 := Lib.hid (fun W h => F_13.out W (keep0_trans _ _ _ hk_16 h))
  have F_21 := Lib.hid (fun W h => Fj.out W (keep0_trans _ _ _ hk_16 h))
  have K_22 := Lib.hid (keep0_trans _ _ _ K_14.out hk_16)
  clear hk_16 B_10 F_11 F_12 F_13 Fj K_14
  clear hW
  have HP0 := Lib.hid (rfl : getM l0 (xa, xi) = getM l0 (xa, xi))
  clear HP0
  generalize getM l0 (xa, xi) = gp at *
  generalize getM l1 (xa, xi) = gq at *
  have hmx : (max gp gq != max gp gq) = false := by simp
  go_upto_region 6 with (fail)
  have BS : Hid (Blk (W15.alloc (.cells #[.slice A0 n0 c0, .slice A1 n1 c1] 24)) W15.heap.size 24 #[.slice A0 n0 c0, .slice A1 n1 c1]) := Lib.hid (Blk.new _ _ _)
  have KS : Hid (Keep (fun _ => False) W15 (W15.alloc (.cells #[.slice A0 n0 c0, .slice A1 n1 c1] 24))) := Lib.hid ((Keep.refl _ _).alloc _)
  go_wp2_with fail
  go_loopw [42] (fun i wr => ∃ q : Nat, q ≤ 2 ∧ i = .int .i64 (q : Int) ∧ Hid (Keep (fun _ => False) (W15.alloc (.cells #[.slice A0 n0 c0, .slice A1 n1 c1] 24)) wr)) (fun i _ => 2 - (intOf i).toNat)
  case atStart => exact ⟨0, by omega, rfl, Lib.hid (Keep.refl _ _)⟩
  case round =>
    obtain ⟨q, hq, rfl, HKr⟩ := hrel
    have HKw := Lib.hid (keep0_trans _ _ _ KS.out HKr.out)
    by_cases hlt : q < 2
    · rcases (by omega : q = 0 ∨ q = 1) with rfl | rfl
      · have s0 := HKr.out.cell (BS.out.cell 0) (fun h => h)
        obtain ⟨s, hs, hv⟩ := hja
        have HV := Lib.hid hv
        clear hv
        rcases hs with rfl | rfl
        all_goals
          go_wp2_with fail
          refine (cmpI_is _ (F_21.out _ HKw.out) (F_18.out _ HKw.out) (by decide) HV.out).mono ?_
          rintro e w9 ⟨rfl, hk⟩
          have HK9 := Lib.hid (keep0_trans _ _ _ HKr.out hk)
          clear hk
          go_wp2
          go_roundw
          case rel => exact ⟨1, by omega, by go_num, HK9⟩
          case measure => simp [intOf]
      · have s0 := HKr.out.cell (BS.out.cell 1) (fun h => h)
        obtain ⟨s, hs, hv⟩ := hjb
        have HV := Lib.hid hv
        clear hv
        rcases hs with rfl | rfl
        all_goals
          go_wp2_with fail
          refine (cmpI_is _ (F_21.out _ HKw.out) (F_19.out _ HKw.out) (by decide) HV.out).mono ?_
          rintro e w9 ⟨rfl, hk⟩
          have HK9 := Lib.hid (keep0_trans _ _ _ HKr.out hk)
          clear hk
          go_wp2
          go_roundw
          case rel => exact ⟨2, by omega, by go_num, HK9⟩
          case measure => simp [intOf]
    · obtain rfl : q = 2 := by omega
      clear BS
      have hk_23 : Keep (fun _ => False) _ wr := HKw.out
      have F_24 := Lib.hid (fun W h => F_18.out W (keep0_trans _ _ _ hk_23 h))
      have F_25 := Lib.hid (fun W h => F_19.out W (keep0_trans _ _ _ hk_23 h))
      have F_26 := Lib.hid (fun W h => F_20.out W (keep0_trans _ _ _ hk_23 h))
      have F_27 := Lib.hid (fun W h => F_21.out W (keep0_trans _ _ _ hk_23 h))
      have K_28 := Lib.hid (keep0_trans _ _ _ K_22.out hk_23)
      clear hk_23 F_18 F_19 F_20 F_21 K_22
      clear HKw HKr KS
      go_upto_region 14 with (fail)
      refine wp_region_kord (Keep (fun _ => False)) (Keep.refl _) keep0_trans 21 (Ts := [none, none, none, some (.inl (.int .u8 s1)), some (.inl (.bool true)), none, none, none, none, some (.inl (.int .u8 s2)), some (.inl (.bool false)), none, none, none, none, none, none, none, none, none, none]) ?_
      simp only [List.take, List.drop]
      refine kAll_p (fun K hK => ?_)
      go_simp
      generalize hZ : (Act.mk _ _) = Z
      refine hK Z ?_
      subst hZ
      clear hK K
      refine kAll_p (fun K hK => ?_)
      go_simp
      generalize hZ : (Act.mk _ _) = Z
      refine hK Z ?_
      subst hZ
      clear hK K
      refine kAll_p (fun K hK => ?_)
      go_simp
      generalize hZ : (Act.mk _ _) = Z
      refine hK Z ?_
      subst hZ
      clear hK K
      refine kAll_dn _ (fun W hW hF => kStep_of fun K Q hK => ?_) (fun K hK => ?_)
      · have h0 := F_26.out W (hW)
        have h1 := F_24.out W (hW)
        go_simp
        refine (cmpI_is s1 h0 h1 (by decide) HS1.out).mono ?_
        rintro e w' ⟨rfl, hk⟩
        exact hK _ _ hk rfl
      go_simp
      generalize hZ : (Act.mk _ _) = Z
      refine hK Z ?_
      subst hZ
      clear hK K
      refine kAll_dn _ (fun W hW hF => kStep_of fun K Q hK => ?_) (fun K hK => ?_)
      · go_simp
        refine (above_is s1 W true HU1.out).mono ?_
        rintro e w' ⟨rfl, hk⟩
        exact hK _ _ hk rfl
      go_simp
      generalize hZ : (Act.mk _ _) = Z
      refine hK Z ?_
      subst hZ
      clear hK K
      refine kAll_p (fun K hK => ?_)
      go_simp
      generalize hZ : (Act.mk _ _) = Z
      refine hK Z ?_
      subst hZ
      clear hK K
      refine kAll_pw (by kernel_rfl) (fun K hK => ?_)
      go_simp
      generalize hZ : (Act.mk _ _) = Z
      refine hK Z ?_
      subst hZ
      clear hK K
      refine kAll_pw (by kernel_rfl) (fun K hK => ?_)
      go_simp
      generalize hZ : (Act.mk _ _) = Z
      refine hK Z ?_
      subst hZ
      clear hK K
      refine kAll_pw (by kernel_rfl) (fun K hK => ?_)
      go_simp
      generalize hZ : (Act.mk _ _) = Z
      refine hK Z ?_
      subst hZ
      clear hK K
      refine kAll_dn _ (fun W hW hF => kStep_w (by kernel_rfl) fun K Q hK => ?_) (fun K hK => ?_)
      · have h0 := F_26.out W (hW)
        have h1 := F_25.out W (hW)
        go_simp
        refine (cmpI_is s2 h0 h1 (by decide) HS2.out).mono ?_
        rintro e w' ⟨rfl, hk⟩
        exact hK _ _ hk rfl
      go_simp
      generalize hZ : (Act.mk _ _) = Z
      refine hK Z ?_
      subst hZ
      clear hK K
      refine kAll_dn _ (fun W hW hF => kStep_w (by kernel_rfl) fun K Q hK => ?_) (fun K hK => ?_)
      · go_simp
        refine (above_is s2 W false HU2.out).mono ?_
        rintro e w' ⟨rfl, hk⟩
        exact hK _ _ hk rfl
      go_simp
      generalize hZ : (Act.mk _ _) = Z
      refine hK Z ?_
      subst hZ
      clear hK K
      refine kAll_p (fun K hK => ?_)
      go_simp
      generalize hZ : (Act.mk _ _) = Z
      refine hK Z ?_
      subst hZ
      clear hK K
      refine kAll_p (fun K hK => ?_)
      go_simp
      generalize hZ : (Act.mk _ _) = Z
      refine hK Z ?_
      subst hZ
      clear hK K
      refine kAll_p (fun K hK => ?_)
      go_simp
      generalize hZ : (Act.mk _ _) = Z
      refine hK Z ?_
      subst hZ
      clear hK K
      refine kAll_skip (by kernel_rfl) ?_
      refine kAll_skip (by kernel_rfl) ?_
      refine kAll_skip (by kernel_rfl) ?_
      refine kAll_skip (by kernel_rfl) ?_
      refine kAll_skip (by kernel_rfl) ?_
      refine kAll_p (fun K hK => ?_)
      go_simp
      generalize hZ : (Act.mk _ _) = Z
      refine hK Z ?_
      subst hZ
      clear hK K
      refine kAll_p (fun K hK => ?_)
      go_simp
      generalize hZ : (Act.mk _ _) = Z
      refine hK Z ?_
      subst hZ
      clear hK K
      refine kAll_nil (fun W29 hW hF => ?_)
      clear hF
      have hk_30 : Keep (fun _ => False) _ W29 := hW
      have F_31 := Lib.hid (fun W h => F_24.out W (keep0_trans _ _ _ hk_30 h))
      have F_32 := Lib.hid (fun W h => F_25.out W (keep0_trans _ _ _ hk_30 h))
      have F_33 := Lib.hid (fun W h => F_26.out W (keep0_trans _ _ _ hk_30 h))
      have F_34 := Lib.hid (fun W h => F_27.out W (keep0_trans _ _ _ hk_30 h))
      have K_35 := Lib.hid (keep0_trans _ _ _ K_28.out hk_30)
      clear hk_30 F_24 F_25 F_26 F_27 K_28
      clear hW
      go_wp2
      go_ret
      exact ⟨rfl, K_35.out⟩
set_option maxRecDepth 100000 in
set_option maxHeartbeats 4000000 in
theorem greater_0 (A0 A1 A2 : Option Addr) (n0 n1 n2 c0 c1 c2 : Nat) (xa xi : Int) (w : World) (HBig : Hid ([n0, n1, n2].any (fun x => decide (150 < x)) = false)) (l0 l1 l2 : List Tick) (HF0 : Hid (∀ W, Keep (fun _ => False) w W → IsTB 150 W (.slice A0 n0 c0) l0)) (HF1 : Hid (∀ W, Keep (fun _ => False) w W → IsTB 150 W (.slice A1 n1 c1) l1)) (HF2 : Hid (∀ W, Keep (fun _ => False) w W → IsTB 150 W (.slice A2 n2 c2) l2))
    (hja : ∃ s : Int, (s = 1 ∨ s = 3) ∧ cmpM (joinM l0 l1) l0 = s) (hjb : ∃ s : Int, (s = 1 ∨ s = 3) ∧ cmpM (joinM l0 l1) l1 = s) (s1 : Int) (HS1 : Hid (cmpM l2 l0 = s1)) (HU1 : Hid (decide (s1 = 3 ∨ s1 = 1) = false)) :
    Calls Try.prog 4 #[.slice A0 n0 c0, .slice A1 n1 c1, .slice A2 n2 c2, idV (xa, xi)] w (Tell (.bool true) w) := by
  have K0 : Hid (Keep (fun _ => False) w (w.alloc (.cells #[.int .i64 xa, .int .i64 xi] 28))) := Lib.hid ((Keep.refl _ w).alloc _)
  have B7 : Hid (Blk (w.alloc (.cells #[.int .i64 xa, .int .i64 xi] 28)) w.heap.size 28 #[.int .i64 xa, .int .i64 xi]) := Lib.hid (Blk.new _ _ _)
  go_enter Try.func4, Try.ntmps4
  go_upto_region 1 with (fail)
  generalize hW0 : w.alloc (.cells #[.int .i64 xa, .int .i64 xi] 28) = W0 at *
  clear hW0
  have F0 : Hid (∀ W, Keep (fun _ => False) W0 W → IsTB 150 W (.slice A0 n0 c0) l0) := Lib.hid fun W h => HF0.out W (keep0_trans _ _ _ K0.out h)
  have F1 : Hid (∀ W, Keep (fun _ => False) W0 W → IsTB 150 W (.slice A1 n1 c1) l1) := Lib.hid fun W h => HF1.out W (keep0_trans _ _ _ K0.out h)
  have F2 : Hid (∀ W, Keep (fun _ => False) W0 W → IsTB 150 W (.slice A2 n2 c2) l2) := Lib.hid fun W h => HF2.out W (keep0_trans _ _ _ K0.out h)
  refine wp_region_kord (Keep (fun _ => False)) (Keep.refl _) keep0_trans 9 (Ts := [some (.inl (.bool true)), none, none, none, none, none, some (.inr (fun v W => IsLg W v [n0, n1, n2])), some (.inl (.bool false)), none]) ?_
  simp only [List.take, List.drop]
  refine kAll_dn _ (fun W hW hF => kStep_of fun K Q hK => ?_) (fun K hK => ?_)
  · go_simp
    refine (works_any W).mono ?_
    rintro e w' ⟨rfl, hk⟩
    exact hK _ _ hk rfl
  go_simp
  generalize hZ : (Act.mk _ _) = Z
  refine hK Z ?_
  subst hZ
  clear hK K
  refine kAll_p (fun K hK => ?_)
  go_simp
  generalize hZ : (Act.mk _ _) = Z
  refine hK Z ?_
  subst hZ
  clear hK K
  refine kAll_p (fun K hK => ?_)
  go_simp
  generalize hZ : (Act.mk _ _) = Z
  refine hK Z ?_
  subst hZ
  clear hK K
  refine kAll_pw (by kernel_rfl) (fun K hK => ?_)
  go_simp
  generalize hZ : (Act.mk _ _) = Z
  refine hK Z ?_
  subst hZ
  clear hK K
  refine kAll_pw (by kernel_rfl) (fun K hK => ?_)
  go_simp
  generalize hZ : (Act.mk _ _) = Z
  refine hK Z ?_
  subst hZ
  clear hK K
  refine kAll_pw (by kernel_rfl) (fun K hK => ?_)
  go_simp
  generalize hZ : (Act.mk _ _) = Z
  refine hK Z ?_
  subst hZ
  clear hK K
  refine kAll_tn _ (fun v W W' hk h => h.keep0 hk) (fun W hW hF => kStep_w (by kernel_rfl) fun K Q hK => ?_) (fun u0 K hK => ?_)
  · go_simp
    exact hK _ _ ((Keep.refl _ _).alloc _) ⟨_, _, _, [(A0, n0, c0), (A1, n1, c1), (A2, n2, c2)], rfl, rfl, rfl, RdK.of_blk (Blk.new _ _ _) 3 1 rfl⟩
  go_simp
  generalize hZ : (Act.mk _ _) = Z
  refine hK Z ?_
  subst hZ
  clear hK K
  refine kAll_dn _ (fun W hW hF => kStep_w (by kernel_rfl) fun K Q hK => ?_) (fun K hK => ?_)
  · have h0 : (fun v W => IsLg W v [n0, n1, n2]) u0 W := kHas_at hF 0 rfl (by kernel_rfl)
    go_simp
    refine (large_is false h0 (by simp) HBig.out).mono ?_
    rintro e w' ⟨rfl, hk⟩
    exact hK _ _ hk rfl
  go_simp
  generalize hZ : (Act.mk _ _) = Z
  refine hK Z ?_
  subst hZ
  clear hK K
  refine kAll_p (fun K hK => ?_)
  go_simp
  generalize hZ : (Act.mk _ _) = Z
  refine hK Z ?_
  subst hZ
  clear hK K
  refine kAll_nil (fun W1 hW hF => ?_)
  clear hF
  have hk_2 : Keep (fun _ => False) _ W1 := hW
  have B_3 := Lib.hid (B7.out.keep hk_2 (fun h => h))
  have F_4 := Lib.hid (fun W h => F0.out W (keep0_trans _ _ _ hk_2 h))
  have F_5 := Lib.hid (fun W h => F1.out W (keep0_trans _ _ _ hk_2 h))
  have F_6 := Lib.hid (fun W h => F2.out W (keep0_trans _ _ _ hk_2 h))
  have K_7 := Lib.hid (keep0_trans _ _ _ K0.out hk_2)
  clear hk_2 B7 F0 F1 F2 K0
  clear hW
  go_upto_region 3 with (fail)
  refine wp_region_kord (Keep (fun _ => False)) (Keep.refl _) keep0_trans 4 (Ts := [none, none, some (.inr (fun v W => IsTB 300 W v (joinM l0 l1))), none]) ?_
  simp only [List.take, List.drop]
  refine kAll_p (fun K hK => ?_)
  go_simp
  generalize hZ : (Act.mk _ _) = Z
  refine hK Z ?_
  subst hZ
  clear hK K
  refine kAll_p (fun K hK => ?_)
  go_simp
  generalize hZ : (Act.mk _ _) = Z
  refine hK Z ?_
  subst hZ
  clear hK K
  refine kAll_tn _ (fun v W W' hk h => h.keep0 hk) (fun W hW hF => kStep_of fun K Q hK => ?_) (fun u0 K hK => ?_)
  · have h0 := F_4.out W (hW)
    have h1 := F_5.out W (hW)
    go_simp
    refine (joinI_any h0 h1 (by decide)).mono ?_
    rintro e w' ⟨u, rfl, hu, hk⟩
    exact hK _ _ hk hu
  go_simp
  generalize hZ : (Act.mk _ _) = Z
  refine hK Z ?_
  subst hZ
  clear hK K
  refine kAll_p (fun K hK => ?_)
  go_simp
  generalize hZ : (Act.mk _ _) = Z
  refine hK Z ?_
  subst hZ
  clear hK K
  refine kAll_nil (fun W8 hW hF => ?_)
  have hf : (fun v W => IsTB 300 W v (joinM l0 l1)) u0 W8 := kAllHas_at hF 0 rfl
  have Fj : Hid (∀ W, Keep (fun _ => False) W8 W → IsTB 300 W u0 (joinM l0 l1)) := Lib.hid fun W h => IsTB.keep0 hf h
  clear hf
  clear hF
  have hk_9 : Keep (fun _ => False) _ W8 := hW
  have B_10 := Lib.hid (B_3.out.keep hk_9 (fun h => h))
  have F_11 := Lib.hid (fun W h => F_4.out W (keep0_trans _ _ _ hk_9 h))
  have F_12 := Lib.hid (fun W h => F_5.out W (keep0_trans _ _ _ hk_9 h))
  have F_13 := Lib.hid (fun W h => F_6.out W (keep0_trans _ _ _ hk_9 h))
  have K_14 := Lib.hid (keep0_trans _ _ _ K_7.out hk_9)
  clear hk_9 B_3 F_4 F_5 F_6 K_7
  clear hW
  go_upto_region 4 with (fail)
  refine wp_region_krip (Keep (fun _ => False)) (Keep.refl _) keep0_trans 9 (by kernel_rfl) (by kernel_rfl) (Ts := [none, some (.inl (idV (xa, xi))), some (.inl (.int .i64 (max (getM l0 (xa, xi)) (getM l1 (xa, xi))))), none, some (.inl (idV (xa, xi))), some (.inl (.int .i64 (getM l0 (xa, xi)))), none, some (.inl (idV (xa, xi))), some (.inl (.int .i64 (getM l1 (xa, xi))))]) ?_
  simp only [List.take, List.drop]
  refine kAll_p (fun K hK => ?_)
  go_simp
  generalize hZ : (Act.mk _ _) = Z
  refine hK Z ?_
  subst hZ
  clear hK K
  refine kAll_dn _ (fun W hW hF => kStep_of fun K Q hK => ?_) (fun K hK => ?_)
  · have e0 := (B_10.out.drew.keep hW (fun h => h)).cell 0
    have e1 := (B_10.out.drew.keep hW (fun h => h)).cell 1
    simp at e0 e1
    go_simp
    exact hK _ _ (Keep.refl _ _) rfl
  go_simp
  generalize hZ : (Act.mk _ _) = Z
  refine hK Z ?_
  subst hZ
  clear hK K
  refine kAll_dn _ (fun W hW hF => kStep_of fun K Q hK => ?_) (fun K hK => ?_)
  · have h0 := Fj.out W (keepD (Keep.refl _ _) hW)
    go_simp
    refine (getI_is (xa, xi) (max (getM l0 (xa, xi)) (getM l1 (xa, xi))) h0 (by decide) (getM_join _ _ _)).mono ?_
    rintro e w' ⟨rfl, hk⟩
    exact hK _ _ hk rfl
  go_simp
  generalize hZ : (Act.mk _ _) = Z
  refine hK Z ?_
  subst hZ
  clear hK K
  refine kAll_p (fun K hK => ?_)
  go_simp
  generalize hZ : (Act.mk _ _) = Z
  refine hK Z ?_
  subst hZ
  clear hK K
  refine kAll_dn _ (fun W hW hF => kStep_of fun K Q hK => ?_) (fun K hK => ?_)
  · have e0 := (B_10.out.drew.keep hW (fun h => h)).cell 0
    have e1 := (B_10.out.drew.keep hW (fun h => h)).cell 1
    simp at e0 e1
    go_simp
    exact hK _ _ (Keep.refl _ _) rfl
  go_simp
  generalize hZ : (Act.mk _ _) = Z
  refine hK Z ?_
  subst hZ
  clear hK K
  refine kAll_dn _ (fun W hW hF => kStep_of fun K Q hK => ?_) (fun K hK => ?_)
  · have h0 := F_11.out W (keepD (Keep.refl _ _) hW)
    go_simp
    refine (getI_is (xa, xi) (getM l0 (xa, xi)) h0 (by decide) rfl).mono ?_
    rintro e w' ⟨rfl, hk⟩
    exact hK _ _ hk rfl
  go_simp
  generalize hZ : (Act.mk _ _) = Z
  refine hK Z ?_
  subst hZ
  clear hK K
  refine kAll_p (fun K hK => ?_)
  go_simp
  generalize hZ : (Act.mk _ _) = Z
  refine hK Z ?_
  subst hZ
  clear hK K
  refine kAll_dn _ (fun W hW hF => kStep_of fun K Q hK => ?_) (fun K hK => ?_)
  · have e0 := (B_10.out.drew.keep hW (fun h => h)).cell 0
    have e1 := (B_10.out.drew.keep hW (fun h => h)).cell 1
    simp at e0 e1
    go_simp
    exact hK _ _ (Keep.refl _ _) rfl
  go_simp
  generalize hZ : (Act.mk _ _) = Z
  refine hK Z ?_
  subst hZ
  clear hK K
  refine kAll_dn _ (fun W hW hF => kStep_of fun K Q hK => ?_) (fun K hK => ?_)
  · have h0 := F_12.out W (keepD (Keep.refl _ _) hW)
    go_simp
    refine (getI_is (xa, xi) (getM l1 (xa, xi)) h0 (by decide) rfl).mono ?_
    rintro e w' ⟨rfl, hk⟩
    exact hK _ _ hk rfl
  go_simp
  generalize hZ : (Act.mk _ _) = Z
  refine hK Z ?_
  subst hZ
  clear hK K
  refine kAll_nil (fun W15 hW hF => ?_)
  clear hF
  have hk_16 : Keep (fun _ => False) _ W15 := keepD (Keep.refl _ _) hW
  have B_17 := Lib.hid (B_10.out.keep hk_16 (fun h => h))
  have F_18 := Lib.hid (fun W h => F_11.out W (keep0_trans _ _ _ hk_16 h))
  have F_19 := Lib.hid (fun W h => F_12.out W (keep0_trans _ _ _ hk_16 h))
  have F_20 := Lib.hid (fun W h => F_13.out W (keep0_trans _ _ _ hk_16 h))
  have F_21 := Lib.hid (fun W h => Fj.out W (keep0_trans _ _ _ hk_16 h))
  have K_22 := Lib.hid (keep0_trans _ _ _ K_14.out hk_16)
  clear hk_16 B_10 F_11 F_12 F_13 Fj K_14
  clear hW
  have HP0 := Lib.hid (rfl : getM l0 (xa, xi) = getM l0 (xa, xi))
  clear HP0
  generalize getM l0 (xa, xi) = gp at *
  generalize getM l1 (xa, xi) = gq at *
  have hmx : (max gp gq != max gp gq) = false := by simp
  go_upto_region 6 with (fail)
  have BS : Hid (Blk (W15.alloc (.cells #[.slice A0 n0 c0, .slice A1 n1 c1] 24)) W15.heap.size 24 #[.slice A0 n0 c0, .slice A1 n1 c1]) := Lib.hid (Blk.new _ _ _)
  have KS : Hid (Keep (fun _ => False) W15 (W15.alloc (.cells #[.slice A0 n0 c0, .slice A1 n1 c1] 24))) := Lib.hid ((Keep.refl _ _).alloc _)
  go_wp2_with fail
  go_loopw [42] (fun i wr => ∃ q : Nat, q ≤ 2 ∧ i = .int .i64 (q : Int) ∧ Hid (Keep (fun _ => False) (W15.alloc (.cells #[.slice A0 n0 c0, .slice A1 n1 c1] 24)) wr)) (fun i _ => 2 - (intOf i).toNat)
  case atStart => exact ⟨0, by omega, rfl, Lib.hid (Keep.refl _ _)⟩
  case round =>
    obtain ⟨q, hq, rfl, HKr⟩ := hrel
    have HKw := Lib.hid (keep0_trans _ _ _ KS.out HKr.out)
    by_cases hlt : q < 2
    · rcases (by omega : q = 0 ∨ q = 1) with rfl | rfl
      · have s0 := HKr.out.cell (BS.out.cell 0) (fun h => h)
        obtain ⟨s, hs, hv⟩ := hja
        have HV := Lib.hid hv
        clear hv
        rcases hs with rfl | rfl
        all_goals
          go_wp2_with fail
          refine (cmpI_is _ (F_21.out _ HKw.out) (F_18.out _ HKw.out) (by decide) HV.out).mono ?_
          rintro e w9 ⟨rfl, hk⟩
          have HK9 := Lib.hid (keep0_trans _ _ _ HKr.out hk)
          clear hk
          go_wp2
          go_roundw
          case rel => exact ⟨1, by omega, by go_num, HK9⟩
          case measure => simp [intOf]
      · have s0 := HKr.out.cell (BS.out.cell 1) (fun h => h)
        obtain ⟨s, hs, hv⟩ := hjb
        have HV := Lib.hid hv
        clear hv
        rcases hs with rfl | rfl
        all_goals
          go_wp2_with fail
          refine (cmpI_is _ (F_21.out _ HKw.out) (F_19.out _ HKw.out) (by decide) HV.out).mono ?_
          rintro e w9 ⟨rfl, hk⟩
          have HK9 := Lib.hid (keep0_trans _ _ _ HKr.out hk)
          clear hk
          go_wp2
          go_roundw
          case rel => exact ⟨2, by omega, by go_num, HK9⟩
          case measure => simp [intOf]
    · obtain rfl : q = 2 := by omega
      clear BS
      have hk_23 : Keep (fun _ => False) _ wr := HKw.out
      have F_24 := Lib.hid (fun W h => F_18.out W (keep0_trans _ _ _ hk_23 h))
      have F_25 := Lib.hid (fun W h => F_19.out W (keep0_trans _ _ _ hk_23 h))
      have F_26 := Lib.hid (fun W h => F_20.out W (keep0_trans _ _ _ hk_23 h))
      have F_27 := Lib.hid (fun W h => F_21.out W (keep0_trans _ _ _ hk_23 h))
      have K_28 := Lib.hid (keep0_trans _ _ _ K_22.out hk_23)
      clear hk_23 F_18 F_19 F_20 F_21 K_22
      clear HKw HKr KS
      go_upto_region 14 with (fail)
      refine wp_region_kord (Keep (fun _ => False)) (Keep.refl _) keep0_trans 21 (Ts := [none, none, none, some (.inl (.int .u8 s1)), some (.inl (.bool false)), none, none, none, none, none, none, none, none, none, none, none, none, none, none, none, none]) ?_
      simp only [List.take, List.drop]
      refine kAll_p (fun K hK => ?_)
      go_simp
      generalize hZ : (Act.mk _ _) = Z
      refine hK Z ?_
      subst hZ
      clear hK K
      refine kAll_p (fun K hK => ?_)
      go_simp
      generalize hZ : (Act.mk _ _) = Z
      refine hK Z ?_
      subst hZ
      clear hK K
      refine kAll_p (fun K hK => ?_)
      go_simp
      generalize hZ : (Act.mk _ _) = Z
      refine hK Z ?_
      subst hZ
      clear hK K
      refine kAll_dn _ (fun W hW hF => kStep_of fun K Q hK => ?_) (fun K hK => ?_)
      · have h0 := F_26.out W (hW)
        have h1 := F_24.out W (hW)
        go_simp
        refine (cmpI_is s1 h0 h1 (by decide) HS1.out).mono ?_
        rintro e w' ⟨rfl, hk⟩
        exact hK _ _ hk rfl
      go_simp
      generalize hZ : (Act.mk _ _) = Z
      refine hK Z ?_
      subst hZ
      clear hK K
      refine kAll_dn _ (fun W hW hF => kStep_of fun K Q hK => ?_) (fun K hK => ?_)
      · go_simp
        refine (above_is s1 W false HU1.out).mono ?_
        rintro e w' ⟨rfl, hk⟩
        exact hK _ _ hk rfl
      go_simp
      generalize hZ : (Act.mk _ _) = Z
      refine hK Z ?_
      subst hZ
      clear hK K
      refine kAll_p (fun K hK => ?_)
      go_simp
      generalize hZ : (Act.mk _ _) = Z
      refine hK Z ?_
      subst hZ
      clear hK K
      refine kAll_skip (by kernel_rfl) ?_
      refine kAll_skip (by kernel_rfl) ?_
      refine kAll_skip (by kernel_rfl) ?_
      refine kAll_skip (by kernel_rfl) ?_
      refine kAll_skip (by kernel_rfl) ?_
      refine kAll_p (fun K hK => ?_)
      go_simp
      generalize hZ : (Act.mk _ _) = Z
      refine hK Z ?_
      subst hZ
      clear hK K
      refine kAll_p (fun K hK => ?_)
      go_simp
      generalize hZ : (Act.mk _ _) = Z
      refine hK Z ?_
      subst hZ
      clear hK K
      refine kAll_p (fun K hK => ?_)
      go_simp
      generalize hZ : (Act.mk _ _) = Z
      refine hK Z ?_
      subst hZ
      clear hK K
      refine kAll_skip (by kernel_rfl) ?_
      refine kAll_skip (by kernel_rfl) ?_
      refine kAll_skip (by kernel_rfl) ?_
      refine kAll_skip (by kernel_rfl) ?_
      refine kAll_skip (by kernel_rfl) ?_
      refine kAll_p (fun K hK => ?_)
      go_simp
      generalize hZ : (Act.mk _ _) = Z
      refine hK Z ?_
      subst hZ
      clear hK K
      refine kAll_p (fun K hK => ?_)
      go_simp
      generalize hZ : (Act.mk _ _) = Z
      refine hK Z ?_
      subst hZ
      clear hK K
      refine kAll_nil (fun W29 hW hF => ?_)
      clear hF
      have hk_30 : Keep (fun _ => False) _ W29 := hW
      have F_31 := Lib.hid (fun W h => F_24.out W (keep0_trans _ _ _ hk_30 h))
      have F_32 := Lib.hid (fun W h => F_25.out W (keep0_trans _ _ _ hk_30 h))
      have F_33 := Lib.hid (fun W h => F_26.out W (keep0_trans _ _ _ hk_30 h))
      have F_34 := Lib.hid (fun W h => F_27.out W (keep0_trans _ _ _ hk_30 h))
      have K_35 := Lib.hid (keep0_trans _ _ _ K_28.out hk_30)
      clear hk_30 F_24 F_25 F_26 F_27 K_28
      clear hW
      go_wp2
      go_ret
      exact ⟨rfl, K_35.out⟩
theorem above_cmp (a b : List Tick) : decide (cmpM a b = 3 ∨ cmpM a b = 1) = true ↔ leC b a := by
  rw [decide_eq_true_eq]
  rcases cmpM_cases a b with ⟨_, h2, h⟩ | ⟨_, h2, h⟩ | ⟨_, h2, h⟩ | ⟨_, h2, h⟩ <;> rw [h]
  · exact ⟨fun _ => h2, fun _ => .inr rfl⟩
  · exact ⟨fun q => absurd q (by decide), fun q => absurd q h2⟩
  · exact ⟨fun _ => h2, fun _ => .inl rfl⟩
  · exact ⟨fun q => absurd q (by decide), fun q => absurd q h2⟩
theorem cmp_above {a b : List Tick} (h : leC b a) : ∃ s : Int, (s = 1 ∨ s = 3) ∧ cmpM a b = s := by
  have := (above_cmp a b).2 h
  rw [decide_eq_true_eq] at this
  exact ⟨_, this.symm, rfl⟩
theorem greater_tell (A0 A1 A2 : Option Addr) (n0 n1 n2 c0 c1 c2 : Nat) (xa xi : Int) (l0 l1 l2 : List Tick) (w : World) (h0 : RdT w A0 n0 l0) (h1 : RdT w A1 n1 l1) (h2 : RdT w A2 n2 l2) :
    Calls Try.prog 4 #[.slice A0 n0 c0, .slice A1 n1 c1, .slice A2 n2 c2, idV (xa, xi)] w (Tell (.bool true) w) := by
  rcases big_or [n0, n1, n2] with hb | ⟨hb, hle⟩
  · exact greater_big A0 A1 A2 n0 n1 n2 c0 c1 c2 xa xi w (Lib.hid hb)
  · have HBig := Lib.hid hb
    have b0 : n0 ≤ 150 := hle n0 (by simp)
    have b1 : n1 ≤ 150 := hle n1 (by simp)
    have b2 : n2 ≤ 150 := hle n2 (by simp)
    have F0 : Hid (∀ W, Keep (fun _ => False) w W → IsTB 150 W (.slice A0 n0 c0) l0) := Lib.hid fun W h => ⟨_, _, _, rfl, h0.keep0 h, b0⟩
    have F1 : Hid (∀ W, Keep (fun _ => False) w W → IsTB 150 W (.slice A1 n1 c1) l1) := Lib.hid fun W h => ⟨_, _, _, rfl, h1.keep0 h, b1⟩
    have F2 : Hid (∀ W, Keep (fun _ => False) w W → IsTB 150 W (.slice A2 n2 c2) l2) := Lib.hid fun W h => ⟨_, _, _, rfl, h2.keep0 h, b2⟩
    have ja := cmp_above (leC_left l0 l1)
    have jb := cmp_above (leC_right l0 l1)
    by_cases u1 : decide (cmpM l2 l0 = 3 ∨ cmpM l2 l0 = 1) = true
    · by_cases u2 : decide (cmpM l2 l1 = 3 ∨ cmpM l2 l1 = 1) = true
      · have u3 := (above_cmp l2 (joinM l0 l1)).2 (leC_join ((above_cmp _ _).1 u1) ((above_cmp _ _).1 u2))
        exact greater_11 A0 A1 A2 n0 n1 n2 c0 c1 c2 xa xi w HBig l0 l1 l2 F0 F1 F2 ja jb _ _ _ (Lib.hid rfl) (Lib.hid u1) (Lib.hid rfl) (Lib.hid u2) (Lib.hid rfl) (Lib.hid u3)
      · exact greater_10 A0 A1 A2 n0 n1 n2 c0 c1 c2 xa xi w HBig l0 l1 l2 F0 F1 F2 ja jb _ _ (Lib.hid rfl) (Lib.hid u1) (Lib.hid rfl) (Lib.hid (by simpa using u2))
    · exact greater_0 A0 A1 A2 n0 n1 n2 c0 c1 c2 xa xi w HBig l0 l1 l2 F0 F1 F2 ja jb _ (Lib.hid rfl) (Lib.hid (by simpa using u1))
theorem walkClockGreater {w : World} (v0 : Value) (w0 : InTs w v0) (v1 : Value) (w1 : InTs w v1) (v2 : Value) (w2 : InTs w v2) (v3 : Value) (w3 : InId w v3) :
    Calls Try.prog 4 #[v0, v1, v2, v3] w fun e w' => e = .returned (.bool true) ∧ Below w.heap.size w w' := by
  obtain ⟨A0, n0, c0, l0, rfl, _, _, h0⟩ := w0
  obtain ⟨A1, n1, c1, l1, rfl, _, _, h1⟩ := w1
  obtain ⟨A2, n2, c2, l2, rfl, _, _, h2⟩ := w2
  obtain ⟨⟨xa, xi⟩, rfl⟩ := w3
  exact (greater_tell A0 A1 A2 n0 n1 n2 c0 c1 c2 xa xi l0 l1 l2 w h0 h1 h2).mono fun _ _ ⟨h, k⟩ => ⟨h, k.b⟩
end Go.Proofs.Ytljmpjkfdkcjnaa
