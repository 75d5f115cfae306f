/-
  The statement ClockApart. Written by gen_apart.py.
-/
import Derived.Test.YtljmpjkfdkcjnaaCloK
import Derived.Test.YtljmpjkfdkcjnaaKord
namespace Go.Proofs.Ytljmpjkfdkcjnaa
open Go.RowKit
attribute [local irreducible] kAll
attribute [local go_sem] kQuiet kQuietUpon

theorem big_or (l : List Nat) : l.any (fun x => decide (150 < x)) = true ∨ (l.any (fun x => decide (150 < x)) = false ∧ ∀ x ∈ l, x ≤ 150) := by
  cases h : l.any (fun x => decide (150 < x))
  · rw [List.any_eq_false] at h
    exact .inr ⟨rfl, fun x hx => by have := h x hx; simp at this; exact this⟩
  · exact .inl rfl
set_option maxRecDepth 100000 in
set_option maxHeartbeats 4000000 in
theorem apart_big (A0 : Option Addr) (n0 c0 : Nat) (aa ai ba bi : Int) (w : World) (HBig : Hid ([n0].any (fun x => decide (150 < x)) = true)) :
    Calls Try.prog 7 #[.slice A0 n0 c0, idV (aa, ai), idV (ba, bi)] w (Tell (.bool true) w) := by
  have K0 : Hid (Keep (fun _ => False) w ((w.alloc (.cells #[.int .i64 aa, .int .i64 ai] 28)).alloc (.cells #[.int .i64 ba, .int .i64 bi] 28))) := Lib.hid (((Keep.refl _ w).alloc _).alloc _)
  have B4 : Hid (Blk ((w.alloc (.cells #[.int .i64 aa, .int .i64 ai] 28)).alloc (.cells #[.int .i64 ba, .int .i64 bi] 28)) w.heap.size 28 #[.int .i64 aa, .int .i64 ai]) := Lib.hid ((Blk.new _ _ _).alloc _)
  have B5 : Hid (Blk ((w.alloc (.cells #[.int .i64 aa, .int .i64 ai] 28)).alloc (.cells #[.int .i64 ba, .int .i64 bi] 28)) (w.heap.size + 1) 28 #[.int .i64 ba, .int .i64 bi]) := Lib.hid (Blk.new_ (by simp) _ _)
  go_enter Try.func7, Try.ntmps7
  go_upto_region 1 with (fail)
  generalize hW0 : (w.alloc (.cells #[.int .i64 aa, .int .i64 ai] 28)).alloc (.cells #[.int .i64 ba, .int .i64 bi] 28) = W0 at *
  clear hW0
  clear B4 B5
  refine wp_region_kord (Keep (fun _ => False)) (Keep.refl _) keep0_trans 12 (Ts := [some (.inl (.bool true)), none, none, none, some (.inr (fun v W => IsLg W v [n0])), some (.inl (.bool true)), none, none, none, none, none, none]) ?_
  simp only [List.take, List.drop]
  refine kAll_dn _ (fun W hW hF => kStep_of fun K Q hK => ?_) (fun K hK => ?_)
  · go_simp
    refine (works_any W).mono ?_
    rintro e w' ⟨rfl, hk⟩
    exact hK _ _ hk rfl
  go_simp
  generalize hZ : (Act.mk _ _) = Z
  refine hK Z ?_
  subst hZ
  clear hK K
  refine kAll_p (fun K hK => ?_)
  go_simp
  generalize hZ : (Act.mk _ _) = Z
  refine hK Z ?_
  subst hZ
  clear hK K
  refine kAll_p (fun K hK => ?_)
  go_simp
  generalize hZ : (Act.mk _ _) = Z
  refine hK Z ?_
  subst hZ
  clear hK K
  refine kAll_pw (by kernel_rfl) (fun K hK => ?_)
  go_simp
  generalize hZ : (Act.mk _ _) = Z
  refine hK Z ?_
  subst hZ
  clear hK K
  refine kAll_tn _ (fun v W W' hk h => h.keep0 hk) (fun W hW hF => kStep_w (by kernel_rfl) fun K Q hK => ?_) (fun u0 K hK => ?_)
  · go_simp
    exact hK _ _ ((Keep.refl _ _).alloc _) ⟨_, _, _, [(A0, n0, c0)], rfl, rfl, rfl, RdK.of_blk (Blk.new _ _ _) 1 1 rfl⟩
  go_simp
  generalize hZ : (Act.mk _ _) = Z
  refine hK Z ?_
  subst hZ
  clear hK K
  refine kAll_dn _ (fun W hW hF => kStep_w (by kernel_rfl) fun K Q hK => ?_) (fun K hK => ?_)
  · have h0 : (fun v W => IsLg W v [n0]) u0 W := kHas_at hF 0 rfl (by kernel_rfl)
    go_simp
    refine (large_is true h0 (by simp) HBig.out).mono ?_
    rintro e w' ⟨rfl, hk⟩
    exact hK _ _ hk rfl
  go_simp
  generalize hZ : (Act.mk _ _) = Z
  refine hK Z ?_
  subst hZ
  clear hK K
  refine kAll_p (fun K hK => ?_)
  go_simp
  generalize hZ : (Act.mk _ _) = Z
  refine hK Z ?_
  subst hZ
  clear hK K
  refine kAll_p (fun K hK => ?_)
  go_simp
  generalize hZ : (Act.mk _ _) = Z
  refine hK Z ?_
  subst hZ
  clear hK K
  refine kAll_skip (by kernel_rfl) ?_
  refine kAll_skip (by kernel_rfl) ?_
  refine kAll_skip (by kernel_rfl) ?_
  refine kAll_p (fun K hK => ?_)
  go_simp
  generalize hZ : (Act.mk _ _) = Z
  refine hK Z ?_
  subst hZ
  clear hK K
  refine kAll_nil (fun W1 hW hF => ?_)
  clear hF
  have hk_2 : Keep (fun _ => False) _ W1 := hW
  have K_3 := Lib.hid (keep0_trans _ _ _ K0.out hk_2)
  clear hk_2 K0
  clear hW
  go_wp2_with fail
  refine (works_any _).mono ?_
  rintro e w2 ⟨rfl, hk⟩
  have KZ := Lib.hid (keep0_trans _ _ _ K_3.out hk)
  clear hk
  go_wp2
  go_ret
  exact ⟨rfl, KZ.out⟩
set_option maxRecDepth 100000 in
set_option maxHeartbeats 4000000 in
theorem apart_eq (A0 : Option Addr) (n0 c0 : Nat) (aa ai ba bi : Int) (w : World) (HBig : Hid ([n0].any (fun x => decide (150 < x)) = false)) (E : ∀ W, (binOp .eql 28 (idV (aa, ai)) (idV (ba, bi))).run Try.prog W = .ok (.bool true) W) (G : Try.prog.eqGuardType Try.prog.depth 28 = false) 
     :
    Calls Try.prog 7 #[.slice A0 n0 c0, idV (aa, ai), idV (ba, bi)] w (Tell (.bool true) w) := by
  have K0 : Hid (Keep (fun _ => False) w ((w.alloc (.cells #[.int .i64 aa, .int .i64 ai] 28)).alloc (.cells #[.int .i64 ba, .int .i64 bi] 28))) := Lib.hid (((Keep.refl _ w).alloc _).alloc _)
  have B4 : Hid (Blk ((w.alloc (.cells #[.int .i64 aa, .int .i64 ai] 28)).alloc (.cells #[.int .i64 ba, .int .i64 bi] 28)) w.heap.size 28 #[.int .i64 aa, .int .i64 ai]) := Lib.hid ((Blk.new _ _ _).alloc _)
  have B5 : Hid (Blk ((w.alloc (.cells #[.int .i64 aa, .int .i64 ai] 28)).alloc (.cells #[.int .i64 ba, .int .i64 bi] 28)) (w.heap.size + 1) 28 #[.int .i64 ba, .int .i64 bi]) := Lib.hid (Blk.new_ (by simp) _ _)
  go_enter Try.func7, Try.ntmps7
  go_upto_region 1 with (fail)
  generalize hW0 : (w.alloc (.cells #[.int .i64 aa, .int .i64 ai] 28)).alloc (.cells #[.int .i64 ba, .int .i64 bi] 28) = W0 at *
  clear hW0
  refine wp_region_kord (Keep (fun _ => False)) (Keep.refl _) keep0_trans 12 (Ts := [some (.inl (.bool true)), none, none, none, some (.inr (fun v W => IsLg W v [n0])), some (.inl (.bool false)), none, none, some (.inl (idV (aa, ai))), some (.inl (idV (ba, bi))), none, none]) ?_
  simp only [List.take, List.drop]
  refine kAll_dn _ (fun W hW hF => kStep_of fun K Q hK => ?_) (fun K hK => ?_)
  · go_simp
    refine (works_any W).mono ?_
    rintro e w' ⟨rfl, hk⟩
    exact hK _ _ hk rfl
  go_simp
  generalize hZ : (Act.mk _ _) = Z
  refine hK Z ?_
  subst hZ
  clear hK K
  refine kAll_p (fun K hK => ?_)
  go_simp
  generalize hZ : (Act.mk _ _) = Z
  refine hK Z ?_
  subst hZ
  clear hK K
  refine kAll_p (fun K hK => ?_)
  go_simp
  generalize hZ : (Act.mk _ _) = Z
  refine hK Z ?_
  subst hZ
  clear hK K
  refine kAll_pw (by kernel_rfl) (fun K hK => ?_)
  go_simp
  generalize hZ : (Act.mk _ _) = Z
  refine hK Z ?_
  subst hZ
  clear hK K
  refine kAll_tn _ (fun v W W' hk h => h.keep0 hk) (fun W hW hF => kStep_w (by kernel_rfl) fun K Q hK => ?_) (fun u0 K hK => ?_)
  · go_simp
    exact hK _ _ ((Keep.refl _ _).alloc _) ⟨_, _, _, [(A0, n0, c0)], rfl, rfl, rfl, RdK.of_blk (Blk.new _ _ _) 1 1 rfl⟩
  go_simp
  generalize hZ : (Act.mk _ _) = Z
  refine hK Z ?_
  subst hZ
  clear hK K
  refine kAll_dn _ (fun W hW hF => kStep_w (by kernel_rfl) fun K Q hK => ?_) (fun K hK => ?_)
  · have h0 : (fun v W => IsLg W v [n0]) u0 W := kHas_at hF 0 rfl (by kernel_rfl)
    go_simp
    refine (large_is false h0 (by simp) HBig.out).mono ?_
    rintro e w' ⟨rfl, hk⟩
    exact hK _ _ hk rfl
  go_simp
  generalize hZ : (Act.mk _ _) = Z
  refine hK Z ?_
  subst hZ
  clear hK K
  refine kAll_p (fun K hK => ?_)
  go_simp
  generalize hZ : (Act.mk _ _) = Z
  refine hK Z ?_
  subst hZ
  clear hK K
  refine kAll_p (fun K hK => ?_)
  go_simp
  generalize hZ : (Act.mk _ _) = Z
  refine hK Z ?_
  subst hZ
  clear hK K
  refine kAll_dn _ (fun W hW hF => kStep_w (by kernel_rfl) fun K Q hK => ?_) (fun K hK => ?_)
  · have e0 := (B4.out.keep hW (fun h => h)).cell 0
    have e1 := (B4.out.keep hW (fun h => h)).cell 1
    simp at e0 e1
    go_simp
    exact hK _ _ (Keep.refl _ _) rfl
  go_simp
  generalize hZ : (Act.mk _ _) = Z
  refine hK Z ?_
  subst hZ
  clear hK K
  refine kAll_dn _ (fun W hW hF => kStep_w (by kernel_rfl) fun K Q hK => ?_) (fun K hK => ?_)
  · have e0 := (B5.out.keep hW (fun h => h)).cell 0
    have e1 := (B5.out.keep hW (fun h => h)).cell 1
    simp at e0 e1
    go_simp
    exact hK _ _ (Keep.refl _ _) rfl
  go_simp
  generalize hZ : (Act.mk _ _) = Z
  refine hK Z ?_
  subst hZ
  clear hK K
  refine kAll_pw (by kernel_rfl) (fun K hK => ?_)
  go_simp
  generalize hZ : (Act.mk _ _) = Z
  refine hK Z ?_
  subst hZ
  clear hK K
  refine kAll_p (fun K hK => ?_)
  go_simp
  generalize hZ : (Act.mk _ _) = Z
  refine hK Z ?_
  subst hZ
  clear hK K
  refine kAll_nil (fun W1 hW hF => ?_)
  clear hF
  have hk_2 : Keep (fun _ => False) _ W1 := hW
  have B_3 := Lib.hid (B4.out.keep hk_2 (fun h => h))
  have B_4 := Lib.hid (B5.out.keep hk_2 (fun h => h))
  have K_5 := Lib.hid (keep0_trans _ _ _ K0.out hk_2)
  clear hk_2 B4 B5 K0
  clear hW
  go_wp2_with fail
  refine (works_any _).mono ?_
  rintro e w2 ⟨rfl, hk⟩
  have KZ := Lib.hid (keep0_trans _ _ _ K_5.out hk)
  clear hk
  go_wp2
  go_ret
  exact ⟨rfl, KZ.out⟩
set_option maxRecDepth 100000 in
set_option maxHeartbeats 4000000 in
theorem apart_e1 (A0 : Option Addr) (n0 c0 : Nat) (aa ai ba bi : Int) (w : World) (HBig : Hid ([n0].any (fun x => decide (150 < x)) = false)) (E : ∀ W, (binOp .eql 28 (idV (aa, ai)) (idV (ba, bi))).run Try.prog W = .ok (.bool false) W) (G : Try.prog.eqGuardType Try.prog.depth 28 = false) (l0 : List Tick) (HF0 : Hid (∀ W, Keep (fun _ => False) w W → IsTB 150 W (.slice A0 n0 c0) l0))
    (m1 m2 : Int) (hm1 : (m1 != 0) = true) (HE1 : Hid (upE l0 (aa, ai) = m1)) (HE2 : Hid (upE l0 (ba, bi) = m2)) :
    Calls Try.prog 7 #[.slice A0 n0 c0, idV (aa, ai), idV (ba, bi)] w (Tell (.bool true) w) := by
  have K0 : Hid (Keep (fun _ => False) w ((w.alloc (.cells #[.int .i64 aa, .int .i64 ai] 28)).alloc (.cells #[.int .i64 ba, .int .i64 bi] 28))) := Lib.hid (((Keep.refl _ w).alloc _).alloc _)
  have B4 : Hid (Blk ((w.alloc (.cells #[.int .i64 aa, .int .i64 ai] 28)).alloc (.cells #[.int .i64 ba, .int .i64 bi] 28)) w.heap.size 28 #[.int .i64 aa, .int .i64 ai]) := Lib.hid ((Blk.new _ _ _).alloc _)
  have B5 : Hid (Blk ((w.alloc (.cells #[.int .i64 aa, .int .i64 ai] 28)).alloc (.cells #[.int .i64 ba, .int .i64 bi] 28)) (w.heap.size + 1) 28 #[.int .i64 ba, .int .i64 bi]) := Lib.hid (Blk.new_ (by simp) _ _)
  go_enter Try.func7, Try.ntmps7
  go_upto_region 1 with (fail)
  generalize hW0 : (w.alloc (.cells #[.int .i64 aa, .int .i64 ai] 28)).alloc (.cells #[.int .i64 ba, .int .i64 bi] 28) = W0 at *
  clear hW0
  have F0 : Hid (∀ W, Keep (fun _ => False) W0 W → IsTB 150 W (.slice A0 n0 c0) l0) := Lib.hid fun W h => HF0.out W (keep0_trans _ _ _ K0.out h)
  refine wp_region_kord (Keep (fun _ => False)) (Keep.refl _) keep0_trans 12 (Ts := [some (.inl (.bool true)), none, none, none, some (.inr (fun v W => IsLg W v [n0])), some (.inl (.bool false)), none, none, some (.inl (idV (aa, ai))), some (.inl (idV (ba, bi))), none, none]) ?_
  simp only [List.take, List.drop]
  refine kAll_dn _ (fun W hW hF => kStep_of fun K Q hK => ?_) (fun K hK => ?_)
  · go_simp
    refine (works_any W).mono ?_
    rintro e w' ⟨rfl, hk⟩
    exact hK _ _ hk rfl
  go_simp
  generalize hZ : (Act.mk _ _) = Z
  refine hK Z ?_
  subst hZ
  clear hK K
  refine kAll_p (fun K hK => ?_)
  go_simp
  generalize hZ : (Act.mk _ _) = Z
  refine hK Z ?_
  subst hZ
  clear hK K
  refine kAll_p (fun K hK => ?_)
  go_simp
  generalize hZ : (Act.mk _ _) = Z
  refine hK Z ?_
  subst hZ
  clear hK K
  refine kAll_pw (by kernel_rfl) (fun K hK => ?_)
  go_simp
  generalize hZ : (Act.mk _ _) = Z
  refine hK Z ?_
  subst hZ
  clear hK K
  refine kAll_tn _ (fun v W W' hk h => h.keep0 hk) (fun W hW hF => kStep_w (by kernel_rfl) fun K Q hK => ?_) (fun u0 K hK => ?_)
  · go_simp
    exact hK _ _ ((Keep.refl _ _).alloc _) ⟨_, _, _, [(A0, n0, c0)], rfl, rfl, rfl, RdK.of_blk (Blk.new _ _ _) 1 1 rfl⟩
  go_simp
  generalize hZ : (Act.mk _ _) = Z
  refine hK Z ?_
  subst hZ
  clear hK K
  refine kAll_dn _ (fun W hW hF => kStep_w (by kernel_rfl) fun K Q hK => ?_) (fun K hK => ?_)
  · have h0 : (fun v W => IsLg W v [n0]) u0 W := kHas_at hF 0 rfl (by kernel_rfl)
    go_simp
    refine (large_is false h0 (by simp) HBig.out).mono ?_
    rintro e w' ⟨rfl, hk⟩
    exact hK _ _ hk rfl
  go_simp
  generalize hZ : (Act.mk _ _) = Z
  refine hK Z ?_
  subst hZ
  clear hK K
  refine kAll_p (fun K hK => ?_)
  go_simp
  generalize hZ : (Act.mk _ _) = Z
  refine hK Z ?_
  subst hZ
  clear hK K
  refine kAll_p (fun K hK => ?_)
  go_simp
  generalize hZ : (Act.mk _ _) = Z
  refine hK Z ?_
  subst hZ
  clear hK K
  refine kAll_dn _ (fun W hW hF => kStep_w (by kernel_rfl) fun K Q hK => ?_) (fun K hK => ?_)
  · have e0 := (B4.out.keep hW (fun h => h)).cell 0
    have e1 := (B4.out.keep hW (fun h => h)).cell 1
    simp at e0 e1
    go_simp
    exact hK _ _ (Keep.refl _ _) rfl
  go_simp
  generalize hZ : (Act.mk _ _) = Z
  refine hK Z ?_
  subst hZ
  clear hK K
  refine kAll_dn _ (fun W hW hF => kStep_w (by kernel_rfl) fun K Q hK => ?_) (fun K hK => ?_)
  · have e0 := (B5.out.keep hW (fun h => h)).cell 0
    have e1 := (B5.out.keep hW (fun h => h)).cell 1
    simp at e0 e1
    go_simp
    exact hK _ _ (Keep.refl _ _) rfl
  go_simp
  generalize hZ : (Act.mk _ _) = Z
  refine hK Z ?_
  subst hZ
  clear hK K
  refine kAll_pw (by kernel_rfl) (fun K hK => ?_)
  go_simp
  generalize hZ : (Act.mk _ _) = Z
  refine hK Z ?_
  subst hZ
  clear hK K
  refine kAll_p (fun K hK => ?_)
  go_simp
  generalize hZ : (Act.mk _ _) = Z
  refine hK Z ?_
  subst hZ
  clear hK K
  refine kAll_nil (fun W1 hW hF => ?_)
  clear hF
  have hk_2 : Keep (fun _ => False) _ W1 := hW
  have B_3 := Lib.hid (B4.out.keep hk_2 (fun h => h))
  have B_4 := Lib.hid (B5.out.keep hk_2 (fun h => h))
  have F_5 := Lib.hid (fun W h => F0.out W (keep0_trans _ _ _ hk_2 h))
  have K_6 := Lib.hid (keep0_trans _ _ _ K0.out hk_2)
  clear hk_2 B4 B5 F0 K0
  clear hW
  go_upto_region 3 with (fail)
  refine wp_region_kord (Keep (fun _ => False)) (Keep.refl _) keep0_trans 3 (Ts := [none, some (.inl (idV (aa, ai))), some (.inr (fun v W => ∃ u, v = .tuple #[u, .int .i64 m1] ∧ IsTB 151 W u (upL l0 (aa, ai))))]) ?_
  simp only [List.take, List.drop]
  refine kAll_p (fun K hK => ?_)
  go_simp
  generalize hZ : (Act.mk _ _) = Z
  refine hK Z ?_
  subst hZ
  clear hK K
  refine kAll_dn _ (fun W hW hF => kStep_of fun K Q hK => ?_) (fun K hK => ?_)
  · have e0 := (B_3.out.keep hW (fun h => h)).cell 0
    have e1 := (B_3.out.keep hW (fun h => h)).cell 1
    simp at e0 e1
    go_simp
    exact hK _ _ (Keep.refl _ _) rfl
  go_simp
  generalize hZ : (Act.mk _ _) = Z
  refine hK Z ?_
  subst hZ
  clear hK K
  refine kAll_tn _ (fun v W W' (hk : Keep (fun _ => False) W W') ⟨u, e, hb⟩ => ⟨u, e, IsTB.keep0 hb hk⟩) (fun W hW hF => kStep_of fun K Q hK => ?_) (fun u0 K hK => ?_)
  · have h0 := F_5.out W (hW)
    go_simp
    refine (upI_is (aa, ai) h0 (by decide)).mono ?_
    rintro e w' ⟨u, rfl, hu, hk⟩
    rw [HE1.out]
    exact hK _ _ hk ⟨u, rfl, hu⟩
  go_simp
  generalize hZ : (Act.mk _ _) = Z
  refine hK Z ?_
  subst hZ
  clear hK K
  refine kAll_nil (fun W7 hW hF => ?_)
  have hu : (fun v W => ∃ u, v = .tuple #[u, .int .i64 m1] ∧ IsTB 151 W u (upL l0 (aa, ai))) u0 W7 := kAllHas_at hF 0 rfl
  obtain ⟨u1, rfl, hu⟩ := hu
  have Fx : Hid (∀ W, Keep (fun _ => False) W7 W → IsTB 151 W u1 (upL l0 (aa, ai))) := Lib.hid fun W h => IsTB.keep0 hu h
  clear hu
  clear hF
  have hk_8 : Keep (fun _ => False) _ W7 := hW
  have B_9 := Lib.hid (B_3.out.keep hk_8 (fun h => h))
  have B_10 := Lib.hid (B_4.out.keep hk_8 (fun h => h))
  have F_11 := Lib.hid (fun W h => F_5.out W (keep0_trans _ _ _ hk_8 h))
  have K_12 := Lib.hid (keep0_trans _ _ _ K_6.out hk_8)
  clear hk_8 B_3 B_4 F_5 K_6
  clear hW
  go_upto_region 4 with (fail)
  refine wp_region_kord (Keep (fun _ => False)) (Keep.refl _) keep0_trans 3 (Ts := [none, some (.inl (idV (ba, bi))), some (.inr (fun v W => ∃ u, v = .tuple #[u, .int .i64 m2] ∧ IsTB 151 W u (upL l0 (ba, bi))))]) ?_
  simp only [List.take, List.drop]
  refine kAll_p (fun K hK => ?_)
  go_simp
  generalize hZ : (Act.mk _ _) = Z
  refine hK Z ?_
  subst hZ
  clear hK K
  refine kAll_dn _ (fun W hW hF => kStep_of fun K Q hK => ?_) (fun K hK => ?_)
  · have e0 := (B_10.out.keep hW (fun h => h)).cell 0
    have e1 := (B_10.out.keep hW (fun h => h)).cell 1
    simp at e0 e1
    go_simp
    exact hK _ _ (Keep.refl _ _) rfl
  go_simp
  generalize hZ : (Act.mk _ _) = Z
  refine hK Z ?_
  subst hZ
  clear hK K
  refine kAll_tn _ (fun v W W' (hk : Keep (fun _ => False) W W') ⟨u, e, hb⟩ => ⟨u, e, IsTB.keep0 hb hk⟩) (fun W hW hF => kStep_of fun K Q hK => ?_) (fun u0 K hK => ?_)
  · have h0 := F_11.out W (hW)
    go_simp
    refine (upI_is (ba, bi) h0 (by decide)).mono ?_
    rintro e w' ⟨u, rfl, hu, hk⟩
    rw [HE2.out]
    exact hK _ _ hk ⟨u, rfl, hu⟩
  go_simp
  generalize hZ : (Act.mk _ _) = Z
  refine hK Z ?_
  subst hZ
  clear hK K
  refine kAll_nil (fun W13 hW hF => ?_)
  have hu : (fun v W => ∃ u, v = .tuple #[u, .int .i64 m2] ∧ IsTB 151 W u (upL l0 (ba, bi))) u0 W13 := kAllHas_at hF 0 rfl
  obtain ⟨u2, rfl, hu⟩ := hu
  have Fy : Hid (∀ W, Keep (fun _ => False) W13 W → IsTB 151 W u2 (upL l0 (ba, bi))) := Lib.hid fun W h => IsTB.keep0 hu h
  clear hu
  clear hF
  have hk_14 : Keep (fun _ => False) _ W13 := hW
  have B_15 := Lib.hid (B_9.out.keep hk_14 (fun h => h))
  have B_16 := Lib.hid (B_10.out.keep hk_14 (fun h => h))
  have F_17 := Lib.hid (fun W h => F_11.out W (keep0_trans _ _ _ hk_14 h))
  have F_18 := Lib.hid (fun W h => Fx.out W (keep0_trans _ _ _ hk_14 h))
  have K_19 := Lib.hid (keep0_trans _ _ _ K_12.out hk_14)
  clear hk_14 B_9 B_10 F_11 Fx K_12
  clear hW
  go_upto_region 5 with (fail)
  refine wp_region_kord (Keep (fun _ => False)) (Keep.refl _) keep0_trans 6 (Ts := [none, none, none, none, none, none]) ?_
  simp only [List.take, List.drop]
  refine kAll_p (fun K hK => ?_)
  go_simp
  generalize hZ : (Act.mk _ _) = Z
  refine hK Z ?_
  subst hZ
  clear hK K
  refine kAll_p (fun K hK => ?_)
  go_simp
  generalize hZ : (Act.mk _ _) = Z
  refine hK Z ?_
  subst hZ
  clear hK K
  refine kAll_p (fun K hK => ?_)
  go_simp
  generalize hZ : (Act.mk _ _) = Z
  refine hK Z ?_
  subst hZ
  clear hK K
  refine kAll_skip (by kernel_rfl) ?_
  refine kAll_skip (by kernel_rfl) ?_
  refine kAll_p (fun K hK => ?_)
  go_simp
  generalize hZ : (Act.mk _ _) = Z
  refine hK Z ?_
  subst hZ
  clear hK K
  refine kAll_nil (fun W20 hW hF => ?_)
  clear hF
  have hk_21 : Keep (fun _ => False) _ W20 := hW
  have B_22 := Lib.hid (B_15.out.keep hk_21 (fun h => h))
  have B_23 := Lib.hid (B_16.out.keep hk_21 (fun h => h))
  have F_24 := Lib.hid (fun W h => F_17.out W (keep0_trans _ _ _ hk_21 h))
  have F_25 := Lib.hid (fun W h => F_18.out W (keep0_trans _ _ _ hk_21 h))
  have F_26 := Lib.hid (fun W h => Fy.out W (keep0_trans _ _ _ hk_21 h))
  have K_27 := Lib.hid (keep0_trans _ _ _ K_19.out hk_21)
  clear hk_21 B_15 B_16 F_17 F_18 Fy K_19
  clear hW
  go_wp2
  go_ret
  exact ⟨rfl, K_27.out⟩
set_option maxRecDepth 100000 in
set_option maxHeartbeats 4000000 in
theorem apart_e2 (A0 : Option Addr) (n0 c0 : Nat) (aa ai ba bi : Int) (w : World) (HBig : Hid ([n0].any (fun x => decide (150 < x)) = false)) (E : ∀ W, (binOp .eql 28 (idV (aa, ai)) (idV (ba, bi))).run Try.prog W = .ok (.bool false) W) (G : Try.prog.eqGuardType Try.prog.depth 28 = false) (l0 : List Tick) (HF0 : Hid (∀ W, Keep (fun _ => False) w W → IsTB 150 W (.slice A0 n0 c0) l0))
    (m2 : Int) (hm2 : (m2 != 0) = true) (HE1 : Hid (upE l0 (aa, ai) = 0)) (HL1 : Hid (upL l0 (aa, ai) = upC l0 (aa, ai))) (HE2 : Hid (upE l0 (ba, bi) = m2)) :
    Calls Try.prog 7 #[.slice A0 n0 c0, idV (aa, ai), idV (ba, bi)] w (Tell (.bool true) w) := by
  have K0 : Hid (Keep (fun _ => False) w ((w.alloc (.cells #[.int .i64 aa, .int .i64 ai] 28)).alloc (.cells #[.int .i64 ba, .int .i64 bi] 28))) := Lib.hid (((Keep.refl _ w).alloc _).alloc _)
  have B4 : Hid (Blk ((w.alloc (.cells #[.int .i64 aa, .int .i64 ai] 28)).alloc (.cells #[.int .i64 ba, .int .i64 bi] 28)) w.heap.size 28 #[.int .i64 aa, .int .i64 ai]) := Lib.hid ((Blk.new _ _ _).alloc _)
  have B5 : Hid (Blk ((w.alloc (.cells #[.int .i64 aa, .int .i64 ai] 28)).alloc (.cells #[.int .i64 ba, .int .i64 bi] 28)) (w.heap.size + 1) 28 #[.int .i64 ba, .int .i64 bi]) := Lib.hid (Blk.new_ (by simp) _ _)
  go_enter Try.func7, Try.ntmps7
  go_upto_region 1 with (fail)
  generalize hW0 : (w.alloc (.cells #[.int .i64 aa, .int .i64 ai] 28)).alloc (.cells #[.int .i64 ba, .int .i64 bi] 28) = W0 at *
  clear hW0
  have F0 : Hid (∀ W, Keep (fun _ => False) W0 W → IsTB 150 W (.slice A0 n0 c0) l0) := Lib.hid fun W h => HF0.out W (keep0_trans _ _ _ K0.out h)
  refine wp_region_kord (Keep (fun _ => False)) (Keep.refl _) keep0_trans 12 (Ts := [some (.inl (.bool true)), none, none, none, some (.inr (fun v W => IsLg W v [n0])), some (.inl (.bool false)), none, none, some (.inl (idV (aa, ai))), some (.inl (idV (ba, bi))), none, none]) ?_
  simp only [List.take, List.drop]
  refine kAll_dn _ (fun W hW hF => kStep_of fun K Q hK => ?_) (fun K hK => ?_)
  · go_simp
    refine (works_any W).mono ?_
    rintro e w' ⟨rfl, hk⟩
    exact hK _ _ hk rfl
  go_simp
  generalize hZ : (Act.mk _ _) = Z
  refine hK Z ?_
  subst hZ
  clear hK K
  refine kAll_p (fun K hK => ?_)
  go_simp
  generalize hZ : (Act.mk _ _) = Z
  refine hK Z ?_
  subst hZ
  clear hK K
  refine kAll_p (fun K hK => ?_)
  go_simp
  generalize hZ : (Act.mk _ _) = Z
  refine hK Z ?_
  subst hZ
  clear hK K
  refine kAll_pw (by kernel_rfl) (fun K hK => ?_)
  go_simp
  generalize hZ : (Act.mk _ _) = Z
  refine hK Z ?_
  subst hZ
  clear hK K
  refine kAll_tn _ (fun v W W' hk h => h.keep0 hk) (fun W hW hF => kStep_w (by kernel_rfl) fun K Q hK => ?_) (fun u0 K hK => ?_)
  · go_simp
    exact hK _ _ ((Keep.refl _ _).alloc _) ⟨_, _, _, [(A0, n0, c0)], rfl, rfl, rfl, RdK.of_blk (Blk.new _ _ _) 1 1 rfl⟩
  go_simp
  generalize hZ : (Act.mk _ _) = Z
  refine hK Z ?_
  subst hZ
  clear hK K
  refine kAll_dn _ (fun W hW hF => kStep_w (by kernel_rfl) fun K Q hK => ?_) (fun K hK => ?_)
  · have h0 : (fun v W => IsLg W v [n0]) u0 W := kHas_at hF 0 rfl (by kernel_rfl)
    go_simp
    refine (large_is false h0 (by simp) HBig.out).mono ?_
    rintro e w' ⟨rfl, hk⟩
    exact hK _ _ hk rfl
  go_simp
  generalize hZ : (Act.mk _ _) = Z
  refine hK Z ?_
  subst hZ
  clear hK K
  refine kAll_p (fun K hK => ?_)
  go_simp
  generalize hZ : (Act.mk _ _) = Z
  refine hK Z ?_
  subst hZ
  clear hK K
  refine kAll_p (fun K hK => ?_)
  go_simp
  generalize hZ : (Act.mk _ _) = Z
  refine hK Z ?_
  subst hZ
  clear hK K
  refine kAll_dn _ (fun W hW hF => kStep_w (by kernel_rfl) fun K Q hK => ?_) (fun K hK => ?_)
  · have e0 := (B4.out.keep hW (fun h => h)).cell 0
    have e1 := (B4.out.keep hW (fun h => h)).cell 1
    simp at e0 e1
    go_simp
    exact hK _ _ (Keep.refl _ _) rfl
  go_simp
  generalize hZ : (Act.mk _ _) = Z
  refine hK Z ?_
  subst hZ
  clear hK K
  refine kAll_dn _ (fun W hW hF => kStep_w (by kernel_rfl) fun K Q hK => ?_) (fun K hK => ?_)
  · have e0 := (B5.out.keep hW (fun h => h)).cell 0
    have e1 := (B5.out.keep hW (fun h => h)).cell 1
    simp at e0 e1
    go_simp
    exact hK _ _ (Keep.refl _ _) rfl
  go_simp
  generalize hZ : (Act.mk _ _) = Z
  refine hK Z ?_
  subst hZ
  clear hK K
  refine kAll_pw (by kernel_rfl) (fun K hK => ?_)
  go_simp
  generalize hZ : (Act.mk _ _) = Z
  refine hK Z ?_
  subst hZ
  clear hK K
  refine kAll_p (fun K hK => ?_)
  go_simp
  generalize hZ : (Act.mk _ _) = Z
  refine hK Z ?_
  subst hZ
  clear hK K
  refine kAll_nil (fun W1 hW hF => ?_)
  clear hF
  have hk_2 : Keep (fun _ => False) _ W1 := hW
  have B_3 := Lib.hid (B4.out.keep hk_2 (fun h => h))
  have B_4 := Lib.hid (B5.out.keep hk_2 (fun h => h))
  have F_5 := Lib.hid (fun W h => F0.out W (keep0_trans _ _ _ hk_2 h))
  have K_6 := Lib.hid (keep0_trans _ _ _ K0.out hk_2)
  clear hk_2 B4 B5 F0 K0
  clear hW
  go_upto_region 3 with (fail)
  refine wp_region_kord (Keep (fun _ => False)) (Keep.refl _) keep0_trans 3 (Ts := [none, some (.inl (idV (aa, ai))), some (.inr (fun v W => ∃ u, v = .tuple #[u, .int .i64 0] ∧ IsTB 151 W u (upL l0 (aa, ai))))]) ?_
  simp only [List.take, List.drop]
  refine kAll_p (fun K hK => ?_)
  go_simp
  generalize hZ : (Act.mk _ _) = Z
  refine hK Z ?_
  subst hZ
  clear hK K
  refine kAll_dn _ (fun W hW hF => kStep_of fun K Q hK => ?_) (fun K hK => ?_)
  · have e0 := (B_3.out.keep hW (fun h => h)).cell 0
    have e1 := (B_3.out.keep hW (fun h => h)).cell 1
    simp at e0 e1
    go_simp
    exact hK _ _ (Keep.refl _ _) rfl
  go_simp
  generalize hZ : (Act.mk _ _) = Z
  refine hK Z ?_
  subst hZ
  clear hK K
  refine kAll_tn _ (fun v W W' (hk : Keep (fun _ => False) W W') ⟨u, e, hb⟩ => ⟨u, e, IsTB.keep0 hb hk⟩) (fun W hW hF => kStep_of fun K Q hK => ?_) (fun u0 K hK => ?_)
  · have h0 := F_5.out W (hW)
    go_simp
    refine (upI_is (aa, ai) h0 (by decide)).mono ?_
    rintro e w' ⟨u, rfl, hu, hk⟩
    rw [HE1.out]
    exact hK _ _ hk ⟨u, rfl, hu⟩
  go_simp
  generalize hZ : (Act.mk _ _) = Z
  refine hK Z ?_
  subst hZ
  clear hK K
  refine kAll_nil (fun W7 hW hF => ?_)
  have hu : (fun v W => ∃ u, v = .tuple #[u, .int .i64 0] ∧ IsTB 151 W u (upL l0 (aa, ai))) u0 W7 := kAllHas_at hF 0 rfl
  obtain ⟨u1, rfl, hu⟩ := hu
  rw [HL1.out] at hu
  have Fx : Hid (∀ W, Keep (fun _ => False) W7 W → IsTB 151 W u1 (upC l0 (aa, ai))) := Lib.hid fun W h => IsTB.keep0 hu h
  clear hu
  clear hF
  have hk_8 : Keep (fun _ => False) _ W7 := hW
  have B_9 := Lib.hid (B_3.out.keep hk_8 (fun h => h))
  have B_10 := Lib.hid (B_4.out.keep hk_8 (fun h => h))
  have F_11 := Lib.hid (fun W h => F_5.out W (keep0_trans _ _ _ hk_8 h))
  have K_12 := Lib.hid (keep0_trans _ _ _ K_6.out hk_8)
  clear hk_8 B_3 B_4 F_5 K_6
  clear hW
  go_upto_region 4 with (fail)
  refine wp_region_kord (Keep (fun _ => False)) (Keep.refl _) keep0_trans 3 (Ts := [none, some (.inl (idV (ba, bi))), some (.inr (fun v W => ∃ u, v = .tuple #[u, .int .i64 m2] ∧ IsTB 151 W u (upL l0 (ba, bi))))]) ?_
  simp only [List.take, List.drop]
  refine kAll_p (fun K hK => ?_)
  go_simp
  generalize hZ : (Act.mk _ _) = Z
  refine hK Z ?_
  subst hZ
  clear hK K
  refine kAll_dn _ (fun W hW hF => kStep_of fun K Q hK => ?_) (fun K hK => ?_)
  · have e0 := (B_10.out.keep hW (fun h => h)).cell 0
    have e1 := (B_10.out.keep hW (fun h => h)).cell 1
    simp at e0 e1
    go_simp
    exact hK _ _ (Keep.refl _ _) rfl
  go_simp
  generalize hZ : (Act.mk _ _) = Z
  refine hK Z ?_
  subst hZ
  clear hK K
  refine kAll_tn _ (fun v W W' (hk : Keep (fun _ => False) W W') ⟨u, e, hb⟩ => ⟨u, e, IsTB.keep0 hb hk⟩) (fun W hW hF => kStep_of fun K Q hK => ?_) (fun u0 K hK => ?_)
  · have h0 := F_11.out W (hW)
    go_simp
    refine (upI_is (ba, bi) h0 (by decide)).mono ?_
    rintro e w' ⟨u, rfl, hu, hk⟩
    rw [HE2.out]
    exact hK _ _ hk ⟨u, rfl, hu⟩
  go_simp
  generalize hZ : (Act.mk _ _) = Z
  refine hK Z ?_
  subst hZ
  clear hK K
  refine kAll_nil (fun W13 hW hF => ?_)
  have hu : (fun v W => ∃ u, v = .tuple #[u, .int .i64 m2] ∧ IsTB 151 W u (upL l0 (ba, bi))) u0 W13 := kAllHas_at hF 0 rfl
  obtain ⟨u2, rfl, hu⟩ := hu
  have Fy : Hid (∀ W, Keep (fun _ => False) W13 W → IsTB 151 W u2 (upL l0 (ba, bi))) := Lib.hid fun W h => IsTB.keep0 hu h
  clear hu
  clear hF
  have hk_14 : Keep (fun _ => False) _ W13 := hW
  have B_15 := Lib.hid (B_9.out.keep hk_14 (fun h => h))
  have B_16 := Lib.hid (B_10.out.keep hk_14 (fun h => h))
  have F_17 := Lib.hid (fun W h => F_11.out W (keep0_trans _ _ _ hk_14 h))
  have F_18 := Lib.hid (fun W h => Fx.out W (keep0_trans _ _ _ hk_14 h))
  have K_19 := Lib.hid (keep0_trans _ _ _ K_12.out hk_14)
  clear hk_14 B_9 B_10 F_11 Fx K_12
  clear hW
  go_upto_region 5 with (fail)
  refine wp_region_kord (Keep (fun _ => False)) (Keep.refl _) keep0_trans 6 (Ts := [none, none, none, none, none, none]) ?_
  simp only [List.take, List.drop]
  refine kAll_p (fun K hK => ?_)
  go_simp
  generalize hZ : (Act.mk _ _) = Z
  refine hK Z ?_
  subst hZ
  clear hK K
  refine kAll_p (fun K hK => ?_)
  go_simp
  generalize hZ : (Act.mk _ _) = Z
  refine hK Z ?_
  subst hZ
  clear hK K
  refine kAll_p (fun K hK => ?_)
  go_simp
  generalize hZ : (Act.mk _ _) = Z
  refine hK Z ?_
  subst hZ
  clear hK K
  refine kAll_pw (by kernel_rfl) (fun K hK => ?_)
  go_simp
  generalize hZ : (Act.mk _ _) = Z
  refine hK Z ?_
  subst hZ
  clear hK K
  refine kAll_pw (by kernel_rfl) (fun K hK => ?_)
  go_simp
  generalize hZ : (Act.mk _ _) = Z
  refine hK Z ?_
  subst hZ
  clear hK K
  refine kAll_p (fun K hK => ?_)
  go_simp
  generalize hZ : (Act.mk _ _) = Z
  refine hK Z ?_
  subst hZ
  clear hK K
  refine kAll_nil (fun W20 hW hF => ?_)
  clear hF
  have hk_21 : Keep (fun _ => False) _ W20 := hW
  have B_22 := Lib.hid (B_15.out.keep hk_21 (fun h => h))
  have B_23 := Lib.hid (B_16.out.keep hk_21 (fun h => h))
  have F_24 := Lib.hid (fun W h => F_17.out W (keep0_trans _ _ _ hk_21 h))
  have F_25 := Lib.hid (fun W h => F_18.out W (keep0_trans _ _ _ hk_21 h))
  have F_26 := Lib.hid (fun W h => Fy.out W (keep0_trans _ _ _ hk_21 h))
  have K_27 := Lib.hid (keep0_trans _ _ _ K_19.out hk_21)
  clear hk_21 B_15 B_16 F_17 F_18 Fy K_19
  clear hW
  go_wp2
  go_ret
  exact ⟨rfl, K_27.out⟩
set_option maxRecDepth 100000 in
set_option maxHeartbeats 4000000 in
theorem apart_g1 (A0 : Option Addr) (n0 c0 : Nat) (aa ai ba bi : Int) (w : World) (HBig : Hid ([n0].any (fun x => decide (150 < x)) = false)) (E : ∀ W, (binOp .eql 28 (idV (aa, ai)) (idV (ba, bi))).run Try.prog W = .ok (.bool false) W) (G : Try.prog.eqGuardType Try.prog.depth 28 = false) (l0 : List Tick) (HF0 : Hid (∀ W, Keep (fun _ => False) w W → IsTB 150 W (.slice A0 n0 c0) l0))
    (m3 : Int) (hm3 : (m3 != 0) = true) (HE1 : Hid (upE l0 (aa, ai) = 0)) (HL1 : Hid (upL l0 (aa, ai) = upC l0 (aa, ai))) (HE2 : Hid (upE l0 (ba, bi) = 0)) (HL2 : Hid (upL l0 (ba, bi) = upC l0 (ba, bi))) (HC1 : Hid (cmpM (upC l0 (aa, ai)) (upC l0 (ba, bi)) = 4)) (HC2 : Hid (cmpM (upC l0 (aa, ai)) (joinM (upC l0 (aa, ai)) (upC l0 (ba, bi))) = 2)) (HC3 : Hid (cmpM (upC l0 (ba, bi)) (joinM (upC l0 (aa, ai)) (upC l0 (ba, bi))) = 2)) (HE3 : Hid (upE (upC l0 (aa, ai)) (ba, bi) = m3)) :
    Calls Try.prog 7 #[.slice A0 n0 c0, idV (aa, ai), idV (ba, bi)] w (Tell (.bool true) w) := by
  have K0 : Hid (Keep (fun _ => False) w ((w.alloc (.cells #[.int .i64 aa, .int .i64 ai] 28)).alloc (.cells #[.int .i64 ba, .int .i64 bi] 28))) := Lib.hid (((Keep.refl _ w).alloc _).alloc _)
  have B4 : Hid (Blk ((w.alloc (.cells #[.int .i64 aa, .int .i64 ai] 28)).alloc (.cells #[.int .i64 ba, .int .i64 bi] 28)) w.heap.size 28 #[.int .i64 aa, .int .i64 ai]) := Lib.hid ((Blk.new _ _ _).alloc _)
  have B5 : Hid (Blk ((w.alloc (.cells #[.int .i64 aa, .int .i64 ai] 28)).alloc (.cells #[.int .i64 ba, .int .i64 bi] 28)) (w.heap.size + 1) 28 #[.int .i64 ba, .int .i64 bi]) := Lib.hid (Blk.new_ (by simp) _ _)
  go_enter Try.func7, Try.ntmps7
  go_upto_region 1 with (fail)
  generalize hW0 : (w.alloc (.cells #[.int .i64 aa, .int .i64 ai] 28)).alloc (.cells #[.int .i64 ba, .int .i64 bi] 28) = W0 at *
  clear hW0
  have F0 : Hid (∀ W, Keep (fun _ => False) W0 W → IsTB 150 W (.slice A0 n0 c0) l0) := Lib.hid fun W h => HF0.out W (keep0_trans _ _ _ K0.out h)
  refine wp_region_kord (Keep (fun _ => False)) (Keep.refl _) keep0_trans 12 (Ts := [some (.inl (.bool true)), none, none, none, some (.inr (fun v W => IsLg W v [n0])), some (.inl (.bool false)), none, none, some (.inl (idV (aa, ai))), some (.inl (idV (ba, bi))), none, none]) ?_
  simp only [List.take, List.drop]
  refine kAll_dn _ (fun W hW hF => kStep_of fun K Q hK => ?_) (fun K hK => ?_)
  · go_simp
    refine (works_any W).mono ?_
    rintro e w' ⟨rfl, hk⟩
    exact hK _ _ hk rfl
  go_simp
  generalize hZ : (Act.mk _ _) = Z
  refine hK Z ?_
  subst hZ
  clear hK K
  refine kAll_p (fun K hK => ?_)
  go_simp
  generalize hZ : (Act.mk _ _) = Z
  refine hK Z ?_
  subst hZ
  clear hK K
  refine kAll_p (fun K hK => ?_)
  go_simp
  generalize hZ : (Act.mk _ _) = Z
  refine hK Z ?_
  subst hZ
  clear hK K
  refine kAll_pw (by kernel_rfl) (fun K hK => ?_)
  go_simp
  generalize hZ : (Act.mk _ _) = Z
  refine hK Z ?_
  subst hZ
  clear hK K
  refine kAll_tn _ (fun v W W' hk h => h.keep0 hk) (fun W hW hF => kStep_w (by kernel_rfl) fun K Q hK => ?_) (fun u0 K hK => ?_)
  · go_simp
    exact hK _ _ ((Keep.refl _ _).alloc _) ⟨_, _, _, [(A0, n0, c0)], rfl, rfl, rfl, RdK.of_blk (Blk.new _ _ _) 1 1 rfl⟩
  go_simp
  generalize hZ : (Act.mk _ _) = Z
  refine hK Z ?_
  subst hZ
  clear hK K
  refine kAll_dn _ (fun W hW hF => kStep_w (by kernel_rfl) fun K Q hK => ?_) (fun K hK => ?_)
  · have h0 : (fun v W => IsLg W v [n0]) u0 W := kHas_at hF 0 rfl (by kernel_rfl)
    go_simp
    refine (large_is false h0 (by simp) HBig.out).mono ?_
    rintro e w' ⟨rfl, hk⟩
    exact hK _ _ hk rfl
  go_simp
  generalize hZ : (Act.mk _ _) = Z
  refine hK Z ?_
  subst hZ
  clear hK K
  refine kAll_p (fun K hK => ?_)
  go_simp
  generalize hZ : (Act.mk _ _) = Z
  refine hK Z ?_
  subst hZ
  clear hK K
  refine kAll_p (fun K hK => ?_)
  go_simp
  generalize hZ : (Act.mk _ _) = Z
  refine hK Z ?_
  subst hZ
  clear hK K
  refine kAll_dn _ (fun W hW hF => kStep_w (by kernel_rfl) fun K Q hK => ?_) (fun K hK => ?_)
  · have e0 := (B4.out.keep hW (fun h => h)).cell 0
    have e1 := (B4.out.keep hW (fun h => h)).cell 1
    simp at e0 e1
    go_simp
    exact hK _ _ (Keep.refl _ _) rfl
  go_simp
  generalize hZ : (Act.mk _ _) = Z
  refine hK Z ?_
  subst hZ
  clear hK K
  refine kAll_dn _ (fun W hW hF => kStep_w (by kernel_rfl) fun K Q hK => ?_) (fun K hK => ?_)
  · have e0 := (B5.out.keep hW (fun h => h)).cell 0
    have e1 := (B5.out.keep hW (fun h => h)).cell 1
    simp at e0 e1
    go_simp
    exact hK _ _ (Keep.refl _ _) rfl
  go_simp
  generalize hZ : (Act.mk _ _) = Z
  refine hK Z ?_
  subst hZ
  clear hK K
  refine kAll_pw (by kernel_rfl) (fun K hK => ?_)
  go_simp
  generalize hZ : (Act.mk _ _) = Z
  refine hK Z ?_
  subst hZ
  clear hK K
  refine kAll_p (fun K hK => ?_)
  go_simp
  generalize hZ : (Act.mk _ _) = Z
  refine hK Z ?_
  subst hZ
  clear hK K
  refine kAll_nil (fun W1 hW hF => ?_)
  clear hF
  have hk_2 : Keep (fun _ => False) _ W1 := hW
  have B_3 := Lib.hid (B4.out.keep hk_2 (fun h => h))
  have B_4 := Lib.hid (B5.out.keep hk_2 (fun h => h))
  have F_5 := Lib.hid (fun W h => F0.out W (keep0_trans _ _ _ hk_2 h))
  have K_6 := Lib.hid (keep0_trans _ _ _ K0.out hk_2)
  clear hk_2 B4 B5 F0 K0
  clear hW
  go_upto_region 3 with (fail)
  refine wp_region_kord (Keep (fun _ => False)) (Keep.refl _) keep0_trans 3 (Ts := [none, some (.inl (idV (aa, ai))), some (.inr (fun v W => ∃ u, v = .tuple #[u, .int .i64 0] ∧ IsTB 151 W u (upL l0 (aa, ai))))]) ?_
  simp only [List.take, List.drop]
  refine kAll_p (fun K hK => ?_)
  go_simp
  generalize hZ : (Act.mk _ _) = Z
  refine hK Z ?_
  subst hZ
  clear hK K
  refine kAll_dn _ (fun W hW hF => kStep_of fun K Q hK => ?_) (fun K hK => ?_)
  · have e0 := (B_3.out.keep hW (fun h => h)).cell 0
    have e1 := (B_3.out.keep hW (fun h => h)).cell 1
    simp at e0 e1
    go_simp
    exact hK _ _ (Keep.refl _ _) rfl
  go_simp
  generalize hZ : (Act.mk _ _) = Z
  refine hK Z ?_
  subst hZ
  clear hK K
  refine kAll_tn _ (fun v W W' (hk : Keep (fun _ => False) W W') ⟨u, e, hb⟩ => ⟨u, e, IsTB.keep0 hb hk⟩) (fun W hW hF => kStep_of fun K Q hK => ?_) (fun u0 K hK => ?_)
  · have h0 := F_5.out W (hW)
    go_simp
    refine (upI_is (aa, ai) h0 (by decide)).mono ?_
    rintro e w' ⟨u, rfl, hu, hk⟩
    rw [HE1.out]
    exact hK _ _ hk ⟨u, rfl, hu⟩
  go_simp
  generalize hZ : (Act.mk _ _) = Z
  refine hK Z ?_
  subst hZ
  clear hK K
  refine kAll_nil (fun W7 hW hF => ?_)
  have hu : (fun v W => ∃ u, v = .tuple #[u, .int .i64 0] ∧ IsTB 151 W u (upL l0 (aa, ai))) u0 W7 := kAllHas_at hF 0 rfl
  obtain ⟨u1, rfl, hu⟩ := hu
  rw [HL1.out] at hu
  have Fx : Hid (∀ W, Keep (fun _ => False) W7 W → IsTB 151 W u1 (upC l0 (aa, ai))) := Lib.hid fun W h => IsTB.keep0 hu h
  clear hu
  clear hF
  have hk_8 : Keep (fun _ => False) _ W7 := hW
  have B_9 := Lib.hid (B_3.out.keep hk_8 (fun h => h))
  have B_10 := Lib.hid (B_4.out.keep hk_8 (fun h => h))
  have F_11 := Lib.hid (fun W h => F_5.out W (keep0_trans _ _ _ hk_8 h))
  have K_12 := Lib.hid (keep0_trans _ _ _ K_6.out hk_8)
  clear hk_8 B_3 B_4 F_5 K_6
  clear hW
  go_upto_region 4 with (fail)
  refine wp_region_kord (Keep (fun _ => False)) (Keep.refl _) keep0_trans 3 (Ts := [none, some (.inl (idV (ba, bi))), some (.inr (fun v W => ∃ u, v = .tuple #[u, .int .i64 0] ∧ IsTB 151 W u (upL l0 (ba, bi))))]) ?_
  simp only [List.take, List.drop]
  refine kAll_p (fun K hK => ?_)
  go_simp
  generalize hZ : (Act.mk _ _) = Z
  refine hK Z ?_
  subst hZ
  clear hK K
  refine kAll_dn _ (fun W hW hF => kStep_of fun K Q hK => ?_) (fun K hK => ?_)
  · have e0 := (B_10.out.keep hW (fun h => h)).cell 0
    have e1 := (B_10.out.keep hW (fun h => h)).cell 1
    simp at e0 e1
    go_simp
    exact hK _ _ (Keep.refl _ _) rfl
  go_simp
  generalize hZ : (Act.mk _ _) = Z
  refine hK Z ?_
  subst hZ
  clear hK K
  refine kAll_tn _ (fun v W W' (hk : Keep (fun _ => False) W W') ⟨u, e, hb⟩ => ⟨u, e, IsTB.keep0 hb hk⟩) (fun W hW hF => kStep_of fun K Q hK => ?_) (fun u0 K hK => ?_)
  · have h0 := F_11.out W (hW)
    go_simp
    refine (upI_is (ba, bi) h0 (by decide)).mono ?_
    rintro e w' ⟨u, rfl, hu, hk⟩
    rw [HE2.out]
    exact hK _ _ hk ⟨u, rfl, hu⟩
  go_simp
  generalize hZ : (Act.mk _ _) = Z
  refine hK Z ?_
  subst hZ
  clear hK K
  refine kAll_nil (fun W13 hW hF => ?_)
  have hu : (fun v W => ∃ u, v = .tuple #[u, .int .i64 0] ∧ IsTB 151 W u (upL l0 (ba, bi))) u0 W13 := kAllHas_at hF 0 rfl
  obtain ⟨u2, rfl, hu⟩ := hu
  rw [HL2.out] at hu
  have Fy : Hid (∀ W, Keep (fun _ => False) W13 W → IsTB 151 W u2 (upC l0 (ba, bi))) := Lib.hid fun W h => IsTB.keep0 hu h
  clear hu
  clear hF
  have hk_14 : Keep (fun _ => False) _ W13 := hW
  have B_15 := Lib.hid (B_9.out.keep hk_14 (fun h => h))
  have B_16 := Lib.hid (B_10.out.keep hk_14 (fun h => h))
  have F_17 := Lib.hid (fun W h => F_11.out W (keep0_trans _ _ _ hk_14 h))
  have F_18 := Lib.hid (fun W h => Fx.out W (keep0_trans _ _ _ hk_14 h))
  have K_19 := Lib.hid (keep0_trans _ _ _ K_12.out hk_14)
  clear hk_14 B_9 B_10 F_11 Fx K_12
  clear hW
  go_upto_region 5 with (fail)
  refine wp_region_kord (Keep (fun _ => False)) (Keep.refl _) keep0_trans 6 (Ts := [none, none, none, none, none, none]) ?_
  simp only [List.take, List.drop]
  refine kAll_p (fun K hK => ?_)
  go_simp
  generalize hZ : (Act.mk _ _) = Z
  refine hK Z ?_
  subst hZ
  clear hK K
  refine kAll_p (fun K hK => ?_)
  go_simp
  generalize hZ : (Act.mk _ _) = Z
  refine hK Z ?_
  subst hZ
  clear hK K
  refine kAll_p (fun K hK => ?_)
  go_simp
  generalize hZ : (Act.mk _ _) = Z
  refine hK Z ?_
  subst hZ
  clear hK K
  refine kAll_pw (by kernel_rfl) (fun K hK => ?_)
  go_simp
  generalize hZ : (Act.mk _ _) = Z
  refine hK Z ?_
  subst hZ
  clear hK K
  refine kAll_pw (by kernel_rfl) (fun K hK => ?_)
  go_simp
  generalize hZ : (Act.mk _ _) = Z
  refine hK Z ?_
  subst hZ
  clear hK K
  refine kAll_p (fun K hK => ?_)
  go_simp
  generalize hZ : (Act.mk _ _) = Z
  refine hK Z ?_
  subst hZ
  clear hK K
  refine kAll_nil (fun W20 hW hF => ?_)
  clear hF
  have hk_21 : Keep (fun _ => False) _ W20 := hW
  have B_22 := Lib.hid (B_15.out.keep hk_21 (fun h => h))
  have B_23 := Lib.hid (B_16.out.keep hk_21 (fun h => h))
  have F_24 := Lib.hid (fun W h => F_17.out W (keep0_trans _ _ _ hk_21 h))
  have F_25 := Lib.hid (fun W h => F_18.out W (keep0_trans _ _ _ hk_21 h))
  have F_26 := Lib.hid (fun W h => Fy.out W (keep0_trans _ _ _ hk_21 h))
  have K_27 := Lib.hid (keep0_trans _ _ _ K_19.out hk_21)
  clear hk_21 B_15 B_16 F_17 F_18 Fy K_19
  clear hW
  go_upto_region 7 with (fail)
  refine wp_region_kord (Keep (fun _ => False)) (Keep.refl _) keep0_trans 4 (Ts := [none, none, some (.inr (fun v W => IsTB 302 W v (joinM (upC l0 (aa, ai)) (upC l0 (ba, bi))))), none]) ?_
  simp only [List.take, List.drop]
  refine kAll_p (fun K hK => ?_)
  go_simp
  generalize hZ : (Act.mk _ _) = Z
  refine hK Z ?_
  subst hZ
  clear hK K
  refine kAll_p (fun K hK => ?_)
  go_simp
  generalize hZ : (Act.mk _ _) = Z
  refine hK Z ?_
  subst hZ
  clear hK K
  refine kAll_tn _ (fun v W W' hk h => h.keep0 hk) (fun W hW hF => kStep_of fun K Q hK => ?_) (fun u0 K hK => ?_)
  · have h0 := F_25.out W (hW)
    have h1 := F_26.out W (hW)
    go_simp
    refine (joinI_any h0 h1 (by decide)).mono ?_
    rintro e w' ⟨u, rfl, hu, hk⟩
    exact hK _ _ hk hu
  go_simp
  generalize hZ : (Act.mk _ _) = Z
  refine hK Z ?_
  subst hZ
  clear hK K
  refine kAll_p (fun K hK => ?_)
  go_simp
  generalize hZ : (Act.mk _ _) = Z
  refine hK Z ?_
  subst hZ
  clear hK K
  refine kAll_nil (fun W28 hW hF => ?_)
  have hf : (fun v W => IsTB 302 W v (joinM (upC l0 (aa, ai)) (upC l0 (ba, bi)))) u0 W28 := kAllHas_at hF 0 rfl
  have Fj : Hid (∀ W, Keep (fun _ => False) W28 W → IsTB 302 W u0 (joinM (upC l0 (aa, ai)) (upC l0 (ba, bi)))) := Lib.hid fun W h => IsTB.keep0 hf h
  clear hf
  clear hF
  have hk_29 : Keep (fun _ => False) _ W28 := hW
  have B_30 := Lib.hid (B_22.out.keep hk_29 (fun h => h))
  have B_31 := Lib.hid (B_23.out.keep hk_29 (fun h => h))
  have F_32 := Lib.hid (fun W h => F_24.out W (keep0_trans _ _ _ hk_29 h))
  have F_33 := Lib.hid (fun W h => F_25.out W (keep0_trans _ _ _ hk_29 h))
  have F_34 := Lib.hid (fun W h => F_26.out W (keep0_trans _ _ _ hk_29 h))
  have K_35 := Lib.hid (keep0_trans _ _ _ K_27.out hk_29)
  clear hk_29 B_22 B_23 F_24 F_25 F_26 K_27
  clear hW
  go_upto_region 8 with (fail)
  refine wp_region_kord (Keep (fun _ => False)) (Keep.refl _) keep0_trans 3 (Ts := [none, some (.inl (idV (ba, bi))), some (.inr (fun v W => ∃ u, v = .tuple #[u, .int .i64 m3] ∧ IsTB 152 W u (upL (upC l0 (aa, ai)) (ba, bi))))]) ?_
  simp only [List.take, List.drop]
  refine kAll_p (fun K hK => ?_)
  go_simp
  generalize hZ : (Act.mk _ _) = Z
  refine hK Z ?_
  subst hZ
  clear hK K
  refine kAll_dn _ (fun W hW hF => kStep_of fun K Q hK => ?_) (fun K hK => ?_)
  · have e0 := (B_31.out.keep hW (fun h => h)).cell 0
    have e1 := (B_31.out.keep hW (fun h => h)).cell 1
    simp at e0 e1
    go_simp
    exact hK _ _ (Keep.refl _ _) rfl
  go_simp
  generalize hZ : (Act.mk _ _) = Z
  refine hK Z ?_
  subst hZ
  clear hK K
  refine kAll_tn _ (fun v W W' (hk : Keep (fun _ => False) W W') ⟨u, e, hb⟩ => ⟨u, e, IsTB.keep0 hb hk⟩) (fun W hW hF => kStep_of fun K Q hK => ?_) (fun u0 K hK => ?_)
  · have h0 := F_33.out W (hW)
    go_simp
    refine (upI_is (ba, bi) h0 (by decide)).mono ?_
    rintro e w' ⟨u, rfl, hu, hk⟩
    rw [HE3.out]
    exact hK _ _ hk ⟨u, rfl, hu⟩
  go_simp
  generalize hZ : (Act.mk _ _) = Z
  refine hK Z ?_
  subst hZ
  clear hK K
  refine kAll_nil (fun W36 hW hF => ?_)
  have hu : (fun v W => ∃ u, v = .tuple #[u, .int .i64 m3] ∧ IsTB 152 W u (upL (upC l0 (aa, ai)) (ba, bi))) u0 W36 := kAllHas_at hF 0 rfl
  obtain ⟨u4, rfl, hu⟩ := hu
  have Fz : Hid (∀ W, Keep (fun _ => False) W36 W → IsTB 152 W u4 (upL (upC l0 (aa, ai)) (ba, bi))) := Lib.hid fun W h => IsTB.keep0 hu h
  clear hu
  clear hF
  have hk_37 : Keep (fun _ => False) _ W36 := hW
  have B_38 := Lib.hid (B_30.out.keep hk_37 (fun h => h))
  have B_39 := Lib.hid (B_31.out.keep hk_37 (fun h => h))
  have F_40 := Lib.hid (fun W h => F_32.out W (keep0_trans _ _ _ hk_37 h))
  have F_41 := Lib.hid (fun W h => F_33.out W (keep0_trans _ _ _ hk_37 h))
  have F_42 := Lib.hid (fun W h => F_34.out W (keep0_trans _ _ _ hk_37 h))
  have F_43 := Lib.hid (fun W h => Fj.out W (keep0_trans _ _ _ hk_37 h))
  have K_44 := Lib.hid (keep0_trans _ _ _ K_35.out hk_37)
  clear hk_37 B_30 B_31 F_32 F_33 F_34 Fj K_35
  clear hW
  go_upto_region 9 with (fail)
  refine wp_region_kord (Keep (fun _ => False)) (Keep.refl _) keep0_trans 26 (Ts := [none, none, some (.inl (.int .u8 4)), none, none, none, none, some (.inl (.int .u8 2)), none, none, none, none, none, some (.inl (.int .u8 2)), none, none, none, none, none, none, none, none, none, none, none, none]) ?_
  simp only [List.take, List.drop]
  refine kAll_p (fun K hK => ?_)
  go_simp
  generalize hZ : (Act.mk _ _) = Z
  refine hK Z ?_
  subst hZ
  clear hK K
  refine kAll_p (fun K hK => ?_)
  go_simp
  generalize hZ : (Act.mk _ _) = Z
  refine hK Z ?_
  subst hZ
  clear hK K
  refine kAll_dn _ (fun W hW hF => kStep_of fun K Q hK => ?_) (fun K hK => ?_)
  · have h0 := F_41.out W (hW)
    have h1 := F_42.out W (hW)
    go_simp
    refine (cmpI_is 4 h0 h1 (by decide) HC1.out).mono ?_
    rintro e w' ⟨rfl, hk⟩
    exact hK _ _ hk rfl
  go_simp
  generalize hZ : (Act.mk _ _) = Z
  refine hK Z ?_
  subst hZ
  clear hK K
  refine kAll_p (fun K hK => ?_)
  go_simp
  generalize hZ : (Act.mk _ _) = Z
  refine hK Z ?_
  subst hZ
  clear hK K
  refine kAll_p (fun K hK => ?_)
  go_simp
  generalize hZ : (Act.mk _ _) = Z
  refine hK Z ?_
  subst hZ
  clear hK K
  refine kAll_pw (by kernel_rfl) (fun K hK => ?_)
  go_simp
  generalize hZ : (Act.mk _ _) = Z
  refine hK Z ?_
  subst hZ
  clear hK K
  refine kAll_pw (by kernel_rfl) (fun K hK => ?_)
  go_simp
  generalize hZ : (Act.mk _ _) = Z
  refine hK Z ?_
  subst hZ
  clear hK K
  refine kAll_dn _ (fun W hW hF => kStep_w (by kernel_rfl) fun K Q hK => ?_) (fun K hK => ?_)
  · have h0 := F_41.out W (hW)
    have h1 := F_43.out W (hW)
    go_simp
    refine (cmpI_is 2 h0 h1 (by decide) HC2.out).mono ?_
    rintro e w' ⟨rfl, hk⟩
    exact hK _ _ hk rfl
  go_simp
  generalize hZ : (Act.mk _ _) = Z
  refine hK Z ?_
  subst hZ
  clear hK K
  refine kAll_pw (by kernel_rfl) (fun K hK => ?_)
  go_simp
  generalize hZ : (Act.mk _ _) = Z
  refine hK Z ?_
  subst hZ
  clear hK K
  refine kAll_p (fun K hK => ?_)
  go_simp
  generalize hZ : (Act.mk _ _) = Z
  refine hK Z ?_
  subst hZ
  clear hK K
  refine kAll_p (fun K hK => ?_)
  go_simp
  generalize hZ : (Act.mk _ _) = Z
  refine hK Z ?_
  subst hZ
  clear hK K
  refine kAll_pw (by kernel_rfl) (fun K hK => ?_)
  go_simp
  generalize hZ : (Act.mk _ _) = Z
  refine hK Z ?_
  subst hZ
  clear hK K
  refine kAll_pw (by kernel_rfl) (fun K hK => ?_)
  go_simp
  generalize hZ : (Act.mk _ _) = Z
  refine hK Z ?_
  subst hZ
  clear hK K
  refine kAll_dn _ (fun W hW hF => kStep_w (by kernel_rfl) fun K Q hK => ?_) (fun K hK => ?_)
  · have h0 := F_42.out W (hW)
    have h1 := F_43.out W (hW)
    go_simp
    refine (cmpI_is 2 h0 h1 (by decide) HC3.out).mono ?_
    rintro e w' ⟨rfl, hk⟩
    exact hK _ _ hk rfl
  go_simp
  generalize hZ : (Act.mk _ _) = Z
  refine hK Z ?_
  subst hZ
  clear hK K
  refine kAll_pw (by kernel_rfl) (fun K hK => ?_)
  go_simp
  generalize hZ : (Act.mk _ _) = Z
  refine hK Z ?_
  subst hZ
  clear hK K
  refine kAll_p (fun K hK => ?_)
  go_simp
  generalize hZ : (Act.mk _ _) = Z
  refine hK Z ?_
  subst hZ
  clear hK K
  refine kAll_p (fun K hK => ?_)
  go_simp
  generalize hZ : (Act.mk _ _) = Z
  refine hK Z ?_
  subst hZ
  clear hK K
  refine kAll_pw (by kernel_rfl) (fun K hK => ?_)
  go_simp
  generalize hZ : (Act.mk _ _) = Z
  refine hK Z ?_
  subst hZ
  clear hK K
  refine kAll_pw (by kernel_rfl) (fun K hK => ?_)
  go_simp
  generalize hZ : (Act.mk _ _) = Z
  refine hK Z ?_
  subst hZ
  clear hK K
  refine kAll_pw (by kernel_rfl) (fun K hK => ?_)
  go_simp
  generalize hZ : (Act.mk _ _) = Z
  refine hK Z ?_
  subst hZ
  clear hK K
  refine kAll_skip (by kernel_rfl) ?_
  refine kAll_skip (by kernel_rfl) ?_
  refine kAll_skip (by kernel_rfl) ?_
  refine kAll_pw (by kernel_rfl) (fun K hK => ?_)
  go_simp
  generalize hZ : (Act.mk _ _) = Z
  refine hK Z ?_
  subst hZ
  clear hK K
  refine kAll_p (fun K hK => ?_)
  go_simp
  generalize hZ : (Act.mk _ _) = Z
  refine hK Z ?_
  subst hZ
  clear hK K
  refine kAll_p (fun K hK => ?_)
  go_simp
  generalize hZ : (Act.mk _ _) = Z
  refine hK Z ?_
  subst hZ
  clear hK K
  refine kAll_nil (fun W45 hW hF => ?_)
  clear hF
  have hk_46 : Keep (fun _ => False) _ W45 := hW
  have B_47 := Lib.hid (B_38.out.keep hk_46 (fun h => h))
  have B_48 := Lib.hid (B_39.out.keep hk_46 (fun h => h))
  have F_49 := Lib.hid (fun W h => F_40.out W (keep0_trans _ _ _ hk_46 h))
  have F_50 := Lib.hid (fun W h => F_41.out W (keep0_trans _ _ _ hk_46 h))
  have F_51 := Lib.hid (fun W h => F_42.out W (keep0_trans _ _ _ hk_46 h))
  have F_52 := Lib.hid (fun W h => F_43.out W (keep0_trans _ _ _ hk_46 h))
  have F_53 := Lib.hid (fun W h => Fz.out W (keep0_trans _ _ _ hk_46 h))
  have K_54 := Lib.hid (keep0_trans _ _ _ K_44.out hk_46)
  clear hk_46 B_38 B_39 F_40 F_41 F_42 F_43 Fz K_44
  clear hW
  go_wp2
  go_ret
  exact ⟨rfl, K_54.out⟩
set_option maxRecDepth 100000 in
set_option maxHeartbeats 4000000 in
theorem apart_g0 (A0 : Option Addr) (n0 c0 : Nat) (aa ai ba bi : Int) (w : World) (HBig : Hid ([n0].any (fun x => decide (150 < x)) = false)) (E : ∀ W, (binOp .eql 28 (idV (aa, ai)) (idV (ba, bi))).run Try.prog W = .ok (.bool false) W) (G : Try.prog.eqGuardType Try.prog.depth 28 = false) (l0 : List Tick) (HF0 : Hid (∀ W, Keep (fun _ => False) w W → IsTB 150 W (.slice A0 n0 c0) l0))
    (HE1 : Hid (upE l0 (aa, ai) = 0)) (HL1 : Hid (upL l0 (aa, ai) = upC l0 (aa, ai))) (HE2 : Hid (upE l0 (ba, bi) = 0)) (HL2 : Hid (upL l0 (ba, bi) = upC l0 (ba, bi))) (HC1 : Hid (cmpM (upC l0 (aa, ai)) (upC l0 (ba, bi)) = 4)) (HC2 : Hid (cmpM (upC l0 (aa, ai)) (joinM (upC l0 (aa, ai)) (upC l0 (ba, bi))) = 2)) (HC3 : Hid (cmpM (upC l0 (ba, bi)) (joinM (upC l0 (aa, ai)) (upC l0 (ba, bi))) = 2)) (HE3 : Hid (upE (upC l0 (aa, ai)) (ba, bi) = 0)) (HS : Hid (decide (upL (upC l0 (aa, ai)) (ba, bi) = joinM (upC l0 (aa, ai)) (upC l0 (ba, bi))) = true)) :
    Calls Try.prog 7 #[.slice A0 n0 c0, idV (aa, ai), idV (ba, bi)] w (Tell (.bool true) w) := by
  have K0 : Hid (Keep (fun _ => False) w ((w.alloc (.cells #[.int .i64 aa, .int .i64 ai] 28)).alloc (.cells #[.int .i64 ba, .int .i64 bi] 28))) := Lib.hid (((Keep.refl _ w).alloc _).alloc _)
  have B4 : Hid (Blk ((w.alloc (.cells #[.int .i64 aa, .int .i64 ai] 28)).alloc (.cells #[.int .i64 ba, .int .i64 bi] 28)) w.heap.size 28 #[.int .i64 aa, .int .i64 ai]) := Lib.hid ((Blk.new _ _ _).alloc _)
  have B5 : Hid (Blk ((w.alloc (.cells #[.int .i64 aa, .int .i64 ai] 28)).alloc (.cells #[.int .i64 ba, .int .i64 bi] 28)) (w.heap.size + 1) 28 #[.int .i64 ba, .int .i64 bi]) := Lib.hid (Blk.new_ (by simp) _ _)
  go_enter Try.func7, Try.ntmps7
  go_upto_region 1 with (fail)
  generalize hW0 : (w.alloc (.cells #[.int .i64 aa, .int .i64 ai] 28)).alloc (.cells #[.int .i64 ba, .int .i64 bi] 28) = W0 at *
  clear hW0
  have F0 : Hid (∀ W, Keep (fun _ => False) W0 W → IsTB 150 W (.slice A0 n0 c0) l0) := Lib.hid fun W h => HF0.out W (keep0_trans _ _ _ K0.out h)
  refine wp_region_kord (Keep (fun _ => False)) (Keep.refl _) keep0_trans 12 (Ts := [some (.inl (.bool true)), none, none, none, some (.inr (fun v W => IsLg W v [n0])), some (.inl (.bool false)), none, none, some (.inl (idV (aa, ai))), some (.inl (idV (ba, bi))), none, none]) ?_
  simp only [List.take, List.drop]
  refine kAll_dn _ (fun W hW hF => kStep_of fun K Q hK => ?_) (fun K hK => ?_)
  · go_simp
    refine (works_any W).mono ?_
    rintro e w' ⟨rfl, hk⟩
    exact hK _ _ hk rfl
  go_simp
  generalize hZ : (Act.mk _ _) = Z
  refine hK Z ?_
  subst hZ
  clear hK K
  refine kAll_p (fun K hK => ?_)
  go_simp
  generalize hZ : (Act.mk _ _) = Z
  refine hK Z ?_
  subst hZ
  clear hK K
  refine kAll_p (fun K hK => ?_)
  go_simp
  generalize hZ : (Act.mk _ _) = Z
  refine hK Z ?_
  subst hZ
  clear hK K
  refine kAll_pw (by kernel_rfl) (fun K hK => ?_)
  go_simp
  generalize hZ : (Act.mk _ _) = Z
  refine hK Z ?_
  subst hZ
  clear hK K
  refine kAll_tn _ (fun v W W' hk h => h.keep0 hk) (fun W hW hF => kStep_w (by kernel_rfl) fun K Q hK => ?_) (fun u0 K hK => ?_)
  · go_simp
    exact hK _ _ ((Keep.refl _ _).alloc _) ⟨_, _, _, [(A0, n0, c0)], rfl, rfl, rfl, RdK.of_blk (Blk.new _ _ _) 1 1 rfl⟩
  go_simp
  generalize hZ : (Act.mk _ _) = Z
  refine hK Z ?_
  subst hZ
  clear hK K
  refine kAll_dn _ (fun W hW hF => kStep_w (by kernel_rfl) fun K Q hK => ?_) (fun K hK => ?_)
  · have h0 : (fun v W => IsLg W v [n0]) u0 W := kHas_at hF 0 rfl (by kernel_rfl)
    go_simp
    refine (large_is false h0 (by simp) HBig.out).mono ?_
    rintro e w' ⟨rfl, hk⟩
    exact hK _ _ hk rfl
  go_simp
  generalize hZ : (Act.mk _ _) = Z
  refine hK Z ?_
  subst hZ
  clear hK K
  refine kAll_p (fun K hK => ?_)
  go_simp
  generalize hZ : (Act.mk _ _) = Z
  refine hK Z ?_
  subst hZ
  clear hK K
  refine kAll_p (fun K hK => ?_)
  go_simp
  generalize hZ : (Act.mk _ _) = Z
  refine hK Z ?_
  subst hZ
  clear hK K
  refine kAll_dn _ (fun W hW hF => kStep_w (by kernel_rfl) fun K Q hK => ?_) (fun K hK => ?_)
  · have e0 := (B4.out.keep hW (fun h => h)).cell 0
    have e1 := (B4.out.keep hW (fun h => h)).cell 1
    simp at e0 e1
    go_simp
    exact hK _ _ (Keep.refl _ _) rfl
  go_simp
  generalize hZ : (Act.mk _ _) = Z
  refine hK Z ?_
  subst hZ
  clear hK K
  refine kAll_dn _ (fun W hW hF => kStep_w (by kernel_rfl) fun K Q hK => ?_) (fun K hK => ?_)
  · have e0 := (B5.out.keep hW (fun h => h)).cell 0
    have e1 := (B5.out.keep hW (fun h => h)).cell 1
    simp at e0 e1
    go_simp
    exact hK _ _ (Keep.refl _ _) rfl
  go_simp
  generalize hZ : (Act.mk _ _) = Z
  refine hK Z ?_
  subst hZ
  clear hK K
  refine kAll_pw (by kernel_rfl) (fun K hK => ?_)
  go_simp
  generalize hZ : (Act.mk _ _) = Z
  refine hK Z ?_
  subst hZ
  clear hK K
  refine kAll_p (fun K hK => ?_)
  go_simp
  generalize hZ : (Act.mk _ _) = Z
  refine hK Z ?_
  subst hZ
  clear hK K
  refine kAll_nil (fun W1 hW hF => ?_)
  clear hF
  have hk_2 : Keep (fun _ => False) _ W1 := hW
  have B_3 := Lib.hid (B4.out.keep hk_2 (fun h => h))
  have B_4 := Lib.hid (B5.out.keep hk_2 (fun h => h))
  have F_5 := Lib.hid (fun W h => F0.out W (keep0_trans _ _ _ hk_2 h))
  have K_6 := Lib.hid (keep0_trans _ _ _ K0.out hk_2)
  clear hk_2 B4 B5 F0 K0
  clear hW
  go_upto_region 3 with (fail)
  refine wp_region_kord (Keep (fun _ => False)) (Keep.refl _) keep0_trans 3 (Ts := [none, some (.inl (idV (aa, ai))), some (.inr (fun v W => ∃ u, v = .tuple #[u, .int .i64 0] ∧ IsTB 151 W u (upL l0 (aa, ai))))]) ?_
  simp only [List.take, List.drop]
  refine kAll_p (fun K hK => ?_)
  go_simp
  generalize hZ : (Act.mk _ _) = Z
  refine hK Z ?_
  subst hZ
  clear hK K
  refine kAll_dn _ (fun W hW hF => kStep_of fun K Q hK => ?_) (fun K hK => ?_)
  · have e0 := (B_3.out.keep hW (fun h => h)).cell 0
    have e1 := (B_3.out.keep hW (fun h => h)).cell 1
    simp at e0 e1
    go_simp
    exact hK _ _ (Keep.refl _ _) rfl
  go_simp
  generalize hZ : (Act.mk _ _) = Z
  refine hK Z ?_
  subst hZ
  clear hK K
  refine kAll_tn _ (fun v W W' (hk : Keep (fun _ => False) W W') ⟨u, e, hb⟩ => ⟨u, e, IsTB.keep0 hb hk⟩) (fun W hW hF => kStep_of fun K Q hK => ?_) (fun u0 K hK => ?_)
  · have h0 := F_5.out W (hW)
    go_simp
    refine (upI_is (aa, ai) h0 (by decide)).mono ?_
    rintro e w' ⟨u, rfl, hu, hk⟩
    rw [HE1.out]
    exact hK _ _ hk ⟨u, rfl, hu⟩
  go_simp
  generalize hZ : (Act.mk _ _) = Z
  refine hK Z ?_
  subst hZ
  clear hK K
  refine kAll_nil (fun W7 hW hF => ?_)
  have hu : (fun v W => ∃ u, v = .tuple #[u, .int .i64 0] ∧ IsTB 151 W u (upL l0 (aa, ai))) u0 W7 := kAllHas_at hF 0 rfl
  obtain ⟨u1, rfl, hu⟩ := hu
  rw [HL1.out] at hu
  have Fx : Hid (∀ W, Keep (fun _ => False) W7 W → IsTB 151 W u1 (upC l0 (aa, ai))) := Lib.hid fun W h => IsTB.keep0 hu h
  clear hu
  clear hF
  have hk_8 : Keep (fun _ => False) _ W7 := hW
  have B_9 := Lib.hid (B_3.out.keep hk_8 (fun h => h))
  have B_10 := Lib.hid (B_4.out.keep hk_8 (fun h => h))
  have F_11 := Lib.hid (fun W h => F_5.out W (keep0_trans _ _ _ hk_8 h))
  have K_12 := Lib.hid (keep0_trans _ _ _ K_6.out hk_8)
  clear hk_8 B_3 B_4 F_5 K_6
  clear hW
  go_upto_region 4 with (fail)
  refine wp_region_kord (Keep (fun _ => False)) (Keep.refl _) keep0_trans 3 (Ts := [none, some (.inl (idV (ba, bi))), some (.inr (fun v W => ∃ u, v = .tuple #[u, .int .i64 0] ∧ IsTB 151 W u (upL l0 (ba, bi))))]) ?_
  simp only [List.take, List.drop]
  refine kAll_p (fun K hK => ?_)
  go_simp
  generalize hZ : (Act.mk _ _) = Z
  refine hK Z ?_
  subst hZ
  clear hK K
  refine kAll_dn _ (fun W hW hF => kStep_of fun K Q hK => ?_) (fun K hK => ?_)
  · have e0 := (B_10.out.keep hW (fun h => h)).cell 0
    have e1 := (B_10.out.keep hW (fun h => h)).cell 1
    simp at e0 e1
    go_simp
    exact hK _ _ (Keep.refl _ _) rfl
  go_simp
  generalize hZ : (Act.mk _ _) = Z
  refine hK Z ?_
  subst hZ
  clear hK K
  refine kAll_tn _ (fun v W W' (hk : Keep (fun _ => False) W W') ⟨u, e, hb⟩ => ⟨u, e, IsTB.keep0 hb hk⟩) (fun W hW hF => kStep_of fun K Q hK => ?_) (fun u0 K hK => ?_)
  · have h0 := F_11.out W (hW)
    go_simp
    refine (upI_is (ba, bi) h0 (by decide)).mono ?_
    rintro e w' ⟨u, rfl, hu, hk⟩
    rw [HE2.out]
    exact hK _ _ hk ⟨u, rfl, hu⟩
  go_simp
  generalize hZ : (Act.mk _ _) = Z
  refine hK Z ?_
  subst hZ
  clear hK K
  refine kAll_nil (fun W13 hW hF => ?_)
  have hu : (fun v W => ∃ u, v = .tuple #[u, .int .i64 0] ∧ IsTB 151 W u (upL l0 (ba, bi))) u0 W13 := kAllHas_at hF 0 rfl
  obtain ⟨u2, rfl, hu⟩ := hu
  rw [HL2.out] at hu
  have Fy : Hid (∀ W, Keep (fun _ => False) W13 W → IsTB 151 W u2 (upC l0 (ba, bi))) := Lib.hid fun W h => IsTB.keep0 hu h
  clear hu
  clear hF
  have hk_14 : Keep (fun _ => False) _ W13 := hW
  have B_15 := Lib.hid (B_9.out.keep hk_14 (fun h => h))
  have B_16 := Lib.hid (B_10.out.keep hk_14 (fun h => h))
  have F_17 := Lib.hid (fun W h => F_11.out W (keep0_trans _ _ _ hk_14 h))
  have F_18 := Lib.hid (fun W h => Fx.out W (keep0_trans _ _ _ hk_14 h))
  have K_19 := Lib.hid (keep0_trans _ _ _ K_12.out hk_14)
  clear hk_14 B_9 B_10 F_11 Fx K_12
  clear hW
  go_upto_region 5 with (fail)
  refine wp_region_kord (Keep (fun _ => False)) (Keep.refl _) keep0_trans 6 (Ts := [none, none, none, none, none, none]) ?_
  simp only [List.take, List.drop]
  refine kAll_p (fun K hK => ?_)
  go_simp
  generalize hZ : (Act.mk _ _) = Z
  refine hK Z ?_
  subst hZ
  clear hK K
  refine kAll_p (fun K hK => ?_)
  go_simp
  generalize hZ : (Act.mk _ _) = Z
  refine hK Z ?_
  subst hZ
  clear hK K
  refine kAll_p (fun K hK => ?_)
  go_simp
  generalize hZ : (Act.mk _ _) = Z
  refine hK Z ?_
  subst hZ
  clear hK K
  refine kAll_pw (by kernel_rfl) (fun K hK => ?_)
  go_simp
  generalize hZ : (Act.mk _ _) = Z
  refine hK Z ?_
  subst hZ
  clear hK K
  refine kAll_pw (by kernel_rfl) (fun K hK => ?_)
  go_simp
  generalize hZ : (Act.mk _ _) = Z
  refine hK Z ?_
  subst hZ
  clear hK K
  refine kAll_p (fun K hK => ?_)
  go_simp
  generalize hZ : (Act.mk _ _) = Z
  refine hK Z ?_
  subst hZ
  clear hK K
  refine kAll_nil (fun W20 hW hF => ?_)
  clear hF
  have hk_21 : Keep (fun _ => False) _ W20 := hW
  have B_22 := Lib.hid (B_15.out.keep hk_21 (fun h => h))
  have B_23 := Lib.hid (B_16.out.keep hk_21 (fun h => h))
  have F_24 := Lib.hid (fun W h => F_17.out W (keep0_trans _ _ _ hk_21 h))
  have F_25 := Lib.hid (fun W h => F_18.out W (keep0_trans _ _ _ hk_21 h))
  have F_26 := Lib.hid (fun W h => Fy.out W (keep0_trans _ _ _ hk_21 h))
  have K_27 := Lib.hid (keep0_trans _ _ _ K_19.out hk_21)
  clear hk_21 B_15 B_16 F_17 F_18 Fy K_19
  clear hW
  go_upto_region 7 with (fail)
  refine wp_region_kord (Keep (fun _ => False)) (Keep.refl _) keep0_trans 4 (Ts := [none, none, some (.inr (fun v W => IsTB 302 W v (joinM (upC l0 (aa, ai)) (upC l0 (ba, bi))))), none]) ?_
  simp only [List.take, List.drop]
  refine kAll_p (fun K hK => ?_)
  go_simp
  generalize hZ : (Act.mk _ _) = Z
  refine hK Z ?_
  subst hZ
  clear hK K
  refine kAll_p (fun K hK => ?_)
  go_simp
  generalize hZ : (Act.mk _ _) = Z
  refine hK Z ?_
  subst hZ
  clear hK K
  refine kAll_tn _ (fun v W W' hk h => h.keep0 hk) (fun W hW hF => kStep_of fun K Q hK => ?_) (fun u0 K hK => ?_)
  · have h0 := F_25.out W (hW)
    have h1 := F_26.out W (hW)
    go_simp
    refine (joinI_any h0 h1 (by decide)).mono ?_
    rintro e w' ⟨u, rfl, hu, hk⟩
    exact hK _ _ hk hu
  go_simp
  generalize hZ : (Act.mk _ _) = Z
  refine hK Z ?_
  subst hZ
  clear hK K
  refine kAll_p (fun K hK => ?_)
  go_simp
  generalize hZ : (Act.mk _ _) = Z
  refine hK Z ?_
  subst hZ
  clear hK K
  refine kAll_nil (fun W28 hW hF => ?_)
  have hf : (fun v W => IsTB 302 W v (joinM (upC l0 (aa, ai)) (upC l0 (ba, bi)))) u0 W28 := kAllHas_at hF 0 rfl
  have Fj : Hid (∀ W, Keep (fun _ => False) W28 W → IsTB 302 W u0 (joinM (upC l0 (aa, ai)) (upC l0 (ba, bi)))) := Lib.hid fun W h => IsTB.keep0 hf h
  clear hf
  clear hF
  have hk_29 : Keep (fun _ => False) _ W28 := hW
  have B_30 := Lib.hid (B_22.out.keep hk_29 (fun h => h))
  have B_31 := Lib.hid (B_23.out.keep hk_29 (fun h => h))
  have F_32 := Lib.hid (fun W h => F_24.out W (keep0_trans _ _ _ hk_29 h))
  have F_33 := Lib.hid (fun W h => F_25.out W (keep0_trans _ _ _ hk_29 h))
  have F_34 := Lib.hid (fun W h => F_26.out W (keep0_trans _ _ _ hk_29 h))
  have K_35 := Lib.hid (keep0_trans _ _ _ K_27.out hk_29)
  clear hk_29 B_22 B_23 F_24 F_25 F_26 K_27
  clear hW
  go_upto_region 8 with (fail)
  refine wp_region_kord (Keep (fun _ => False)) (Keep.refl _) keep0_trans 3 (Ts := [none, some (.inl (idV (ba, bi))), some (.inr (fun v W => ∃ u, v = .tuple #[u, .int .i64 0] ∧ IsTB 152 W u (upL (upC l0 (aa, ai)) (ba, bi))))]) ?_
  simp only [List.take, List.drop]
  refine kAll_p (fun K hK => ?_)
  go_simp
  generalize hZ : (Act.mk _ _) = Z
  refine hK Z ?_
  subst hZ
  clear hK K
  refine kAll_dn _ (fun W hW hF => kStep_of fun K Q hK => ?_) (fun K hK => ?_)
  · have e0 := (B_31.out.keep hW (fun h => h)).cell 0
    have e1 := (B_31.out.keep hW (fun h => h)).cell 1
    simp at e0 e1
    go_simp
    exact hK _ _ (Keep.refl _ _) rfl
  go_simp
  generalize hZ : (Act.mk _ _) = Z
  refine hK Z ?_
  subst hZ
  clear hK K
  refine kAll_tn _ (fun v W W' (hk : Keep (fun _ => False) W W') ⟨u, e, hb⟩ => ⟨u, e, IsTB.keep0 hb hk⟩) (fun W hW hF => kStep_of fun K Q hK => ?_) (fun u0 K hK => ?_)
  · have h0 := F_33.out W (hW)
    go_simp
    refine (upI_is (ba, bi) h0 (by decide)).mono ?_
    rintro e w' ⟨u, rfl, hu, hk⟩
    rw [HE3.out]
    exact hK _ _ hk ⟨u, rfl, hu⟩
  go_simp
  generalize hZ : (Act.mk _ _) = Z
  refine hK Z ?_
  subst hZ
  clear hK K
  refine kAll_nil (fun W36 hW hF => ?_)
  have hu : (fun v W => ∃ u, v = .tuple #[u, .int .i64 0] ∧ IsTB 152 W u (upL (upC l0 (aa, ai)) (ba, bi))) u0 W36 := kAllHas_at hF 0 rfl
  obtain ⟨u4, rfl, hu⟩ := hu
  have Fz : Hid (∀ W, Keep (fun _ => False) W36 W → IsTB 152 W u4 (upL (upC l0 (aa, ai)) (ba, bi))) := Lib.hid fun W h => IsTB.keep0 hu h
  clear hu
  clear hF
  have hk_37 : Keep (fun _ => False) _ W36 := hW
  have B_38 := Lib.hid (B_30.out.keep hk_37 (fun h => h))
  have B_39 := Lib.hid (B_31.out.keep hk_37 (fun h => h))
  have F_40 := Lib.hid (fun W h => F_32.out W (keep0_trans _ _ _ hk_37 h))
  have F_41 := Lib.hid (fun W h => F_33.out W (keep0_trans _ _ _ hk_37 h))
  have F_42 := Lib.hid (fun W h => F_34.out W (keep0_trans _ _ _ hk_37 h))
  have F_43 := Lib.hid (fun W h => Fj.out W (keep0_trans _ _ _ hk_37 h))
  have K_44 := Lib.hid (keep0_trans _ _ _ K_35.out hk_37)
  clear hk_37 B_30 B_31 F_32 F_33 F_34 Fj K_35
  clear hW
  go_upto_region 9 with (fail)
  refine wp_region_kord (Keep (fun _ => False)) (Keep.refl _) keep0_trans 26 (Ts := [none, none, some (.inl (.int .u8 4)), none, none, none, none, some (.inl (.int .u8 2)), none, none, none, none, none, some (.inl (.int .u8 2)), none, none, none, none, none, none, none, none, some (.inl (.bool true)), none, none, none]) ?_
  simp only [List.take, List.drop]
  refine kAll_p (fun K hK => ?_)
  go_simp
  generalize hZ : (Act.mk _ _) = Z
  refine hK Z ?_
  subst hZ
  clear hK K
  refine kAll_p (fun K hK => ?_)
  go_simp
  generalize hZ : (Act.mk _ _) = Z
  refine hK Z ?_
  subst hZ
  clear hK K
  refine kAll_dn _ (fun W hW hF => kStep_of fun K Q hK => ?_) (fun K hK => ?_)
  · have h0 := F_41.out W (hW)
    have h1 := F_42.out W (hW)
    go_simp
    refine (cmpI_is 4 h0 h1 (by decide) HC1.out).mono ?_
    rintro e w' ⟨rfl, hk⟩
    exact hK _ _ hk rfl
  go_simp
  generalize hZ : (Act.mk _ _) = Z
  refine hK Z ?_
  subst hZ
  clear hK K
  refine kAll_p (fun K hK => ?_)
  go_simp
  generalize hZ : (Act.mk _ _) = Z
  refine hK Z ?_
  subst hZ
  clear hK K
  refine kAll_p (fun K hK => ?_)
  go_simp
  generalize hZ : (Act.mk _ _) = Z
  refine hK Z ?_
  subst hZ
  clear hK K
  refine kAll_pw (by kernel_rfl) (fun K hK => ?_)
  go_simp
  generalize hZ : (Act.mk _ _) = Z
  refine hK Z ?_
  subst hZ
  clear hK K
  refine kAll_pw (by kernel_rfl) (fun K hK => ?_)
  go_simp
  generalize hZ : (Act.mk _ _) = Z
  refine hK Z ?_
  subst hZ
  clear hK K
  refine kAll_dn _ (fun W hW hF => kStep_w (by kernel_rfl) fun K Q hK => ?_) (fun K hK => ?_)
  · have h0 := F_41.out W (hW)
    have h1 := F_43.out W (hW)
    go_simp
    refine (cmpI_is 2 h0 h1 (by decide) HC2.out).mono ?_
    rintro e w' ⟨rfl, hk⟩
    exact hK _ _ hk rfl
  go_simp
  generalize hZ : (Act.mk _ _) = Z
  refine hK Z ?_
  subst hZ
  clear hK K
  refine kAll_pw (by kernel_rfl) (fun K hK => ?_)
  go_simp
  generalize hZ : (Act.mk _ _) = Z
  refine hK Z ?_
  subst hZ
  clear hK K
  refine kAll_p (fun K hK => ?_)
  go_simp
  generalize hZ : (Act.mk _ _) = Z
  refine hK Z ?_
  subst hZ
  clear hK K
  refine kAll_p (fun K hK => ?_)
  go_simp
  generalize hZ : (Act.mk _ _) = Z
  refine hK Z ?_
  subst hZ
  clear hK K
  refine kAll_pw (by kernel_rfl) (fun K hK => ?_)
  go_simp
  generalize hZ : (Act.mk _ _) = Z
  refine hK Z ?_
  subst hZ
  clear hK K
  refine kAll_pw (by kernel_rfl) (fun K hK => ?_)
  go_simp
  generalize hZ : (Act.mk _ _) = Z
  refine hK Z ?_
  subst hZ
  clear hK K
  refine kAll_dn _ (fun W hW hF => kStep_w (by kernel_rfl) fun K Q hK => ?_) (fun K hK => ?_)
  · have h0 := F_42.out W (hW)
    have h1 := F_43.out W (hW)
    go_simp
    refine (cmpI_is 2 h0 h1 (by decide) HC3.out).mono ?_
    rintro e w' ⟨rfl, hk⟩
    exact hK _ _ hk rfl
  go_simp
  generalize hZ : (Act.mk _ _) = Z
  refine hK Z ?_
  subst hZ
  clear hK K
  refine kAll_pw (by kernel_rfl) (fun K hK => ?_)
  go_simp
  generalize hZ : (Act.mk _ _) = Z
  refine hK Z ?_
  subst hZ
  clear hK K
  refine kAll_p (fun K hK => ?_)
  go_simp
  generalize hZ : (Act.mk _ _) = Z
  refine hK Z ?_
  subst hZ
  clear hK K
  refine kAll_p (fun K hK => ?_)
  go_simp
  generalize hZ : (Act.mk _ _) = Z
  refine hK Z ?_
  subst hZ
  clear hK K
  refine kAll_pw (by kernel_rfl) (fun K hK => ?_)
  go_simp
  generalize hZ : (Act.mk _ _) = Z
  refine hK Z ?_
  subst hZ
  clear hK K
  refine kAll_pw (by kernel_rfl) (fun K hK => ?_)
  go_simp
  generalize hZ : (Act.mk _ _) = Z
  refine hK Z ?_
  subst hZ
  clear hK K
  refine kAll_pw (by kernel_rfl) (fun K hK => ?_)
  go_simp
  generalize hZ : (Act.mk _ _) = Z
  refine hK Z ?_
  subst hZ
  clear hK K
  refine kAll_pw (by kernel_rfl) (fun K hK => ?_)
  go_simp
  generalize hZ : (Act.mk _ _) = Z
  refine hK Z ?_
  subst hZ
  clear hK K
  refine kAll_pw (by kernel_rfl) (fun K hK => ?_)
  go_simp
  generalize hZ : (Act.mk _ _) = Z
  refine hK Z ?_
  subst hZ
  clear hK K
  refine kAll_dn _ (fun W hW hF => kStep_w (by kernel_rfl) fun K Q hK => ?_) (fun K hK => ?_)
  · have h0 := Fz.out W (hW)
    have h1 := F_43.out W (hW)
    go_simp
    refine (sameI_is true h0 h1 (by decide) HS.out).mono ?_
    rintro e w' ⟨rfl, hk⟩
    exact hK _ _ hk rfl
  go_simp
  generalize hZ : (Act.mk _ _) = Z
  refine hK Z ?_
  subst hZ
  clear hK K
  refine kAll_pw (by kernel_rfl) (fun K hK => ?_)
  go_simp
  generalize hZ : (Act.mk _ _) = Z
  refine hK Z ?_
  subst hZ
  clear hK K
  refine kAll_p (fun K hK => ?_)
  go_simp
  generalize hZ : (Act.mk _ _) = Z
  refine hK Z ?_
  subst hZ
  clear hK K
  refine kAll_p (fun K hK => ?_)
  go_simp
  generalize hZ : (Act.mk _ _) = Z
  refine hK Z ?_
  subst hZ
  clear hK K
  refine kAll_nil (fun W45 hW hF => ?_)
  clear hF
  have hk_46 : Keep (fun _ => False) _ W45 := hW
  have B_47 := Lib.hid (B_38.out.keep hk_46 (fun h => h))
  have B_48 := Lib.hid (B_39.out.keep hk_46 (fun h => h))
  have F_49 := Lib.hid (fun W h => F_40.out W (keep0_trans _ _ _ hk_46 h))
  have F_50 := Lib.hid (fun W h => F_41.out W (keep0_trans _ _ _ hk_46 h))
  have F_51 := Lib.hid (fun W h => F_42.out W (keep0_trans _ _ _ hk_46 h))
  have F_52 := Lib.hid (fun W h => F_43.out W (keep0_trans _ _ _ hk_46 h))
  have F_53 := Lib.hid (fun W h => Fz.out W (keep0_trans _ _ _ hk_46 h))
  have K_54 := Lib.hid (keep0_trans _ _ _ K_44.out hk_46)
  clear hk_46 B_38 B_39 F_40 F_41 F_42 F_43 Fz K_44
  clear hW
  go_wp2
  go_ret
  exact ⟨rfl, K_54.out⟩
theorem apart_tell (A0 : Option Addr) (n0 c0 : Nat) (l0 : List Tick) (aa ai ba bi : Int) (w : World) (h0 : RdT w A0 n0 l0) :
    Calls Try.prog 7 #[.slice A0 n0 c0, idV (aa, ai), idV (ba, bi)] w (Tell (.bool true) w) := by
  rcases big_or [n0] with hb | ⟨hb, hle⟩
  · exact apart_big A0 n0 c0 aa ai ba bi w (Lib.hid hb)
  · have HBig := Lib.hid hb
    have b0 : n0 ≤ 150 := hle n0 (by simp)
    have F0 : Hid (∀ W, Keep (fun _ => False) w W → IsTB 150 W (.slice A0 n0 c0) l0) := Lib.hid fun W h => ⟨_, _, _, rfl, h0.keep0 h, b0⟩
    by_cases he : (aa, ai) = (ba, bi)
    · exact apart_eq A0 n0 c0 aa ai ba bi w HBig (fun W => by rw [eql_ID, decide_eq_true he]) gID
    · have E : ∀ W, (binOp .eql 28 (idV (aa, ai)) (idV (ba, bi))).run Try.prog W = .ok (.bool false) W := fun W => by rw [eql_ID, decide_eq_false he]
      by_cases g1 : upE l0 (aa, ai) = 0
      · have L1 : upL l0 (aa, ai) = upC l0 (aa, ai) := by unfold upL; rw [if_pos g1]
        by_cases g2 : upE l0 (ba, bi) = 0
        · have L2 : upL l0 (ba, bi) = upC l0 (ba, bi) := by unfold upL; rw [if_pos g2]
          have a1 := up_apart (c := l0) he
          have a2 := up_apart (c := l0) (fun e => he e.symm : ¬ (ba, bi) = (aa, ai))
          have c1 : cmpM (upC l0 (aa, ai)) (upC l0 (ba, bi)) = 4 := by
            rcases cmpM_cases (upC l0 (aa, ai)) (upC l0 (ba, bi)) with ⟨q, _, _⟩ | ⟨q, _, _⟩ | ⟨_, q, _⟩ | ⟨_, _, q⟩
            · exact absurd q a1
            · exact absurd q a1
            · exact absurd q a2
            · exact q
          have c2 : cmpM (upC l0 (aa, ai)) (joinM (upC l0 (aa, ai)) (upC l0 (ba, bi))) = 2 := by
            rcases cmpM_cases (upC l0 (aa, ai)) (joinM (upC l0 (aa, ai)) (upC l0 (ba, bi))) with ⟨_, q, _⟩ | ⟨_, _, q⟩ | ⟨q, _, _⟩ | ⟨q, _, _⟩
            · exact absurd (leC_trans (leC_right _ _) q) a2
            · exact q
            · exact absurd (leC_left _ _) q
            · exact absurd (leC_left _ _) q
          have c3 : cmpM (upC l0 (ba, bi)) (joinM (upC l0 (aa, ai)) (upC l0 (ba, bi))) = 2 := by
            rcases cmpM_cases (upC l0 (ba, bi)) (joinM (upC l0 (aa, ai)) (upC l0 (ba, bi))) with ⟨_, q, _⟩ | ⟨_, _, q⟩ | ⟨q, _, _⟩ | ⟨q, _, _⟩
            · exact absurd (leC_trans (leC_left _ _) q) a1
            · exact q
            · exact absurd (leC_right _ _) q
            · exact absurd (leC_right _ _) q
          by_cases g3 : upE (upC l0 (aa, ai)) (ba, bi) = 0
          · have s : upL (upC l0 (aa, ai)) (ba, bi) = joinM (upC l0 (aa, ai)) (upC l0 (ba, bi)) := by unfold upL; rw [if_pos g3]; exact up_two he
            exact apart_g0 A0 n0 c0 aa ai ba bi w HBig E gID l0 F0 (Lib.hid g1) (Lib.hid L1) (Lib.hid g2) (Lib.hid L2) (Lib.hid c1) (Lib.hid c2) (Lib.hid c3) (Lib.hid g3) (Lib.hid (decide_eq_true s))
          · exact apart_g1 A0 n0 c0 aa ai ba bi w HBig E gID l0 F0 _ (by simpa using g3) (Lib.hid g1) (Lib.hid L1) (Lib.hid g2) (Lib.hid L2) (Lib.hid c1) (Lib.hid c2) (Lib.hid c3) (Lib.hid rfl)
        · exact apart_e2 A0 n0 c0 aa ai ba bi w HBig E gID l0 F0 _ (by simpa using g2) (Lib.hid g1) (Lib.hid L1) (Lib.hid rfl)
      · exact apart_e1 A0 n0 c0 aa ai ba bi w HBig E gID l0 F0 _ _ (by simpa using g1) (Lib.hid rfl) (Lib.hid rfl)
theorem walkClockApart {w : World} (v0 : Value) (w0 : InTs w v0) (v1 : Value) (w1 : InId w v1) (v2 : Value) (w2 : InId w v2) :
    Calls Try.prog 7 #[v0, v1, v2] w fun e w' => e = .returned (.bool true) ∧ Below w.heap.size w w' := by
  obtain ⟨A0, n0, c0, l0, rfl, _, _, h0⟩ := w0
  obtain ⟨⟨aa, ai⟩, rfl⟩ := w1
  obtain ⟨⟨ba, bi⟩, rfl⟩ := w2
  exact (apart_tell A0 n0 c0 l0 aa ai ba bi w h0).mono fun _ _ ⟨h, k⟩ => ⟨h, k.b⟩
end Go.Proofs.Ytljmpjkfdkcjnaa
