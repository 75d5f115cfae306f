/-
  The ring's law: the examples (awake). Written by gen_d.py.
-/
import Derived.Test.YtafolmgbmobfbaaRinD
namespace Go.Proofs.Ytafolmgbmobfbaa
open Go.RowKit
attribute [local irreducible] kAll
attribute [local go_sem] kQuiet kQuietUpon

set_option maxRecDepth 100000 in
set_option maxHeartbeats 4000000 in
theorem awake_any (w : World) : Calls Try.prog 12 #[] w (Tell (.bool true) w) := by
  go_enter Try.func12, Try.ntmps12
  go_wp2_with fail
  refine (at_any 1 _).mono ?_
  rintro e w0 ⟨rfl, hk0⟩
  have HK0 := Lib.hid (hk0)
  clear hk0
  go_wp2_with fail
  refine (at_any 2 _).mono ?_
  rintro e w1 ⟨rfl, hk1⟩
  have HK1 := Lib.hid (keep0_trans _ _ _ HK0.out hk1)
  clear hk1
  go_wp2_with fail
  refine (at_any 4 _).mono ?_
  rintro e w2 ⟨rfl, hk2⟩
  have HK2 := Lib.hid (keep0_trans _ _ _ HK1.out hk2)
  clear hk2
  go_wp2_with fail
  refine (at_any 7 _).mono ?_
  rintro e w3 ⟨rfl, hk3⟩
  have HK3 := Lib.hid (keep0_trans _ _ _ HK2.out hk3)
  clear hk3
  obtain ⟨w4, hw4⟩ : ∃ w4, w3.alloc (.cells #[.int .i64 1, .int .i64 1, .int .i64 2, .int .i64 1, .int .i64 4, .int .i64 1, .int .i64 7, .int .i64 1] 23) = w4 := ⟨_, rfl⟩
  have HS4 := Lib.hid (show ISl w4 (some ⟨w3.heap.size, 0, none⟩) 4 4 ([(1, 1), (2, 1), (4, 1), (7, 1)] : List ID) by rw [← hw4]; exact isl_blk (Blk.new _ _ _) _ (by simp) (by simp))
  have HK4 := Lib.hid (show Keep (fun _ => False) w w4 by rw [← hw4]; exact HK3.out.alloc _)
  go_wp2_with fail
  refine (at_any 1 _).mono ?_
  rintro e w5 ⟨rfl, hk5⟩
  have HS5 := Lib.hid (HS4.out.keep0 hk5)
  have HK5 := Lib.hid (keep0_trans _ _ _ HK4.out hk5)
  clear hk5 hw4
  go_wp2_with fail
  refine (behind_is _ 4 4 ([(1, 1), (2, 1), (4, 1), (7, 1)] : List ID) (1, 1) (7, 1) _ HS5.out.1 (by omega) (by decide)).mono ?_
  rintro e w6 ⟨rfl, hk6⟩
  have HK6 := Lib.hid (keep0_trans _ _ _ HK5.out hk6)
  have HS6 := Lib.hid (HS5.out.keep0 hk6)
  clear hk6
  obtain ⟨w7, hw7⟩ : ∃ w7, w6.alloc (.cells #[.int .i64 7, .int .i64 1] 23) = w7 := ⟨_, rfl⟩
  have HB := Lib.hid (show Blk w7 w6.heap.size 23 #[.int .i64 7, .int .i64 1] by rw [← hw7]; exact Blk.new _ _ _)
  have HS7 := Lib.hid (show ISl w7 _ 4 4 _ by rw [← hw7]; exact HS6.out.keep0 ((Keep.refl _ w6).alloc _))
  have HK7 := Lib.hid (show Keep (fun _ => False) w w7 by rw [← hw7]; exact HK6.out.alloc _)
  go_wp2_with fail
  clear hw7
  refine wp_region_krip (Keep (fun _ => False)) (Keep.refl _) keep0_trans 27 (by kernel_rfl) (by kernel_rfl) (Ts := [none, some (.inl (idV (4, 1))), some (.inr (fun v W => IsI W v ([(7, 1), (1, 1), (2, 1)] : List ID))), some (.inl (idV (7, 1))), some (.inl (idV (1, 1))), some (.inl (idV (2, 1))), some (.inr (fun v W => IsI W v ([(7, 1), (1, 1), (2, 1)] : List ID))), some (.inl (.bool true)), none, none, some (.inl (idV (4, 1))), some (.inl (idV (7, 1))), some (.inr (fun v W => IsI W v ([(7, 1)] : List ID))), some (.inr (fun v W => IsI W v ([(1, 1), (7, 1)] : List ID))), some (.inl (idV (1, 1))), some (.inl (idV (7, 1))), some (.inr (fun v W => IsI W v ([(1, 1), (7, 1)] : List ID))), some (.inl (.bool true)), none, none, none, none, none, some (.inl (idV (7, 1))), some (.inl (idV (7, 1))), some (.inl (.bool true)), none]) ?_
  simp only [List.take, List.drop]
  refine kAll_p (fun K hK => ?_)
  go_simp
  generalize hZ : (Act.mk _ _) = Z
  refine hK Z ?_
  subst hZ
  clear hK K
  refine kAll_dn _ (fun W hW hF => kStep_of fun K Q hK => ?_) (fun K hK => ?_)
  · go_simp
    refine (at_any 4 W).mono ?_
    rintro e w' ⟨rfl, hk⟩
    exact hK _ _ hk rfl
  go_simp
  generalize hZ : (Act.mk _ _) = Z
  refine hK Z ?_
  subst hZ
  clear hK K
  refine kAll_tn _ (fun v W W' hk h => h.keep0 hk) (fun W hW hF => kStep_of fun K Q hK => ?_) (fun u0 K hK => ?_)
  · have h0 : ISl W _ _ _ ([(1, 1), (2, 1), (4, 1), (7, 1)] : List ID) := HS7.out.keep0 (keep0_trans _ _ _ ((Keep.refl _ _).drew) hW)
    go_simp
    refine (order_is _ _ _ ([(1, 1), (2, 1), (4, 1), (7, 1)] : List ID) (4, 1) ([(7, 1), (1, 1), (2, 1)] : List ID) W h0.1 (by have := h0.1.1; simp at this; omega) (by decide)).mono ?_
    rintro e w' ⟨row', A', c', rfl, hs, _, hk⟩
    exact hK _ _ hk ⟨_, _, _, rfl, hs.isl⟩
  go_simp
  generalize hZ : (Act.mk _ _) = Z
  refine hK Z ?_
  subst hZ
  clear hK K
  refine kAll_dn _ (fun W hW hF => kStep_of fun K Q hK => ?_) (fun K hK => ?_)
  · go_simp
    refine (at_any 7 W).mono ?_
    rintro e w' ⟨rfl, hk⟩
    exact hK _ _ hk rfl
  go_simp
  generalize hZ : (Act.mk _ _) = Z
  refine hK Z ?_
  subst hZ
  clear hK K
  refine kAll_dn _ (fun W hW hF => kStep_of fun K Q hK => ?_) (fun K hK => ?_)
  · go_simp
    refine (at_any 1 W).mono ?_
    rintro e w' ⟨rfl, hk⟩
    exact hK _ _ hk rfl
  go_simp
  generalize hZ : (Act.mk _ _) = Z
  refine hK Z ?_
  subst hZ
  clear hK K
  refine kAll_dn _ (fun W hW hF => kStep_of fun K Q hK => ?_) (fun K hK => ?_)
  · go_simp
    refine (at_any 2 W).mono ?_
    rintro e w' ⟨rfl, hk⟩
    exact hK _ _ hk rfl
  go_simp
  generalize hZ : (Act.mk _ _) = Z
  refine hK Z ?_
  subst hZ
  clear hK K
  refine kAll_tn _ (fun v W W' hk h => h.keep0 hk) (fun W hW hF => kStep_of fun K Q hK => ?_) (fun u1 K hK => ?_)
  · go_simp
    exact hK _ _ ((Keep.refl _ _).alloc _) ⟨_, _, _, rfl, isl_blk (Blk.new _ _ _) ([(7, 1), (1, 1), (2, 1)] : List ID) (by simp) (by simp)⟩
  go_simp
  generalize hZ : (Act.mk _ _) = Z
  refine hK Z ?_
  subst hZ
  clear hK K
  refine kAll_dn _ (fun W hW hF => kStep_of fun K Q hK => ?_) (fun K hK => ?_)
  · obtain ⟨Ah0, nh0, ch0, rfl, h0⟩ := (show IsI W u0 ([(7, 1), (1, 1), (2, 1)] : List ID) from kHas_at hF 1 rfl (by kernel_rfl))
    obtain ⟨Ah2, nh2, ch2, rfl, h2⟩ := (show IsI W u1 ([(7, 1), (1, 1), (2, 1)] : List ID) from kHas_at hF 0 rfl (by kernel_rfl))
    go_simp
    refine (same_is _ _ _ _ _ _ ([(7, 1), (1, 1), (2, 1)] : List ID) ([(7, 1), (1, 1), (2, 1)] : List ID) W h0.1 h2.1 (by have := h0.1.1; simp at this; omega) (by have := h2.1.1; simp at this; omega) (by decide)).mono ?_
    rintro e w' ⟨rfl, hk⟩
    exact hK _ _ hk rfl
  go_simp
  generalize hZ : (Act.mk _ _) = Z
  refine hK Z ?_
  subst hZ
  clear hK K
  refine kAll_p (fun K hK => ?_)
  go_simp
  generalize hZ : (Act.mk _ _) = Z
  refine hK Z ?_
  subst hZ
  clear hK K
  refine kAll_pw (by kernel_rfl) (fun K hK => ?_)
  go_simp
  generalize hZ : (Act.mk _ _) = Z
  refine hK Z ?_
  subst hZ
  clear hK K
  refine kAll_dn _ (fun W hW hF => kStep_w (by kernel_rfl) fun K Q hK => ?_) (fun K hK => ?_)
  · go_simp
    refine (at_any 4 W).mono ?_
    rintro e w' ⟨rfl, hk⟩
    exact hK _ _ hk rfl
  go_simp
  generalize hZ : (Act.mk _ _) = Z
  refine hK Z ?_
  subst hZ
  clear hK K
  refine kAll_dn _ (fun W hW hF => kStep_w (by kernel_rfl) fun K Q hK => ?_) (fun K hK => ?_)
  · go_simp
    refine (at_any 7 W).mono ?_
    rintro e w' ⟨rfl, hk⟩
    exact hK _ _ hk rfl
  go_simp
  generalize hZ : (Act.mk _ _) = Z
  refine hK Z ?_
  subst hZ
  clear hK K
  refine kAll_tn _ (fun v W W' hk h => h.keep0 hk) (fun W hW hF => kStep_w (by kernel_rfl) fun K Q hK => ?_) (fun u2 K hK => ?_)
  · go_simp
    exact hK _ _ ((Keep.refl _ _).alloc _) ⟨_, _, _, rfl, isl_blk (Blk.new _ _ _) ([(7, 1)] : List ID) (by simp) (by simp)⟩
  go_simp
  generalize hZ : (Act.mk _ _) = Z
  refine hK Z ?_
  subst hZ
  clear hK K
  refine kAll_tn _ (fun v W W' hk h => h.keep0 hk) (fun W hW hF => kStep_w (by kernel_rfl) fun K Q hK => ?_) (fun u3 K hK => ?_)
  · have h0 : ISl W _ _ _ ([(1, 1), (2, 1), (4, 1), (7, 1)] : List ID) := HS7.out.keep0 (keep0_trans _ _ _ ((Keep.refl _ _).drew) hW)
    obtain ⟨Ah2, nh2, ch2, rfl, h2⟩ := (show IsI W u2 ([(7, 1)] : List ID) from kHas_at hF 0 rfl (by kernel_rfl))
    go_simp
    refine (watched_is _ _ _ ([(1, 1), (2, 1), (4, 1), (7, 1)] : List ID) (4, 1) _ _ _ ([(7, 1)] : List ID) 1 ([(7, 1), (1, 1)] : List ID) ([(1, 1), (7, 1)] : List ID) W h0.1 h2.1 (by have := h0.1.1; simp at this; omega) (by have := h2.1.1; simp at this; omega) (by omega) (by decide) (by decide) (by decide)).mono ?_
    rintro e w' ⟨A', n', c', rfl, hs, hk⟩
    exact hK _ _ hk ⟨_, _, _, rfl, hs⟩
  go_simp
  generalize hZ : (Act.mk _ _) = Z
  refine hK Z ?_
  subst hZ
  clear hK K
  refine kAll_dn _ (fun W hW hF => kStep_w (by kernel_rfl) fun K Q hK => ?_) (fun K hK => ?_)
  · go_simp
    refine (at_any 1 W).mono ?_
    rintro e w' ⟨rfl, hk⟩
    exact hK _ _ hk rfl
  go_simp
  generalize hZ : (Act.mk _ _) = Z
  refine hK Z ?_
  subst hZ
  clear hK K
  refine kAll_dn _ (fun W hW hF => kStep_w (by kernel_rfl) fun K Q hK => ?_) (fun K hK => ?_)
  · go_simp
    refine (at_any 7 W).mono ?_
    rintro e w' ⟨rfl, hk⟩
    exact hK _ _ hk rfl
  go_simp
  generalize hZ : (Act.mk _ _) = Z
  refine hK Z ?_
  subst hZ
  clear hK K
  refine kAll_tn _ (fun v W W' hk h => h.keep0 hk) (fun W hW hF => kStep_w (by kernel_rfl) fun K Q hK => ?_) (fun u4 K hK => ?_)
  · go_simp
    exact hK _ _ ((Keep.refl _ _).alloc _) ⟨_, _, _, rfl, isl_blk (Blk.new _ _ _) ([(1, 1), (7, 1)] : List ID) (by simp) (by simp)⟩
  go_simp
  generalize hZ : (Act.mk _ _) = Z
  refine hK Z ?_
  subst hZ
  clear hK K
  refine kAll_dn _ (fun W hW hF => kStep_w (by kernel_rfl) fun K Q hK => ?_) (fun K hK => ?_)
  · obtain ⟨Ah0, nh0, ch0, rfl, h0⟩ := (show IsI W u3 ([(1, 1), (7, 1)] : List ID) from kHas_at hF 1 rfl (by kernel_rfl))
    obtain ⟨Ah2, nh2, ch2, rfl, h2⟩ := (show IsI W u4 ([(1, 1), (7, 1)] : List ID) from kHas_at hF 0 rfl (by kernel_rfl))
    go_simp
    refine (same_is _ _ _ _ _ _ ([(1, 1), (7, 1)] : List ID) ([(1, 1), (7, 1)] : List ID) W h0.1 h2.1 (by have := h0.1.1; simp at this; omega) (by have := h2.1.1; simp at this; omega) (by decide)).mono ?_
    rintro e w' ⟨rfl, hk⟩
    exact hK _ _ hk rfl
  go_simp
  generalize hZ : (Act.mk _ _) = Z
  refine hK Z ?_
  subst hZ
  clear hK K
  refine kAll_p (fun K hK => ?_)
  go_simp
  generalize hZ : (Act.mk _ _) = Z
  refine hK Z ?_
  subst hZ
  clear hK K
  refine kAll_p (fun K hK => ?_)
  go_simp
  generalize hZ : (Act.mk _ _) = Z
  refine hK Z ?_
  subst hZ
  clear hK K
  refine kAll_pw (by kernel_rfl) (fun K hK => ?_)
  go_simp
  generalize hZ : (Act.mk _ _) = Z
  refine hK Z ?_
  subst hZ
  clear hK K
  refine kAll_p (fun K hK => ?_)
  go_simp
  generalize hZ : (Act.mk _ _) = Z
  refine hK Z ?_
  subst hZ
  clear hK K
  refine kAll_p (fun K hK => ?_)
  go_simp
  generalize hZ : (Act.mk _ _) = Z
  refine hK Z ?_
  subst hZ
  clear hK K
  refine kAll_dn _ (fun W hW hF => kStep_w (by kernel_rfl) fun K Q hK => ?_) (fun K hK => ?_)
  · have c0 := Keep.cell hW (show World.cell? (World.drew _) ⟨w6.heap.size, 0, none⟩ = some (.int .i64 7) from HB.out.cell 0) (fun h => h)
    have c1 := Keep.cell hW (show World.cell? (World.drew _) ⟨w6.heap.size, 1, none⟩ = some (.int .i64 1) from HB.out.cell 1) (fun h => h)
    go_simp
    exact hK _ _ (Keep.refl _ _) rfl
  go_simp
  generalize hZ : (Act.mk _ _) = Z
  refine hK Z ?_
  subst hZ
  clear hK K
  refine kAll_dn _ (fun W hW hF => kStep_w (by kernel_rfl) fun K Q hK => ?_) (fun K hK => ?_)
  · go_simp
    refine (at_any 7 W).mono ?_
    rintro e w' ⟨rfl, hk⟩
    exact hK _ _ hk rfl
  go_simp
  generalize hZ : (Act.mk _ _) = Z
  refine hK Z ?_
  subst hZ
  clear hK K
  refine kAll_dn _ (fun W hW hF => kStep_w (by kernel_rfl) fun K Q hK => ?_) (fun K hK => ?_)
  · have hE := eql_ID (7, 1) (7, 1) W
    have G := gID
    go_simp
    exact hK _ _ (Keep.refl _ _) rfl
  go_simp
  generalize hZ : (Act.mk _ _) = Z
  refine hK Z ?_
  subst hZ
  clear hK K
  refine kAll_p (fun K hK => ?_)
  go_simp
  generalize hZ : (Act.mk _ _) = Z
  refine hK Z ?_
  subst hZ
  clear hK K
  refine kAll_nil (fun W hW hF => ?_)
  clear hF
  go_wp2
  go_ret
  exact ⟨rfl, keepD HK7.out hW⟩
end Go.Proofs.Ytafolmgbmobfbaa
