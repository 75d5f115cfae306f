/-
  RingNames: it returns true. Written by gen_names.py.
-/
import Derived.Test.YtafolmgbmobfbaaRinE
namespace Go.Proofs.Ytafolmgbmobfbaa
open Go.RowKit
attribute [local irreducible] kAll
attribute [local go_sem] kQuiet kQuietUpon

theorem behind_no (A : Option Addr) (m c : Nat) (ids : List ID) (me : ID) (w : World) (h : RdI w A m ids) (hm : m ≤ 500000) (hr : (ordM ids me).getLast? = none) :
    Calls Try.prog 9 #[.slice A m c, idV me] w (Tell (.tuple #[idV (0, 0), .bool false]) w) := by
  have := behind_any A m c ids me w h hm
  unfold behV lastM at this
  rwa [hr] at this
set_option maxRecDepth 100000 in
set_option maxHeartbeats 4000000 in
theorem names_tell (w : World) : Calls Try.prog 3 #[] w (Tell (.bool true) w) := by
  go_enter Try.func3, Try.ntmps3
  go_wp2_with fail
  refine (at_any 3 _).mono ?_
  rintro e w0 ⟨rfl, hk0⟩
  have HK0 := Lib.hid hk0
  clear hk0
  obtain ⟨w1, hw1⟩ : ∃ w1, w0.alloc (.cells #[.int .i64 3, .int .i64 1] 23) = w1 := ⟨_, rfl⟩
  have HS1 := Lib.hid (show ISl w1 (some ⟨w0.heap.size, 0, none⟩) 1 1 ([(3, 1)] : List ID) by rw [← hw1]; exact isl_blk (Blk.new _ _ _) _ (by simp) (by simp))
  have HK1 := Lib.hid (show Keep (fun _ => False) w w1 by rw [← hw1]; exact HK0.out.alloc _)
  go_wp2_with fail
  clear hw1
  refine (at_any 1 _).mono ?_
  rintro e w2 ⟨rfl, hk2⟩
  have HS2 := Lib.hid (HS1.out.keep0 hk2)
  have HK2 := Lib.hid (keep0_trans _ _ _ HK1.out hk2)
  clear hk2
  go_wp2_with fail
  refine (behind_no none 0 0 [] (1, 1) _ (RdI.none_ _ _) (by omega) (by decide)).mono ?_
  rintro e w3 ⟨rfl, hk3⟩
  have HS4 := Lib.hid ((HS2.out.keep0 hk3).keep0 ((Keep.refl _ w3).alloc (.cells #[.int .i64 0, .int .i64 0] 23)))
  have HK4 := Lib.hid ((keep0_trans _ _ _ HK2.out hk3).alloc (.cells #[.int .i64 0, .int .i64 0] 23))
  clear hk3
  go_wp2_with fail
  refine (at_any 3 _).mono ?_
  rintro e w5 ⟨rfl, hk5⟩
  have HS5 := Lib.hid (HS4.out.keep0 hk5)
  have HK5 := Lib.hid (keep0_trans _ _ _ HK4.out hk5)
  clear hk5
  go_wp2_with fail
  refine (behind_no _ 1 1 ([(3, 1)] : List ID) (3, 1) _ HS5.out.1 (by omega) (by decide)).mono ?_
  rintro e w6 ⟨rfl, hk6⟩
  have HS7 := Lib.hid ((HS5.out.keep0 hk6).keep0 ((Keep.refl _ w6).alloc (.cells #[.int .i64 0, .int .i64 0] 23)))
  have HK7 := Lib.hid ((keep0_trans _ _ _ HK5.out hk6).alloc (.cells #[.int .i64 0, .int .i64 0] 23))
  clear hk6
  go_wp2_with fail
  refine (at_any 1 _).mono ?_
  rintro e w7 ⟨rfl, hk7⟩
  have HS8 := Lib.hid (HS7.out.keep0 hk7)
  have HK8 := Lib.hid (keep0_trans _ _ _ HK7.out hk7)
  clear hk7
  go_wp2_with fail
  refine (behind_is _ 1 1 ([(3, 1)] : List ID) (1, 1) (3, 1) _ HS8.out.1 (by omega) (by decide)).mono ?_
  rintro e w8 ⟨rfl, hk8⟩
  have HB := Lib.hid (Blk.new w8 23 #[.int .i64 3, .int .i64 1])
  have HS9 := Lib.hid ((HS8.out.keep0 hk8).keep0 ((Keep.refl _ w8).alloc (.cells #[.int .i64 3, .int .i64 1] 23)))
  have HK9 := Lib.hid ((keep0_trans _ _ _ HK8.out hk8).alloc (.cells #[.int .i64 3, .int .i64 1] 23))
  clear hk8
  go_wp2_with fail
  refine wp_region_krip (Keep (fun _ => False)) (Keep.refl _) keep0_trans 52 (by kernel_rfl) (by kernel_rfl) (Ts := [some (.inl (idV (1, 1))), some (.inr (fun v W => IsI W v ([] : List ID))), some (.inl (.int .i64 0)), none, none, none, some (.inl (idV (3, 1))), some (.inr (fun v W => IsI W v ([] : List ID))), some (.inl (.int .i64 0)), none, none, none, none, some (.inl (idV (1, 1))), some (.inr (fun v W => IsI W v ([] : List ID))), some (.inl (.int .i64 0)), none, none, none, none, some (.inl (idV (1, 1))), some (.inr (fun v W => IsI W v ([] : List ID))), some (.inl (.int .i64 0)), none, none, none, none, some (.inl (idV (1, 1))), none, some (.inr (fun v W => IsI W v ([(3, 1)] : List ID))), some (.inl (.int .i64 1)), none, none, none, none, none, none, none, none, none, none, none, some (.inl (idV (3, 1))), some (.inl (idV (3, 1))), some (.inl (.bool true)), none, none, none, none, none, some (.inl (.bool true)), none]) ?_
  simp only [List.take, List.drop]
  refine kAll_dn _ (fun W hW hF => kStep_of fun K Q hK => ?_) (fun K hK => ?_)
  · go_simp
    refine (at_any 1 W).mono ?_
    rintro e w' ⟨rfl, hk⟩
    exact hK _ _ hk rfl
  go_simp
  generalize hZ : (Act.mk _ _) = Z
  refine hK Z ?_
  subst hZ
  clear hK K
  refine kAll_tn _ (fun v W W' hk h => h.keep0 hk) (fun W hW hF => kStep_of fun K Q hK => ?_) (fun u0 K hK => ?_)
  · have h0 : ISl W none 0 0 [] := ⟨RdI.none_ _ _, Nat.le_refl _, by simp [maxLen], .inl rfl⟩
    go_simp
    refine (order_is _ _ _ ([] : List ID) (1, 1) ([] : List ID) W h0.1 (by have := h0.1.1; simp at this; omega) (by decide)).mono ?_
    rintro e w' ⟨row', A', c', rfl, hs, _, hk⟩
    exact hK _ _ hk ⟨_, _, _, rfl, hs.isl⟩
  go_simp
  generalize hZ : (Act.mk _ _) = Z
  refine hK Z ?_
  subst hZ
  clear hK K
  refine kAll_dn _ (fun W hW hF => kStep_of fun K Q hK => ?_) (fun K hK => ?_)
  · obtain ⟨Ah0, nh0, ch0, rfl, h0⟩ := (show IsI W u0 ([] : List ID) from kHas_at hF 0 rfl (by kernel_rfl))
    have hl : nh0 = 0 := by have := h0.1.1; simp at this; omega
    subst hl
    go_simp
    exact hK _ _ (Keep.refl _ _) rfl
  go_simp
  generalize hZ : (Act.mk _ _) = Z
  refine hK Z ?_
  subst hZ
  clear hK K
  refine kAll_p (fun K hK => ?_)
  go_simp
  generalize hZ : (Act.mk _ _) = Z
  refine hK Z ?_
  subst hZ
  clear hK K
  refine kAll_p (fun K hK => ?_)
  go_simp
  generalize hZ : (Act.mk _ _) = Z
  refine hK Z ?_
  subst hZ
  clear hK K
  refine kAll_pw (by kernel_rfl) (fun K hK => ?_)
  go_simp
  generalize hZ : (Act.mk _ _) = Z
  refine hK Z ?_
  subst hZ
  clear hK K
  refine kAll_dn _ (fun W hW hF => kStep_w (by kernel_rfl) fun K Q hK => ?_) (fun K hK => ?_)
  · go_simp
    refine (at_any 3 W).mono ?_
    rintro e w' ⟨rfl, hk⟩
    exact hK _ _ hk rfl
  go_simp
  generalize hZ : (Act.mk _ _) = Z
  refine hK Z ?_
  subst hZ
  clear hK K
  refine kAll_tn _ (fun v W W' hk h => h.keep0 hk) (fun W hW hF => kStep_w (by kernel_rfl) fun K Q hK => ?_) (fun u1 K hK => ?_)
  · have h0 : ISl W _ _ _ ([(3, 1)] : List ID) := HS9.out.keep0 (keep0_trans _ _ _ ((Keep.refl _ _).drew) hW)
    go_simp
    refine (order_is _ _ _ ([(3, 1)] : List ID) (3, 1) ([] : List ID) W h0.1 (by have := h0.1.1; simp at this; omega) (by decide)).mono ?_
    rintro e w' ⟨row', A', c', rfl, hs, _, hk⟩
    exact hK _ _ hk ⟨_, _, _, rfl, hs.isl⟩
  go_simp
  generalize hZ : (Act.mk _ _) = Z
  refine hK Z ?_
  subst hZ
  clear hK K
  refine kAll_dn _ (fun W hW hF => kStep_w (by kernel_rfl) fun K Q hK => ?_) (fun K hK => ?_)
  · obtain ⟨Ah0, nh0, ch0, rfl, h0⟩ := (show IsI W u1 ([] : List ID) from kHas_at hF 0 rfl (by kernel_rfl))
    have hl : nh0 = 0 := by have := h0.1.1; simp at this; omega
    subst hl
    go_simp
    exact hK _ _ (Keep.refl _ _) rfl
  go_simp
  generalize hZ : (Act.mk _ _) = Z
  refine hK Z ?_
  subst hZ
  clear hK K
  refine kAll_pw (by kernel_rfl) (fun K hK => ?_)
  go_simp
  generalize hZ : (Act.mk _ _) = Z
  refine hK Z ?_
  subst hZ
  clear hK K
  refine kAll_p (fun K hK => ?_)
  go_simp
  generalize hZ : (Act.mk _ _) = Z
  refine hK Z ?_
  subst hZ
  clear hK K
  refine kAll_p (fun K hK => ?_)
  go_simp
  generalize hZ : (Act.mk _ _) = Z
  refine hK Z ?_
  subst hZ
  clear hK K
  refine kAll_pw (by kernel_rfl) (fun K hK => ?_)
  go_simp
  generalize hZ : (Act.mk _ _) = Z
  refine hK Z ?_
  subst hZ
  clear hK K
  refine kAll_dn _ (fun W hW hF => kStep_w (by kernel_rfl) fun K Q hK => ?_) (fun K hK => ?_)
  · go_simp
    refine (at_any 1 W).mono ?_
    rintro e w' ⟨rfl, hk⟩
    exact hK _ _ hk rfl
  go_simp
  generalize hZ : (Act.mk _ _) = Z
  refine hK Z ?_
  subst hZ
  clear hK K
  refine kAll_tn _ (fun v W W' hk h => h.keep0 hk) (fun W hW hF => kStep_w (by kernel_rfl) fun K Q hK => ?_) (fun u2 K hK => ?_)
  · have h0 : ISl W _ _ _ ([(3, 1)] : List ID) := HS9.out.keep0 (keep0_trans _ _ _ ((Keep.refl _ _).drew) hW)
    have h2 : ISl W none 0 0 [] := ⟨RdI.none_ _ _, Nat.le_refl _, by simp [maxLen], .inl rfl⟩
    go_simp
    refine (watched_is _ _ _ ([(3, 1)] : List ID) (1, 1) _ _ _ ([] : List ID) 0 ([] : List ID) ([] : List ID) W h0.1 h2.1 (by have := h0.1.1; simp at this; omega) (by have := h2.1.1; simp at this; omega) (by omega) (by decide) (by decide) (by decide)).mono ?_
    rintro e w' ⟨A', n', c', rfl, hs, hk⟩
    exact hK _ _ hk ⟨_, _, _, rfl, hs⟩
  go_simp
  generalize hZ : (Act.mk _ _) = Z
  refine hK Z ?_
  subst hZ
  clear hK K
  refine kAll_dn _ (fun W hW hF => kStep_w (by kernel_rfl) fun K Q hK => ?_) (fun K hK => ?_)
  · obtain ⟨Ah0, nh0, ch0, rfl, h0⟩ := (show IsI W u2 ([] : List ID) from kHas_at hF 0 rfl (by kernel_rfl))
    have hl : nh0 = 0 := by have := h0.1.1; simp at this; omega
    subst hl
    go_simp
    exact hK _ _ (Keep.refl _ _) rfl
  go_simp
  generalize hZ : (Act.mk _ _) = Z
  refine hK Z ?_
  subst hZ
  clear hK K
  refine kAll_pw (by kernel_rfl) (fun K hK => ?_)
  go_simp
  generalize hZ : (Act.mk _ _) = Z
  refine hK Z ?_
  subst hZ
  clear hK K
  refine kAll_p (fun K hK => ?_)
  go_simp
  generalize hZ : (Act.mk _ _) = Z
  refine hK Z ?_
  subst hZ
  clear hK K
  refine kAll_p (fun K hK => ?_)
  go_simp
  generalize hZ : (Act.mk _ _) = Z
  refine hK Z ?_
  subst hZ
  clear hK K
  refine kAll_pw (by kernel_rfl) (fun K hK => ?_)
  go_simp
  generalize hZ : (Act.mk _ _) = Z
  refine hK Z ?_
  subst hZ
  clear hK K
  refine kAll_dn _ (fun W hW hF => kStep_w (by kernel_rfl) fun K Q hK => ?_) (fun K hK => ?_)
  · go_simp
    refine (at_any 1 W).mono ?_
    rintro e w' ⟨rfl, hk⟩
    exact hK _ _ hk rfl
  go_simp
  generalize hZ : (Act.mk _ _) = Z
  refine hK Z ?_
  subst hZ
  clear hK K
  refine kAll_tn _ (fun v W W' hk h => h.keep0 hk) (fun W hW hF => kStep_w (by kernel_rfl) fun K Q hK => ?_) (fun u3 K hK => ?_)
  · have h0 : ISl W _ _ _ ([(3, 1)] : List ID) := HS9.out.keep0 (keep0_trans _ _ _ ((Keep.refl _ _).drew) hW)
    have h2 : ISl W none 0 0 [] := ⟨RdI.none_ _ _, Nat.le_refl _, by simp [maxLen], .inl rfl⟩
    go_simp
    refine (watched_is _ _ _ ([(3, 1)] : List ID) (1, 1) _ _ _ ([] : List ID) (-5) ([] : List ID) ([] : List ID) W h0.1 h2.1 (by have := h0.1.1; simp at this; omega) (by have := h2.1.1; simp at this; omega) (by omega) (by decide) (by decide) (by decide)).mono ?_
    rintro e w' ⟨A', n', c', rfl, hs, hk⟩
    exact hK _ _ hk ⟨_, _, _, rfl, hs⟩
  go_simp
  generalize hZ : (Act.mk _ _) = Z
  refine hK Z ?_
  subst hZ
  clear hK K
  refine kAll_dn _ (fun W hW hF => kStep_w (by kernel_rfl) fun K Q hK => ?_) (fun K hK => ?_)
  · obtain ⟨Ah0, nh0, ch0, rfl, h0⟩ := (show IsI W u3 ([] : List ID) from kHas_at hF 0 rfl (by kernel_rfl))
    have hl : nh0 = 0 := by have := h0.1.1; simp at this; omega
    subst hl
    go_simp
    exact hK _ _ (Keep.refl _ _) rfl
  go_simp
  generalize hZ : (Act.mk _ _) = Z
  refine hK Z ?_
  subst hZ
  clear hK K
  refine kAll_pw (by kernel_rfl) (fun K hK => ?_)
  go_simp
  generalize hZ : (Act.mk _ _) = Z
  refine hK Z ?_
  subst hZ
  clear hK K
  refine kAll_p (fun K hK => ?_)
  go_simp
  generalize hZ : (Act.mk _ _) = Z
  refine hK Z ?_
  subst hZ
  clear hK K
  refine kAll_p (fun K hK => ?_)
  go_simp
  generalize hZ : (Act.mk _ _) = Z
  refine hK Z ?_
  subst hZ
  clear hK K
  refine kAll_pw (by kernel_rfl) (fun K hK => ?_)
  go_simp
  generalize hZ : (Act.mk _ _) = Z
  refine hK Z ?_
  subst hZ
  clear hK K
  refine kAll_dn _ (fun W hW hF => kStep_w (by kernel_rfl) fun K Q hK => ?_) (fun K hK => ?_)
  · go_simp
    refine (at_any 1 W).mono ?_
    rintro e w' ⟨rfl, hk⟩
    exact hK _ _ hk rfl
  go_simp
  generalize hZ : (Act.mk _ _) = Z
  refine hK Z ?_
  subst hZ
  clear hK K
  refine kAll_pw (by kernel_rfl) (fun K hK => ?_)
  go_simp
  generalize hZ : (Act.mk _ _) = Z
  refine hK Z ?_
  subst hZ
  clear hK K
  refine kAll_tn _ (fun v W W' hk h => h.keep0 hk) (fun W hW hF => kStep_w (by kernel_rfl) fun K Q hK => ?_) (fun u4 K hK => ?_)
  · have h0 : ISl W _ _ _ ([(3, 1)] : List ID) := HS9.out.keep0 (keep0_trans _ _ _ ((Keep.refl _ _).drew) hW)
    have h2 : ISl W _ _ _ ([(3, 1)] : List ID) := HS9.out.keep0 (keep0_trans _ _ _ ((Keep.refl _ _).drew) hW)
    go_simp
    refine (watched_is _ _ _ ([(3, 1)] : List ID) (1, 1) _ _ _ ([(3, 1)] : List ID) (-5) ([(3, 1)] : List ID) ([(3, 1)] : List ID) W h0.1 h2.1 (by have := h0.1.1; simp at this; omega) (by have := h2.1.1; simp at this; omega) (by omega) (by decide) (by decide) (by decide)).mono ?_
    rintro e w' ⟨A', n', c', rfl, hs, hk⟩
    exact hK _ _ hk ⟨_, _, _, rfl, hs⟩
  go_simp
  generalize hZ : (Act.mk _ _) = Z
  refine hK Z ?_
  subst hZ
  clear hK K
  refine kAll_dn _ (fun W hW hF => kStep_w (by kernel_rfl) fun K Q hK => ?_) (fun K hK => ?_)
  · obtain ⟨Ah0, nh0, ch0, rfl, h0⟩ := (show IsI W u4 ([(3, 1)] : List ID) from kHas_at hF 0 rfl (by kernel_rfl))
    have hl : nh0 = 1 := by have := h0.1.1; simp at this; omega
    subst hl
    go_simp
    exact hK _ _ (Keep.refl _ _) rfl
  go_simp
  generalize hZ : (Act.mk _ _) = Z
  refine hK Z ?_
  subst hZ
  clear hK K
  refine kAll_pw (by kernel_rfl) (fun K hK => ?_)
  go_simp
  generalize hZ : (Act.mk _ _) = Z
  refine hK Z ?_
  subst hZ
  clear hK K
  refine kAll_p (fun K hK => ?_)
  go_simp
  generalize hZ : (Act.mk _ _) = Z
  refine hK Z ?_
  subst hZ
  clear hK K
  refine kAll_p (fun K hK => ?_)
  go_simp
  generalize hZ : (Act.mk _ _) = Z
  refine hK Z ?_
  subst hZ
  clear hK K
  refine kAll_pw (by kernel_rfl) (fun K hK => ?_)
  go_simp
  generalize hZ : (Act.mk _ _) = Z
  refine hK Z ?_
  subst hZ
  clear hK K
  refine kAll_pw (by kernel_rfl) (fun K hK => ?_)
  go_simp
  generalize hZ : (Act.mk _ _) = Z
  refine hK Z ?_
  subst hZ
  clear hK K
  refine kAll_p (fun K hK => ?_)
  go_simp
  generalize hZ : (Act.mk _ _) = Z
  refine hK Z ?_
  subst hZ
  clear hK K
  refine kAll_p (fun K hK => ?_)
  go_simp
  generalize hZ : (Act.mk _ _) = Z
  refine hK Z ?_
  subst hZ
  clear hK K
  refine kAll_pw (by kernel_rfl) (fun K hK => ?_)
  go_simp
  generalize hZ : (Act.mk _ _) = Z
  refine hK Z ?_
  subst hZ
  clear hK K
  refine kAll_pw (by kernel_rfl) (fun K hK => ?_)
  go_simp
  generalize hZ : (Act.mk _ _) = Z
  refine hK Z ?_
  subst hZ
  clear hK K
  refine kAll_p (fun K hK => ?_)
  go_simp
  generalize hZ : (Act.mk _ _) = Z
  refine hK Z ?_
  subst hZ
  clear hK K
  refine kAll_p (fun K hK => ?_)
  go_simp
  generalize hZ : (Act.mk _ _) = Z
  refine hK Z ?_
  subst hZ
  clear hK K
  refine kAll_dn _ (fun W hW hF => kStep_w (by kernel_rfl) fun K Q hK => ?_) (fun K hK => ?_)
  · have c0 := Keep.cell hW (show World.cell? (World.drew _) ⟨w8.heap.size, 0, none⟩ = some (.int .i64 3) from HB.out.cell 0) (fun h => h)
    have c1 := Keep.cell hW (show World.cell? (World.drew _) ⟨w8.heap.size, 1, none⟩ = some (.int .i64 1) from HB.out.cell 1) (fun h => h)
    go_simp
    exact hK _ _ (Keep.refl _ _) rfl
  go_simp
  generalize hZ : (Act.mk _ _) = Z
  refine hK Z ?_
  subst hZ
  clear hK K
  refine kAll_dn _ (fun W hW hF => kStep_w (by kernel_rfl) fun K Q hK => ?_) (fun K hK => ?_)
  · go_simp
    refine (at_any 3 W).mono ?_
    rintro e w' ⟨rfl, hk⟩
    exact hK _ _ hk rfl
  go_simp
  generalize hZ : (Act.mk _ _) = Z
  refine hK Z ?_
  subst hZ
  clear hK K
  refine kAll_dn _ (fun W hW hF => kStep_w (by kernel_rfl) fun K Q hK => ?_) (fun K hK => ?_)
  · have hE := eql_ID (3, 1) (3, 1) W
    have G := gID
    go_simp
    exact hK _ _ (Keep.refl _ _) rfl
  go_simp
  generalize hZ : (Act.mk _ _) = Z
  refine hK Z ?_
  subst hZ
  clear hK K
  refine kAll_p (fun K hK => ?_)
  go_simp
  generalize hZ : (Act.mk _ _) = Z
  refine hK Z ?_
  subst hZ
  clear hK K
  refine kAll_p (fun K hK => ?_)
  go_simp
  generalize hZ : (Act.mk _ _) = Z
  refine hK Z ?_
  subst hZ
  clear hK K
  refine kAll_pw (by kernel_rfl) (fun K hK => ?_)
  go_simp
  generalize hZ : (Act.mk _ _) = Z
  refine hK Z ?_
  subst hZ
  clear hK K
  refine kAll_p (fun K hK => ?_)
  go_simp
  generalize hZ : (Act.mk _ _) = Z
  refine hK Z ?_
  subst hZ
  clear hK K
  refine kAll_p (fun K hK => ?_)
  go_simp
  generalize hZ : (Act.mk _ _) = Z
  refine hK Z ?_
  subst hZ
  clear hK K
  refine kAll_dn _ (fun W hW hF => kStep_w (by kernel_rfl) fun K Q hK => ?_) (fun K hK => ?_)
  · go_simp
    refine (awake_any W).mono ?_
    rintro e w' ⟨rfl, hk⟩
    exact hK _ _ hk rfl
  go_simp
  generalize hZ : (Act.mk _ _) = Z
  refine hK Z ?_
  subst hZ
  clear hK K
  refine kAll_p (fun K hK => ?_)
  go_simp
  generalize hZ : (Act.mk _ _) = Z
  refine hK Z ?_
  subst hZ
  clear hK K
  refine kAll_nil (fun W hW hF => ?_)
  clear hF
  go_wp2
  go_ret
  exact ⟨rfl, keepD HK9.out hW⟩
theorem walkRingNames (w : World) : Calls Try.prog 3 #[] w fun e w' => e = .returned (.bool true) ∧ Below w.heap.size w w' := (names_tell w).mono fun _ _ ⟨h, k⟩ => ⟨h, k.b⟩
end Go.Proofs.Ytafolmgbmobfbaa
