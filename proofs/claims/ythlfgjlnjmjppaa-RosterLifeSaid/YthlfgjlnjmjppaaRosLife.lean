/-
  Roster: RosterLife. Written by gen_life.py.
-/
import Derived.Test.YthlfgjlnjmjppaaRosV
namespace Go.Proofs.Ythlfgjlnjmjppaa
open Go.RowKit
attribute [local irreducible] kAll
attribute [local go_sem] kQuiet kQuietUpon


theorem alive_any (x : Mem) (w : World) : Calls Try.prog 16 #[memV x] w (Tell (.bool (mayID x.id && decide (1 ≤ x.st ∧ x.st ≤ 6))) w) := by
  obtain ⟨a, i, s, n⟩ := x
  go_enter Try.func16, Try.ntmps16
  go_wp2_with fail
  refine (mayref_any (a, i) _).mono ?_
  rintro e w1 ⟨rfl, hk⟩
  have hb := (Blk.new w 32 #[.int .i64 a, .int .i64 i, .int .u8 s, .int .i64 n]).keep hk (fun h => h)
  have c2 := hb.cell 2
  simp at c2
  have HK := Lib.hid (keep0_trans _ _ _ ((Keep.refl _ w).alloc _) hk)
  clear hk hb
  cases hm : mayID (a, i)
  all_goals
    have HM := Lib.hid (show mayID (Mem.id ⟨a, i, s, n⟩) = _ from hm)
    clear hm
    go_wp2
  all_goals
    go_ret
    refine ⟨ret_bool ?_, HK.out⟩
    rw [HM.out, Bool.eq_iff_iff]
    simp
  all_goals omega
theorem alive_is (x : Mem) (w : World) (r : Bool) (hr : (mayID x.id && decide (1 ≤ x.st ∧ x.st ≤ 6)) = r) : Calls Try.prog 16 #[memV x] w (Tell (.bool r) w) := by
  subst hr; exact alive_any x w
theorem alive_ok {x : Mem} (h : (mayID x.id && decide (1 ≤ x.st ∧ x.st ≤ 6)) = true) : okE x = true ∧ x.st ≤ 6 := by
  simp only [Bool.and_eq_true, decide_eq_true_eq] at h
  simp only [okE, Bool.and_eq_true, decide_eq_true_eq]
  exact ⟨⟨h.1, by omega⟩, h.2.2⟩
set_option maxRecDepth 100000 in
set_option maxHeartbeats 4000000 in
theorem life_any (va : Value) (a : LI) (x y : Mem) (w : World) (ha : IsL w va a.1 a.2) : Calls Try.prog 4 #[va, memV x, memV y] w (Tell (.bool true) w) := by
  obtain ⟨Aa, na, ca, Ba_, ma, da, rfl, ha1, ha2⟩ := ha
  obtain ⟨xa, xi, xs, xn⟩ := x
  obtain ⟨ya, yi, ys, yn⟩ := y
  have hk0 : Keep (fun _ => False) w (((w.alloc (.cells #[.slice Aa na ca, .slice Ba_ ma da] 25)).alloc (.cells #[.int .i64 xa, .int .i64 xi, .int .u8 xs, .int .i64 xn] 32)).alloc (.cells #[.int .i64 xa, .int .i64 yi, .int .u8 ys, .int .i64 yn] 32)) := (((Keep.refl _ w).alloc _).alloc _).alloc _
  have b0 := ((Blk.new w 25 #[.slice Aa na ca, .slice Ba_ ma da]).alloc (.cells #[.int .i64 xa, .int .i64 xi, .int .u8 xs, .int .i64 xn] 32)).alloc (.cells #[.int .i64 xa, .int .i64 yi, .int .u8 ys, .int .i64 yn] 32)
  have b1 := (Blk.new_ (w := w.alloc (.cells #[.slice Aa na ca, .slice Ba_ ma da] 25)) (B := w.heap.size + 1) (by simp) 32 #[.int .i64 xa, .int .i64 xi, .int .u8 xs, .int .i64 xn]).alloc (.cells #[.int .i64 xa, .int .i64 yi, .int .u8 ys, .int .i64 yn] 32)
  have b2 := Blk.new_ (w := (w.alloc (.cells #[.slice Aa na ca, .slice Ba_ ma da] 25)).alloc (.cells #[.int .i64 xa, .int .i64 xi, .int .u8 xs, .int .i64 xn] 32)) (B := w.heap.size + 1 + 1) (by simp) 32 #[.int .i64 xa, .int .i64 yi, .int .u8 ys, .int .i64 yn]
  generalize hw0 : ((w.alloc (.cells #[.slice Aa na ca, .slice Ba_ ma da] 25)).alloc (.cells #[.int .i64 xa, .int .i64 xi, .int .u8 xs, .int .i64 xn] 32)).alloc (.cells #[.int .i64 xa, .int .i64 yi, .int .u8 ys, .int .i64 yn] 32) = w0 at *
  have HW0 := Lib.hid hw0
  have K0 := Lib.hid hk0
  have B3 := Lib.hid b0
  have B4 := Lib.hid b1
  have B5 := Lib.hid b2
  have FA : Hid (∀ W, Keep (fun _ => False) w0 W → IsL W (.agg #[.slice Aa na ca, .slice Ba_ ma da]) a.1 a.2) := Lib.hid fun W h => ⟨_, _, _, _, _, _, rfl, ha1.keep0 (keep0_trans _ _ _ hk0 h), ha2.keep0 (keep0_trans _ _ _ hk0 h)⟩
  clear hk0 b0 b1 b2 ha1 ha2 hw0
  go_enter Try.func4, Try.ntmps4
  go_upto_region 3 with (fail)
  rw [HW0.out]
  clear HW0
  cases hbig : [a].any bigL
  · have HBig := Lib.hid hbig
    have hs : bigL a = false := by simpa using hbig
    have LA := Lib.hid (len_small hs)
    clear hs hbig
    cases hax : mayID (Mem.id (⟨xa, xi, xs, xn⟩ : Mem)) && decide (1 ≤ (⟨xa, xi, xs, xn⟩ : Mem).st ∧ (⟨xa, xi, xs, xn⟩ : Mem).st ≤ 6)
    · have HAx := Lib.hid hax
      clear hax
      refine wp_region_kord (Keep (fun _ => False)) (Keep.refl _) keep0_trans 28 (Ts := [some (.inl (.bool true)), none, none, some (.inl (.agg #[.slice Aa na ca, .slice Ba_ ma da])), some (.inr (fun v W => IsLv W v [a])), some (.inl (.bool false)), none, none, none, some (.inl (.agg #[.int .i64 xa, .int .i64 xi, .int .u8 xs, .int .i64 xn])), some (.inl (.bool false)), none, none, none, none, none, none, none, none, none, none, none, none, none, none, none, none, none]) ?_
      simp only [List.take, List.drop]
      refine kAll_dn _ (fun W hW hF => kStep_of fun K Q hK => ?_) (fun K hK => ?_)
      · go_simp
        refine (works_any W).mono ?_
        rintro e w' ⟨rfl, hk⟩
        exact hK _ _ hk rfl
      go_simp
      generalize hZ : (Act.mk _ _) = Z
      refine hK Z ?_
      subst hZ
      clear hK K
      refine kAll_p (fun K hK => ?_)
      go_simp
      generalize hZ : (Act.mk _ _) = Z
      refine hK Z ?_
      subst hZ
      clear hK K
      refine kAll_p (fun K hK => ?_)
      go_simp
      generalize hZ : (Act.mk _ _) = Z
      refine hK Z ?_
      subst hZ
      clear hK K
      refine kAll_dn _ (fun W hW hF => kStep_w (by kernel_rfl) fun K Q hK => ?_) (fun K hK => ?_)
      · have e0 := (B3.out.keep hW (fun h => h)).cell 0
        have e1 := (B3.out.keep hW (fun h => h)).cell 1
        simp at e0 e1
        go_simp
        exact hK _ _ (Keep.refl _ _) rfl
      go_simp
      generalize hZ : (Act.mk _ _) = Z
      refine hK Z ?_
      subst hZ
      clear hK K
      refine kAll_tn _ (fun v W W' hk h => h.keep0 hk) (fun W hW hF => kStep_w (by kernel_rfl) fun K Q hK => ?_) (fun u0 K hK => ?_)
      · have h0 := FA.out W (hW)
        go_simp
        exact hK _ _ ((Keep.refl _ _).alloc _) (isLv1 h0)
      go_simp
      generalize hZ : (Act.mk _ _) = Z
      refine hK Z ?_
      subst hZ
      clear hK K
      refine kAll_dn _ (fun W hW hF => kStep_w (by kernel_rfl) fun K Q hK => ?_) (fun K hK => ?_)
      · have h0 : (fun v W => IsLv W v [a]) u0 W := kHas_at hF 0 rfl (by kernel_rfl)
        obtain ⟨A9, n9, c9, rfl, h9⟩ := h0
        go_simp
        refine (large_is _ [a] W false ⟨_, _, _, rfl, h9⟩ (by simp) HBig.out).mono ?_
        rintro e w' ⟨rfl, hk⟩
        exact hK _ _ hk rfl
      go_simp
      generalize hZ : (Act.mk _ _) = Z
      refine hK Z ?_
      subst hZ
      clear hK K
      refine kAll_p (fun K hK => ?_)
      go_simp
      generalize hZ : (Act.mk _ _) = Z
      refine hK Z ?_
      subst hZ
      clear hK K
      refine kAll_p (fun K hK => ?_)
      go_simp
      generalize hZ : (Act.mk _ _) = Z
      refine hK Z ?_
      subst hZ
      clear hK K
      refine kAll_pw (by kernel_rfl) (fun K hK => ?_)
      go_simp
      generalize hZ : (Act.mk _ _) = Z
      refine hK Z ?_
      subst hZ
      clear hK K
      refine kAll_dn _ (fun W hW hF => kStep_w (by kernel_rfl) fun K Q hK => ?_) (fun K hK => ?_)
      · have e0 := (B4.out.keep hW (fun h => h)).cell 0
        have e1 := (B4.out.keep hW (fun h => h)).cell 1
        have e2 := (B4.out.keep hW (fun h => h)).cell 2
        have e3 := (B4.out.keep hW (fun h => h)).cell 3
        simp at e0 e1 e2 e3
        go_simp
        exact hK _ _ (Keep.refl _ _) rfl
      go_simp
      generalize hZ : (Act.mk _ _) = Z
      refine hK Z ?_
      subst hZ
      clear hK K
      refine kAll_dn _ (fun W hW hF => kStep_w (by kernel_rfl) fun K Q hK => ?_) (fun K hK => ?_)
      · go_simp
        refine (alive_is (⟨xa, xi, xs, xn⟩ : Mem) W false HAx.out).mono ?_
        rintro e w' ⟨rfl, hk⟩
        exact hK _ _ hk rfl
      go_simp
      generalize hZ : (Act.mk _ _) = Z
      refine hK Z ?_
      subst hZ
      clear hK K
      refine kAll_pw (by kernel_rfl) (fun K hK => ?_)
      go_simp
      generalize hZ : (Act.mk _ _) = Z
      refine hK Z ?_
      subst hZ
      clear hK K
      refine kAll_p (fun K hK => ?_)
      go_simp
      generalize hZ : (Act.mk _ _) = Z
      refine hK Z ?_
      subst hZ
      clear hK K
      refine kAll_p (fun K hK => ?_)
      go_simp
      generalize hZ : (Act.mk _ _) = Z
      refine hK Z ?_
      subst hZ
      clear hK K
      refine kAll_skip (by kernel_rfl) ?_
      refine kAll_skip (by kernel_rfl) ?_
      refine kAll_skip (by kernel_rfl) ?_
      refine kAll_skip (by kernel_rfl) ?_
      refine kAll_p (fun K hK => ?_)
      go_simp
      generalize hZ : (Act.mk _ _) = Z
      refine hK Z ?_
      subst hZ
      clear hK K
      refine kAll_p (fun K hK => ?_)
      go_simp
      generalize hZ : (Act.mk _ _) = Z
      refine hK Z ?_
      subst hZ
      clear hK K
      refine kAll_skip (by kernel_rfl) ?_
      refine kAll_skip (by kernel_rfl) ?_
      refine kAll_skip (by kernel_rfl) ?_
      refine kAll_skip (by kernel_rfl) ?_
      refine kAll_skip (by kernel_rfl) ?_
      refine kAll_skip (by kernel_rfl) ?_
      refine kAll_skip (by kernel_rfl) ?_
      refine kAll_p (fun K hK => ?_)
      go_simp
      generalize hZ : (Act.mk _ _) = Z
      refine hK Z ?_
      subst hZ
      clear hK K
      refine kAll_nil (fun W1 hW hF => ?_)
      clear hF
      have hk_2 : Keep (fun _ => False) w0 W1 := hW
      have B_3 := Lib.hid (B3.out.keep hk_2 (fun h => h))
      have B_4 := Lib.hid (B4.out.keep hk_2 (fun h => h))
      have B_5 := Lib.hid (B5.out.keep hk_2 (fun h => h))
      have F_6 := Lib.hid (fun W h => FA.out W (keep0_trans _ _ _ hk_2 h))
      have K_7 := Lib.hid (keep0_trans _ _ _ K0.out hk_2)
      clear hk_2 B3 B4 B5 FA K0
      clear hW
      go_wp2_with fail
      refine (works_any _).mono ?_
      rintro e w2 ⟨rfl, hk⟩
      have KZ := Lib.hid (keep0_trans _ _ _ K_7.out hk)
      clear hk
      go_wp2
      go_ret
      exact ⟨rfl, KZ.out⟩
    · have HAx := Lib.hid hax
      clear hax
      cases hay : mayID (Mem.id (⟨xa, yi, ys, yn⟩ : Mem)) && decide (1 ≤ (⟨xa, yi, ys, yn⟩ : Mem).st ∧ (⟨xa, yi, ys, yn⟩ : Mem).st ≤ 6)
      · have HAy := Lib.hid hay
        clear hay
        refine wp_region_kord (Keep (fun _ => False)) (Keep.refl _) keep0_trans 28 (Ts := [some (.inl (.bool true)), none, none, some (.inl (.agg #[.slice Aa na ca, .slice Ba_ ma da])), some (.inr (fun v W => IsLv W v [a])), some (.inl (.bool false)), none, none, none, some (.inl (.agg #[.int .i64 xa, .int .i64 xi, .int .u8 xs, .int .i64 xn])), some (.inl (.bool true)), none, none, none, none, some (.inl (.agg #[.int .i64 xa, .int .i64 yi, .int .u8 ys, .int .i64 yn])), some (.inl (.bool false)), none, none, none, none, none, none, none, none, none, none, none]) ?_
        simp only [List.take, List.drop]
        refine kAll_dn _ (fun W hW hF => kStep_of fun K Q hK => ?_) (fun K hK => ?_)
        · go_simp
          refine (works_any W).mono ?_
          rintro e w' ⟨rfl, hk⟩
          exact hK _ _ hk rfl
        go_simp
        generalize hZ : (Act.mk _ _) = Z
        refine hK Z ?_
        subst hZ
        clear hK K
        refine kAll_p (fun K hK => ?_)
        go_simp
        generalize hZ : (Act.mk _ _) = Z
        refine hK Z ?_
        subst hZ
        clear hK K
        refine kAll_p (fun K hK => ?_)
        go_simp
        generalize hZ : (Act.mk _ _) = Z
        refine hK Z ?_
        subst hZ
        clear hK K
        refine kAll_dn _ (fun W hW hF => kStep_w (by kernel_rfl) fun K Q hK => ?_) (fun K hK => ?_)
        · have e0 := (B3.out.keep hW (fun h => h)).cell 0
          have e1 := (B3.out.keep hW (fun h => h)).cell 1
          simp at e0 e1
          go_simp
          exact hK _ _ (Keep.refl _ _) rfl
        go_simp
        generalize hZ : (Act.mk _ _) = Z
        refine hK Z ?_
        subst hZ
        clear hK K
        refine kAll_tn _ (fun v W W' hk h => h.keep0 hk) (fun W hW hF => kStep_w (by kernel_rfl) fun K Q hK => ?_) (fun u0 K hK => ?_)
        · have h0 := FA.out W (hW)
          go_simp
          exact hK _ _ ((Keep.refl _ _).alloc _) (isLv1 h0)
        go_simp
        generalize hZ : (Act.mk _ _) = Z
        refine hK Z ?_
        subst hZ
        clear hK K
        refine kAll_dn _ (fun W hW hF => kStep_w (by kernel_rfl) fun K Q hK => ?_) (fun K hK => ?_)
        · have h0 : (fun v W => IsLv W v [a]) u0 W := kHas_at hF 0 rfl (by kernel_rfl)
          obtain ⟨A9, n9, c9, rfl, h9⟩ := h0
          go_simp
          refine (large_is _ [a] W false ⟨_, _, _, rfl, h9⟩ (by simp) HBig.out).mono ?_
          rintro e w' ⟨rfl, hk⟩
          exact hK _ _ hk rfl
        go_simp
        generalize hZ : (Act.mk _ _) = Z
        refine hK Z ?_
        subst hZ
        clear hK K
        refine kAll_p (fun K hK => ?_)
        go_simp
        generalize hZ : (Act.mk _ _) = Z
        refine hK Z ?_
        subst hZ
        clear hK K
        refine kAll_p (fun K hK => ?_)
        go_simp
        generalize hZ : (Act.mk _ _) = Z
        refine hK Z ?_
        subst hZ
        clear hK K
        refine kAll_pw (by kernel_rfl) (fun K hK => ?_)
        go_simp
        generalize hZ : (Act.mk _ _) = Z
        refine hK Z ?_
        subst hZ
        clear hK K
        refine kAll_dn _ (fun W hW hF => kStep_w (by kernel_rfl) fun K Q hK => ?_) (fun K hK => ?_)
        · have e0 := (B4.out.keep hW (fun h => h)).cell 0
          have e1 := (B4.out.keep hW (fun h => h)).cell 1
          have e2 := (B4.out.keep hW (fun h => h)).cell 2
          have e3 := (B4.out.keep hW (fun h => h)).cell 3
          simp at e0 e1 e2 e3
          go_simp
          exact hK _ _ (Keep.refl _ _) rfl
        go_simp
        generalize hZ : (Act.mk _ _) = Z
        refine hK Z ?_
        subst hZ
        clear hK K
        refine kAll_dn _ (fun W hW hF => kStep_w (by kernel_rfl) fun K Q hK => ?_) (fun K hK => ?_)
        · go_simp
          refine (alive_is (⟨xa, xi, xs, xn⟩ : Mem) W true HAx.out).mono ?_
          rintro e w' ⟨rfl, hk⟩
          exact hK _ _ hk rfl
        go_simp
        generalize hZ : (Act.mk _ _) = Z
        refine hK Z ?_
        subst hZ
        clear hK K
        refine kAll_pw (by kernel_rfl) (fun K hK => ?_)
        go_simp
        generalize hZ : (Act.mk _ _) = Z
        refine hK Z ?_
        subst hZ
        clear hK K
        refine kAll_p (fun K hK => ?_)
        go_simp
        generalize hZ : (Act.mk _ _) = Z
        refine hK Z ?_
        subst hZ
        clear hK K
        refine kAll_p (fun K hK => ?_)
        go_simp
        generalize hZ : (Act.mk _ _) = Z
        refine hK Z ?_
        subst hZ
        clear hK K
        refine kAll_pw (by kernel_rfl) (fun K hK => ?_)
        go_simp
        generalize hZ : (Act.mk _ _) = Z
        refine hK Z ?_
        subst hZ
        clear hK K
        refine kAll_dn _ (fun W hW hF => kStep_w (by kernel_rfl) fun K Q hK => ?_) (fun K hK => ?_)
        · have e0 := (B5.out.keep hW (fun h => h)).cell 0
          have e1 := (B5.out.keep hW (fun h => h)).cell 1
          have e2 := (B5.out.keep hW (fun h => h)).cell 2
          have e3 := (B5.out.keep hW (fun h => h)).cell 3
          simp at e0 e1 e2 e3
          go_simp
          exact hK _ _ (Keep.refl _ _) rfl
        go_simp
        generalize hZ : (Act.mk _ _) = Z
        refine hK Z ?_
        subst hZ
        clear hK K
        refine kAll_dn _ (fun W hW hF => kStep_w (by kernel_rfl) fun K Q hK => ?_) (fun K hK => ?_)
        · go_simp
          refine (alive_is (⟨xa, yi, ys, yn⟩ : Mem) W false HAy.out).mono ?_
          rintro e w' ⟨rfl, hk⟩
          exact hK _ _ hk rfl
        go_simp
        generalize hZ : (Act.mk _ _) = Z
        refine hK Z ?_
        subst hZ
        clear hK K
        refine kAll_pw (by kernel_rfl) (fun K hK => ?_)
        go_simp
        generalize hZ : (Act.mk _ _) = Z
        refine hK Z ?_
        subst hZ
        clear hK K
        refine kAll_p (fun K hK => ?_)
        go_simp
        generalize hZ : (Act.mk _ _) = Z
        refine hK Z ?_
        subst hZ
        clear hK K
        refine kAll_p (fun K hK => ?_)
        go_simp
        generalize hZ : (Act.mk _ _) = Z
        refine hK Z ?_
        subst hZ
        clear hK K
        refine kAll_skip (by kernel_rfl) ?_
        refine kAll_skip (by kernel_rfl) ?_
        refine kAll_skip (by kernel_rfl) ?_
        refine kAll_skip (by kernel_rfl) ?_
        refine kAll_skip (by kernel_rfl) ?_
        refine kAll_skip (by kernel_rfl) ?_
        refine kAll_skip (by kernel_rfl) ?_
        refine kAll_p (fun K hK => ?_)
        go_simp
        generalize hZ : (Act.mk _ _) = Z
        refine hK Z ?_
        subst hZ
        clear hK K
        refine kAll_nil (fun W1 hW hF => ?_)
        clear hF
        have hk_2 : Keep (fun _ => False) w0 W1 := hW
        have B_3 := Lib.hid (B3.out.keep hk_2 (fun h => h))
        have B_4 := Lib.hid (B4.out.keep hk_2 (fun h => h))
        have B_5 := Lib.hid (B5.out.keep hk_2 (fun h => h))
        have F_6 := Lib.hid (fun W h => FA.out W (keep0_trans _ _ _ hk_2 h))
        have K_7 := Lib.hid (keep0_trans _ _ _ K0.out hk_2)
        clear hk_2 B3 B4 B5 FA K0
        clear hW
        go_wp2_with fail
        refine (works_any _).mono ?_
        rintro e w2 ⟨rfl, hk⟩
        have KZ := Lib.hid (keep0_trans _ _ _ K_7.out hk)
        clear hk
        go_wp2
        go_ret
        exact ⟨rfl, KZ.out⟩
      · have HAy := Lib.hid hay
        clear hay
        by_cases hge : yi ≤ xi
        · have hged : decide (yi ≤ xi) = true := decide_eq_true hge
          refine wp_region_kord (Keep (fun _ => False)) (Keep.refl _) keep0_trans 28 (Ts := [some (.inl (.bool true)), none, none, some (.inl (.agg #[.slice Aa na ca, .slice Ba_ ma da])), some (.inr (fun v W => IsLv W v [a])), some (.inl (.bool false)), none, none, none, some (.inl (.agg #[.int .i64 xa, .int .i64 xi, .int .u8 xs, .int .i64 xn])), some (.inl (.bool true)), none, none, none, none, some (.inl (.agg #[.int .i64 xa, .int .i64 yi, .int .u8 ys, .int .i64 yn])), some (.inl (.bool true)), none, none, none, none, none, some (.inl (.int .i64 xi)), none, none, some (.inl (.int .i64 yi)), none, none]) ?_
          simp only [List.take, List.drop]
          refine kAll_dn _ (fun W hW hF => kStep_of fun K Q hK => ?_) (fun K hK => ?_)
          · go_simp
            refine (works_any W).mono ?_
            rintro e w' ⟨rfl, hk⟩
            exact hK _ _ hk rfl
          go_simp
          generalize hZ : (Act.mk _ _) = Z
          refine hK Z ?_
          subst hZ
          clear hK K
          refine kAll_p (fun K hK => ?_)
          go_simp
          generalize hZ : (Act.mk _ _) = Z
          refine hK Z ?_
          subst hZ
          clear hK K
          refine kAll_p (fun K hK => ?_)
          go_simp
          generalize hZ : (Act.mk _ _) = Z
          refine hK Z ?_
          subst hZ
          clear hK K
          refine kAll_dn _ (fun W hW hF => kStep_w (by kernel_rfl) fun K Q hK => ?_) (fun K hK => ?_)
          · have e0 := (B3.out.keep hW (fun h => h)).cell 0
            have e1 := (B3.out.keep hW (fun h => h)).cell 1
            simp at e0 e1
            go_simp
            exact hK _ _ (Keep.refl _ _) rfl
          go_simp
          generalize hZ : (Act.mk _ _) = Z
          refine hK Z ?_
          subst hZ
          clear hK K
          refine kAll_tn _ (fun v W W' hk h => h.keep0 hk) (fun W hW hF => kStep_w (by kernel_rfl) fun K Q hK => ?_) (fun u0 K hK => ?_)
          · have h0 := FA.out W (hW)
            go_simp
            exact hK _ _ ((Keep.refl _ _).alloc _) (isLv1 h0)
          go_simp
          generalize hZ : (Act.mk _ _) = Z
          refine hK Z ?_
          subst hZ
          clear hK K
          refine kAll_dn _ (fun W hW hF => kStep_w (by kernel_rfl) fun K Q hK => ?_) (fun K hK => ?_)
          · have h0 : (fun v W => IsLv W v [a]) u0 W := kHas_at hF 0 rfl (by kernel_rfl)
            obtain ⟨A9, n9, c9, rfl, h9⟩ := h0
            go_simp
            refine (large_is _ [a] W false ⟨_, _, _, rfl, h9⟩ (by simp) HBig.out).mono ?_
            rintro e w' ⟨rfl, hk⟩
            exact hK _ _ hk rfl
          go_simp
          generalize hZ : (Act.mk _ _) = Z
          refine hK Z ?_
          subst hZ
          clear hK K
          refine kAll_p (fun K hK => ?_)
          go_simp
          generalize hZ : (Act.mk _ _) = Z
          refine hK Z ?_
          subst hZ
          clear hK K
          refine kAll_p (fun K hK => ?_)
          go_simp
          generalize hZ : (Act.mk _ _) = Z
          refine hK Z ?_
          subst hZ
          clear hK K
          refine kAll_pw (by kernel_rfl) (fun K hK => ?_)
          go_simp
          generalize hZ : (Act.mk _ _) = Z
          refine hK Z ?_
          subst hZ
          clear hK K
          refine kAll_dn _ (fun W hW hF => kStep_w (by kernel_rfl) fun K Q hK => ?_) (fun K hK => ?_)
          · have e0 := (B4.out.keep hW (fun h => h)).cell 0
            have e1 := (B4.out.keep hW (fun h => h)).cell 1
            have e2 := (B4.out.keep hW (fun h => h)).cell 2
            have e3 := (B4.out.keep hW (fun h => h)).cell 3
            simp at e0 e1 e2 e3
            go_simp
            exact hK _ _ (Keep.refl _ _) rfl
          go_simp
          generalize hZ : (Act.mk _ _) = Z
          refine hK Z ?_
          subst hZ
          clear hK K
          refine kAll_dn _ (fun W hW hF => kStep_w (by kernel_rfl) fun K Q hK => ?_) (fun K hK => ?_)
          · go_simp
            refine (alive_is (⟨xa, xi, xs, xn⟩ : Mem) W true HAx.out).mono ?_
            rintro e w' ⟨rfl, hk⟩
            exact hK _ _ hk rfl
          go_simp
          generalize hZ : (Act.mk _ _) = Z
          refine hK Z ?_
          subst hZ
          clear hK K
          refine kAll_pw (by kernel_rfl) (fun K hK => ?_)
          go_simp
          generalize hZ : (Act.mk _ _) = Z
          refine hK Z ?_
          subst hZ
          clear hK K
          refine kAll_p (fun K hK => ?_)
          go_simp
          generalize hZ : (Act.mk _ _) = Z
          refine hK Z ?_
          subst hZ
          clear hK K
          refine kAll_p (fun K hK => ?_)
          go_simp
          generalize hZ : (Act.mk _ _) = Z
          refine hK Z ?_
          subst hZ
          clear hK K
          refine kAll_pw (by kernel_rfl) (fun K hK => ?_)
          go_simp
          generalize hZ : (Act.mk _ _) = Z
          refine hK Z ?_
          subst hZ
          clear hK K
          refine kAll_dn _ (fun W hW hF => kStep_w (by kernel_rfl) fun K Q hK => ?_) (fun K hK => ?_)
          · have e0 := (B5.out.keep hW (fun h => h)).cell 0
            have e1 := (B5.out.keep hW (fun h => h)).cell 1
            have e2 := (B5.out.keep hW (fun h => h)).cell 2
            have e3 := (B5.out.keep hW (fun h => h)).cell 3
            simp at e0 e1 e2 e3
            go_simp
            exact hK _ _ (Keep.refl _ _) rfl
          go_simp
          generalize hZ : (Act.mk _ _) = Z
          refine hK Z ?_
          subst hZ
          clear hK K
          refine kAll_dn _ (fun W hW hF => kStep_w (by kernel_rfl) fun K Q hK => ?_) (fun K hK => ?_)
          · go_simp
            refine (alive_is (⟨xa, yi, ys, yn⟩ : Mem) W true HAy.out).mono ?_
            rintro e w' ⟨rfl, hk⟩
            exact hK _ _ hk rfl
          go_simp
          generalize hZ : (Act.mk _ _) = Z
          refine hK Z ?_
          subst hZ
          clear hK K
          refine kAll_pw (by kernel_rfl) (fun K hK => ?_)
          go_simp
          generalize hZ : (Act.mk _ _) = Z
          refine hK Z ?_
          subst hZ
          clear hK K
          refine kAll_p (fun K hK => ?_)
          go_simp
          generalize hZ : (Act.mk _ _) = Z
          refine hK Z ?_
          subst hZ
          clear hK K
          refine kAll_p (fun K hK => ?_)
          go_simp
          generalize hZ : (Act.mk _ _) = Z
          refine hK Z ?_
          subst hZ
          clear hK K
          refine kAll_pw (by kernel_rfl) (fun K hK => ?_)
          go_simp
          generalize hZ : (Act.mk _ _) = Z
          refine hK Z ?_
          subst hZ
          clear hK K
          refine kAll_pw (by kernel_rfl) (fun K hK => ?_)
          go_simp
          generalize hZ : (Act.mk _ _) = Z
          refine hK Z ?_
          subst hZ
          clear hK K
          refine kAll_dn _ (fun W hW hF => kStep_w (by kernel_rfl) fun K Q hK => ?_) (fun K hK => ?_)
          · have e1 := (B4.out.keep hW (fun h => h)).cell 1
            simp at e1
            go_simp
            exact hK _ _ (Keep.refl _ _) rfl
          go_simp
          generalize hZ : (Act.mk _ _) = Z
          refine hK Z ?_
          subst hZ
          clear hK K
          refine kAll_pw (by kernel_rfl) (fun K hK => ?_)
          go_simp
          generalize hZ : (Act.mk _ _) = Z
          refine hK Z ?_
          subst hZ
          clear hK K
          refine kAll_pw (by kernel_rfl) (fun K hK => ?_)
          go_simp
          generalize hZ : (Act.mk _ _) = Z
          refine hK Z ?_
          subst hZ
          clear hK K
          refine kAll_dn _ (fun W hW hF => kStep_w (by kernel_rfl) fun K Q hK => ?_) (fun K hK => ?_)
          · have e1 := (B5.out.keep hW (fun h => h)).cell 1
            simp at e1
            go_simp
            exact hK _ _ (Keep.refl _ _) rfl
          go_simp
          generalize hZ : (Act.mk _ _) = Z
          refine hK Z ?_
          subst hZ
          clear hK K
          refine kAll_pw (by kernel_rfl) (fun K hK => ?_)
          go_simp
          generalize hZ : (Act.mk _ _) = Z
          refine hK Z ?_
          subst hZ
          clear hK K
          refine kAll_p (fun K hK => ?_)
          go_simp
          generalize hZ : (Act.mk _ _) = Z
          refine hK Z ?_
          subst hZ
          clear hK K
          refine kAll_nil (fun W1 hW hF => ?_)
          clear hF
          have hk_2 : Keep (fun _ => False) w0 W1 := hW
          have B_3 := Lib.hid (B3.out.keep hk_2 (fun h => h))
          have B_4 := Lib.hid (B4.out.keep hk_2 (fun h => h))
          have B_5 := Lib.hid (B5.out.keep hk_2 (fun h => h))
          have F_6 := Lib.hid (fun W h => FA.out W (keep0_trans _ _ _ hk_2 h))
          have K_7 := Lib.hid (keep0_trans _ _ _ K0.out hk_2)
          clear hk_2 B3 B4 B5 FA K0
          clear hW
          go_wp2_with fail
          refine (works_any _).mono ?_
          rintro e w2 ⟨rfl, hk⟩
          have KZ := Lib.hid (keep0_trans _ _ _ K_7.out hk)
          clear hk
          go_wp2
          go_ret
          exact ⟨rfl, KZ.out⟩
        · have hged : decide (yi ≤ xi) = false := decide_eq_false hge
          have HLife := Lib.hid (life a (⟨xa, xi, xs, xn⟩ : Mem) (⟨xa, yi, ys, yn⟩ : Mem) (alive_ok HAx.out).1 (alive_ok HAx.out).2 (alive_ok HAy.out).1 (alive_ok HAy.out).2 rfl (by simp only; omega))
          refine wp_region_kord (Keep (fun _ => False)) (Keep.refl _) keep0_trans 28 (Ts := [some (.inl (.bool true)), none, none, some (.inl (.agg #[.slice Aa na ca, .slice Ba_ ma da])), some (.inr (fun v W => IsLv W v [a])), some (.inl (.bool false)), none, none, none, some (.inl (.agg #[.int .i64 xa, .int .i64 xi, .int .u8 xs, .int .i64 xn])), some (.inl (.bool true)), none, none, none, none, some (.inl (.agg #[.int .i64 xa, .int .i64 yi, .int .u8 ys, .int .i64 yn])), some (.inl (.bool true)), none, none, none, none, none, some (.inl (.int .i64 xi)), none, none, some (.inl (.int .i64 yi)), none, none]) ?_
          simp only [List.take, List.drop]
          refine kAll_dn _ (fun W hW hF => kStep_of fun K Q hK => ?_) (fun K hK => ?_)
          · go_simp
            refine (works_any W).mono ?_
            rintro e w' ⟨rfl, hk⟩
            exact hK _ _ hk rfl
          go_simp
          generalize hZ : (Act.mk _ _) = Z
          refine hK Z ?_
          subst hZ
          clear hK K
          refine kAll_p (fun K hK => ?_)
          go_simp
          generalize hZ : (Act.mk _ _) = Z
          refine hK Z ?_
          subst hZ
          clear hK K
          refine kAll_p (fun K hK => ?_)
          go_simp
          generalize hZ : (Act.mk _ _) = Z
          refine hK Z ?_
          subst hZ
          clear hK K
          refine kAll_dn _ (fun W hW hF => kStep_w (by kernel_rfl) fun K Q hK => ?_) (fun K hK => ?_)
          · have e0 := (B3.out.keep hW (fun h => h)).cell 0
            have e1 := (B3.out.keep hW (fun h => h)).cell 1
            simp at e0 e1
            go_simp
            exact hK _ _ (Keep.refl _ _) rfl
          go_simp
          generalize hZ : (Act.mk _ _) = Z
          refine hK Z ?_
          subst hZ
          clear hK K
          refine kAll_tn _ (fun v W W' hk h => h.keep0 hk) (fun W hW hF => kStep_w (by kernel_rfl) fun K Q hK => ?_) (fun u0 K hK => ?_)
          · have h0 := FA.out W (hW)
            go_simp
            exact hK _ _ ((Keep.refl _ _).alloc _) (isLv1 h0)
          go_simp
          generalize hZ : (Act.mk _ _) = Z
          refine hK Z ?_
          subst hZ
          clear hK K
          refine kAll_dn _ (fun W hW hF => kStep_w (by kernel_rfl) fun K Q hK => ?_) (fun K hK => ?_)
          · have h0 : (fun v W => IsLv W v [a]) u0 W := kHas_at hF 0 rfl (by kernel_rfl)
            obtain ⟨A9, n9, c9, rfl, h9⟩ := h0
            go_simp
            refine (large_is _ [a] W false ⟨_, _, _, rfl, h9⟩ (by simp) HBig.out).mono ?_
            rintro e w' ⟨rfl, hk⟩
            exact hK _ _ hk rfl
          go_simp
          generalize hZ : (Act.mk _ _) = Z
          refine hK Z ?_
          subst hZ
          clear hK K
          refine kAll_p (fun K hK => ?_)
          go_simp
          generalize hZ : (Act.mk _ _) = Z
          refine hK Z ?_
          subst hZ
          clear hK K
          refine kAll_p (fun K hK => ?_)
          go_simp
          generalize hZ : (Act.mk _ _) = Z
          refine hK Z ?_
          subst hZ
          clear hK K
          refine kAll_pw (by kernel_rfl) (fun K hK => ?_)
          go_simp
          generalize hZ : (Act.mk _ _) = Z
          refine hK Z ?_
          subst hZ
          clear hK K
          refine kAll_dn _ (fun W hW hF => kStep_w (by kernel_rfl) fun K Q hK => ?_) (fun K hK => ?_)
          · have e0 := (B4.out.keep hW (fun h => h)).cell 0
            have e1 := (B4.out.keep hW (fun h => h)).cell 1
            have e2 := (B4.out.keep hW (fun h => h)).cell 2
            have e3 := (B4.out.keep hW (fun h => h)).cell 3
            simp at e0 e1 e2 e3
            go_simp
            exact hK _ _ (Keep.refl _ _) rfl
          go_simp
          generalize hZ : (Act.mk _ _) = Z
          refine hK Z ?_
          subst hZ
          clear hK K
          refine kAll_dn _ (fun W hW hF => kStep_w (by kernel_rfl) fun K Q hK => ?_) (fun K hK => ?_)
          · go_simp
            refine (alive_is (⟨xa, xi, xs, xn⟩ : Mem) W true HAx.out).mono ?_
            rintro e w' ⟨rfl, hk⟩
            exact hK _ _ hk rfl
          go_simp
          generalize hZ : (Act.mk _ _) = Z
          refine hK Z ?_
          subst hZ
          clear hK K
          refine kAll_pw (by kernel_rfl) (fun K hK => ?_)
          go_simp
          generalize hZ : (Act.mk _ _) = Z
          refine hK Z ?_
          subst hZ
          clear hK K
          refine kAll_p (fun K hK => ?_)
          go_simp
          generalize hZ : (Act.mk _ _) = Z
          refine hK Z ?_
          subst hZ
          clear hK K
          refine kAll_p (fun K hK => ?_)
          go_simp
          generalize hZ : (Act.mk _ _) = Z
          refine hK Z ?_
          subst hZ
          clear hK K
          refine kAll_pw (by kernel_rfl) (fun K hK => ?_)
          go_simp
          generalize hZ : (Act.mk _ _) = Z
          refine hK Z ?_
          subst hZ
          clear hK K
          refine kAll_dn _ (fun W hW hF => kStep_w (by kernel_rfl) fun K Q hK => ?_) (fun K hK => ?_)
          · have e0 := (B5.out.keep hW (fun h => h)).cell 0
            have e1 := (B5.out.keep hW (fun h => h)).cell 1
            have e2 := (B5.out.keep hW (fun h => h)).cell 2
            have e3 := (B5.out.keep hW (fun h => h)).cell 3
            simp at e0 e1 e2 e3
            go_simp
            exact hK _ _ (Keep.refl _ _) rfl
          go_simp
          generalize hZ : (Act.mk _ _) = Z
          refine hK Z ?_
          subst hZ
          clear hK K
          refine kAll_dn _ (fun W hW hF => kStep_w (by kernel_rfl) fun K Q hK => ?_) (fun K hK => ?_)
          · go_simp
            refine (alive_is (⟨xa, yi, ys, yn⟩ : Mem) W true HAy.out).mono ?_
            rintro e w' ⟨rfl, hk⟩
            exact hK _ _ hk rfl
          go_simp
          generalize hZ : (Act.mk _ _) = Z
          refine hK Z ?_
          subst hZ
          clear hK K
          refine kAll_pw (by kernel_rfl) (fun K hK => ?_)
          go_simp
          generalize hZ : (Act.mk _ _) = Z
          refine hK Z ?_
          subst hZ
          clear hK K
          refine kAll_p (fun K hK => ?_)
          go_simp
          generalize hZ : (Act.mk _ _) = Z
          refine hK Z ?_
          subst hZ
          clear hK K
          refine kAll_p (fun K hK => ?_)
          go_simp
          generalize hZ : (Act.mk _ _) = Z
          refine hK Z ?_
          subst hZ
          clear hK K
          refine kAll_pw (by kernel_rfl) (fun K hK => ?_)
          go_simp
          generalize hZ : (Act.mk _ _) = Z
          refine hK Z ?_
          subst hZ
          clear hK K
          refine kAll_pw (by kernel_rfl) (fun K hK => ?_)
          go_simp
          generalize hZ : (Act.mk _ _) = Z
          refine hK Z ?_
          subst hZ
          clear hK K
          refine kAll_dn _ (fun W hW hF => kStep_w (by kernel_rfl) fun K Q hK => ?_) (fun K hK => ?_)
          · have e1 := (B4.out.keep hW (fun h => h)).cell 1
            simp at e1
            go_simp
            exact hK _ _ (Keep.refl _ _) rfl
          go_simp
          generalize hZ : (Act.mk _ _) = Z
          refine hK Z ?_
          subst hZ
          clear hK K
          refine kAll_pw (by kernel_rfl) (fun K hK => ?_)
          go_simp
          generalize hZ : (Act.mk _ _) = Z
          refine hK Z ?_
          subst hZ
          clear hK K
          refine kAll_pw (by kernel_rfl) (fun K hK => ?_)
          go_simp
          generalize hZ : (Act.mk _ _) = Z
          refine hK Z ?_
          subst hZ
          clear hK K
          refine kAll_dn _ (fun W hW hF => kStep_w (by kernel_rfl) fun K Q hK => ?_) (fun K hK => ?_)
          · have e1 := (B5.out.keep hW (fun h => h)).cell 1
            simp at e1
            go_simp
            exact hK _ _ (Keep.refl _ _) rfl
          go_simp
          generalize hZ : (Act.mk _ _) = Z
          refine hK Z ?_
          subst hZ
          clear hK K
          refine kAll_pw (by kernel_rfl) (fun K hK => ?_)
          go_simp
          generalize hZ : (Act.mk _ _) = Z
          refine hK Z ?_
          subst hZ
          clear hK K
          refine kAll_p (fun K hK => ?_)
          go_simp
          generalize hZ : (Act.mk _ _) = Z
          refine hK Z ?_
          subst hZ
          clear hK K
          refine kAll_nil (fun W1 hW hF => ?_)
          clear hF
          have hk_2 : Keep (fun _ => False) w0 W1 := hW
          have B_3 := Lib.hid (B3.out.keep hk_2 (fun h => h))
          have B_4 := Lib.hid (B4.out.keep hk_2 (fun h => h))
          have B_5 := Lib.hid (B5.out.keep hk_2 (fun h => h))
          have F_6 := Lib.hid (fun W h => FA.out W (keep0_trans _ _ _ hk_2 h))
          have K_7 := Lib.hid (keep0_trans _ _ _ K0.out hk_2)
          clear hk_2 B3 B4 B5 FA K0
          clear hW
          go_wp2_with fail
          refine wp_region_krip (Keep (fun _ => False)) (Keep.refl _) keep0_trans 7 (by kernel_rfl) (by kernel_rfl) (Ts := [some (.inl (.agg #[.slice Aa na ca, .slice Ba_ ma da])), some (.inl (.agg #[.int .i64 xa, .int .i64 xi, .int .u8 xs, .int .i64 xn])), some (.inl (.agg #[.int .i64 xa, .int .i64 yi, .int .u8 ys, .int .i64 yn])), some (.inr (fun v W => IsM W v [(⟨xa, xi, xs, xn⟩ : Mem), (⟨xa, yi, ys, yn⟩ : Mem)])), some (.inr (fun v W => IsL W v [(⟨xa, xi, xs, xn⟩ : Mem), (⟨xa, yi, ys, yn⟩ : Mem)] ([] : List ID))), some (.inr (fun v W => IsLT W v (joinL a ([(⟨xa, xi, xs, xn⟩ : Mem), (⟨xa, yi, ys, yn⟩ : Mem)], ([] : List ID))).1 (joinL a ([(⟨xa, xi, xs, xn⟩ : Mem), (⟨xa, yi, ys, yn⟩ : Mem)], ([] : List ID))).2)), some (.inr (fun v W => ∃ g, v = .pointer (some ⟨g, 0, none⟩) ∧ W1.heap.size ≤ g ∧ Blk W g 25 #[.slice none 0 0, .slice none 0 0]))]) ?_
          simp only [List.take, List.drop]
          refine kAll_dn _ (fun W hW hF => kStep_of fun K Q hK => ?_) (fun K hK => ?_)
          · have e0 := (B_3.out.drew.keep hW (fun h => h)).cell 0
            have e1 := (B_3.out.drew.keep hW (fun h => h)).cell 1
            simp at e0 e1
            go_simp
            exact hK _ _ (Keep.refl _ _) rfl
          go_simp
          generalize hZ : (Act.mk _ _) = Z
          refine hK Z ?_
          subst hZ
          clear hK K
          refine kAll_dn _ (fun W hW hF => kStep_of fun K Q hK => ?_) (fun K hK => ?_)
          · have e0 := (B_4.out.drew.keep hW (fun h => h)).cell 0
            have e1 := (B_4.out.drew.keep hW (fun h => h)).cell 1
            have e2 := (B_4.out.drew.keep hW (fun h => h)).cell 2
            have e3 := (B_4.out.drew.keep hW (fun h => h)).cell 3
            simp at e0 e1 e2 e3
            go_simp
            exact hK _ _ (Keep.refl _ _) rfl
          go_simp
          generalize hZ : (Act.mk _ _) = Z
          refine hK Z ?_
          subst hZ
          clear hK K
          refine kAll_dn _ (fun W hW hF => kStep_of fun K Q hK => ?_) (fun K hK => ?_)
          · have e0 := (B_5.out.drew.keep hW (fun h => h)).cell 0
            have e1 := (B_5.out.drew.keep hW (fun h => h)).cell 1
            have e2 := (B_5.out.drew.keep hW (fun h => h)).cell 2
            have e3 := (B_5.out.drew.keep hW (fun h => h)).cell 3
            simp at e0 e1 e2 e3
            go_simp
            exact hK _ _ (Keep.refl _ _) rfl
          go_simp
          generalize hZ : (Act.mk _ _) = Z
          refine hK Z ?_
          subst hZ
          clear hK K
          refine kAll_tn _ (fun v W W' hk h => h.keep0 hk) (fun W hW hF => kStep_of fun K Q hK => ?_) (fun u0 K hK => ?_)
          · go_simp
            exact hK _ _ ((Keep.refl _ _).alloc _) ⟨_, _, _, rfl, rfl, RdK.of_blk (Blk.new _ _ _) 2 4 rfl⟩
          go_simp
          generalize hZ : (Act.mk _ _) = Z
          refine hK Z ?_
          subst hZ
          clear hK K
          refine kAll_tn _ (fun v W W' hk h => h.keep0 hk) (fun W hW hF => kStep_of fun K Q hK => ?_) (fun u1 K hK => ?_)
          · have h0 : (fun v W => IsM W v [(⟨xa, xi, xs, xn⟩ : Mem), (⟨xa, yi, ys, yn⟩ : Mem)]) u0 W := kHas_at hF 0 rfl (by kernel_rfl)
            go_simp
            refine (of_any _ [(⟨xa, xi, xs, xn⟩ : Mem), (⟨xa, yi, ys, yn⟩ : Mem)] W h0).mono ?_
            rintro e w' ⟨u, rfl, hu, hk⟩
            exact hK _ _ hk hu
          go_simp
          generalize hZ : (Act.mk _ _) = Z
          refine hK Z ?_
          subst hZ
          clear hK K
          refine kAll_tn _ (fun v W W' hk h => h.keep0 hk) (fun W hW hF => kStep_of fun K Q hK => ?_) (fun u2 K hK => ?_)
          · have h0 := F_6.out W (keepD (Keep.refl _ _) hW)
            have h1 : (fun v W => IsL W v [(⟨xa, xi, xs, xn⟩ : Mem), (⟨xa, yi, ys, yn⟩ : Mem)] ([] : List ID)) u1 W := kHas_at hF 0 rfl (by kernel_rfl)
            go_simp
            refine (joinl_own _ _ a ([(⟨xa, xi, xs, xn⟩ : Mem), (⟨xa, yi, ys, yn⟩ : Mem)], ([] : List ID)) W h0 h1 LA.out ⟨by simp, by simp⟩).mono ?_
            rintro e w' ⟨u, rfl, hu, hk⟩
            exact hK _ _ hk hu
          go_simp
          generalize hZ : (Act.mk _ _) = Z
          refine hK Z ?_
          subst hZ
          clear hK K
          refine kAll_tn _ (fun v W W' hk ⟨g, e, hs, hb⟩ => ⟨g, e, hs, hb.keep hk (fun h => h)⟩) (fun W hW hF => kStep_of fun K Q hK => ?_) (fun u3 K hK => ?_)
          · have hsz : W1.heap.size ≤ W.heap.size := by simpa using hW.size
            go_simp
            exact hK _ _ ((Keep.refl _ _).alloc _) ⟨_, rfl, hsz, Blk.new _ _ _⟩
          go_simp
          generalize hZ : (Act.mk _ _) = Z
          refine hK Z ?_
          subst hZ
          clear hK K
          refine kAll_nil (fun W8 hW hF => ?_)
          have hj : (fun v W => IsLT W v (joinL a ([(⟨xa, xi, xs, xn⟩ : Mem), (⟨xa, yi, ys, yn⟩ : Mem)], ([] : List ID))).1 (joinL a ([(⟨xa, xi, xs, xn⟩ : Mem), (⟨xa, yi, ys, yn⟩ : Mem)], ([] : List ID))).2) u2 W8 := kAllHas_at hF 1 rfl
          have hg : (fun v W => ∃ g, v = .pointer (some ⟨g, 0, none⟩) ∧ W1.heap.size ≤ g ∧ Blk W g 25 #[.slice none 0 0, .slice none 0 0]) u3 W8 := kAllHas_at hF 0 rfl
          clear hF
          simp only at hj hg
          obtain ⟨g, rfl, hgs, hgb⟩ := hg
          have HL := Lib.hid HLife.out
          have LJ := Lib.hid (len_join a ([(⟨xa, xi, xs, xn⟩ : Mem), (⟨xa, yi, ys, yn⟩ : Mem)], ([] : List ID)))
          generalize joinL a ([(⟨xa, xi, xs, xn⟩ : Mem), (⟨xa, yi, ys, yn⟩ : Mem)], ([] : List ID)) = J at *
          obtain ⟨rM, rL, AJ, BJ, cJ, dJ, rfl, hm, hf⟩ := hj
          have hkw : Keep (fun k => k = g) W8 ((W8.setCell ⟨g, 0, none⟩ (.slice AJ J.1.length cJ)).setCell ⟨g, 1, none⟩ (.slice BJ J.2.length dJ)) := ((Keep.refl (fun k => k = g) W8).setCell (fun _ => rfl) _).setCell (fun _ => rfl) _
          have hm2 := hm.keep hkw (fun k hr e => hm.row_ne hgb (by decide) (by rw [hr, e]))
          have hf2 := hf.keep hkw (fun k hr e => hf.row_ne hgb (by decide) (by rw [hr, e]))
          have hb8 := (hgb.set_ 0 (.slice AJ J.1.length cJ)).set_ 1 (.slice BJ J.2.length dJ)
          simp at hb8
          have hkg : Keep (fun _ => False) W1 ((W8.setCell ⟨g, 0, none⟩ (.slice AJ J.1.length cJ)).setCell ⟨g, 1, none⟩ (.slice BJ J.2.length dJ)) := ((keepD (Keep.refl _ _) hW).new hgs _).new hgs _
          have hc0 := hgb.cell 0
          have hc1 := hgb.cell 1
          have hr0 := hgb.frozen 0
          have hr1 := hgb.frozen 1
          have hgl := hgb.lt
          simp at hc0 hc1
          have HM2 := Lib.hid hm2
          have HF2 := Lib.hid hf2
          have HB8 := Lib.hid hb8
          have HKG := Lib.hid hkg
          clear hm hf hgb hm2 hf2 hb8 hkg hkw hW
          go_upto_region 6 with (fail)
          generalize hws : (W8.setCell ⟨g, 0, none⟩ (.slice AJ J.1.length cJ)).setCell ⟨g, 1, none⟩ (.slice BJ J.2.length dJ) = ws at *
          clear hws hc0 hc1 hr0 hr1 hgl hgs
          have hk_9 : Keep (fun _ => False) W1 ws := HKG.out
          have B_10 := Lib.hid (B_3.out.keep hk_9 (fun h => h))
          have B_11 := Lib.hid (B_4.out.keep hk_9 (fun h => h))
          have B_12 := Lib.hid (B_5.out.keep hk_9 (fun h => h))
          have F_13 := Lib.hid (fun W h => F_6.out W (keep0_trans _ _ _ hk_9 h))
          have K_14 := Lib.hid (keep0_trans _ _ _ K_7.out hk_9)
          clear hk_9 B_3 B_4 B_5 F_6 K_7
          have FJM : Hid (∀ W, Keep (fun _ => False) ws W → IsM W (.slice AJ J.1.length cJ) J.1) := Lib.hid fun W h => ⟨_, _, _, rfl, rfl, (HM2.out.keep h (fun _ _ h => h)).rd⟩
          have FJF : Hid (∀ W, Keep (fun _ => False) ws W → IsF W (.slice BJ J.2.length dJ) J.2) := Lib.hid fun W h => ⟨_, _, _, rfl, rfl, (HF2.out.keep h (fun _ _ h => h)).rd⟩
          clear HM2 HF2
          obtain ⟨l1, l2, l3, l4, l5⟩ := HL.out
          clear HL
          have HG1 := Lib.hid l1
          have HX1 := Lib.hid l2
          clear l1 l2
          cases hgy : goneT J.2 (Mem.id (⟨xa, yi, ys, yn⟩ : Mem))
          · have hgt : (getT J.1 (Mem.id (⟨xa, yi, ys, yn⟩ : Mem))).isSome = true := by rw [l3, hgy]; rfl
            have HX2 := Lib.hid hgy
            obtain ⟨z, hz1, hz2⟩ := l5 hgt
            obtain ⟨y2, hy2⟩ := Option.isSome_iff_exists.1 hgt
            have HG2 := Lib.hid hy2
            have HAT := Lib.hid hz1
            have hz3 := l4 z hz1
            clear hgt hgy l3 l4 l5 hy2 hz1
            obtain ⟨za, zi, zs, zn⟩ := y2
            obtain ⟨ta, ti, ts, tn⟩ := z
            have HZ := Lib.hid (show yi ≤ ti from hz3)
            have HZI := Lib.hid (show (ta, ti) = (xa, yi) from hz2)
            clear hz2 hz3
            have c0 := HB8.out.cell 0
            have c1 := HB8.out.cell 1
            simp at c0 c1
            have clt := HB8.out.lt
            have p0 := B_11.out.cell 0
            have p1 := B_11.out.cell 1
            have p2 := B_11.out.cell 2
            have p3 := B_11.out.cell 3
            simp at p0 p1 p2 p3
            have plt := B_11.out.lt
            have q0 := B_12.out.cell 0
            have q1 := B_12.out.cell 1
            have q2 := B_12.out.cell 2
            have q3 := B_12.out.cell 3
            simp at q0 q1 q2 q3
            have qlt := B_12.out.lt
            go_wp2_with fail
            refine (get_is _ J.1 (xa, xi) _ none (FJM.out _ (Keep.refl _ _)) LJ.out.1 HG1.out).mono ?_
            rintro e v_15 ⟨rfl, hk⟩
            clear c0 c1 clt p0 p1 p2 p3 plt q0 q1 q2 q3 qlt
            rw [optV_none]
            have hk_16 : Keep (fun _ => False) ws v_15 := hk
            have B_17 := Lib.hid (B_10.out.keep hk_16 (fun h => h))
            have B_18 := Lib.hid (B_11.out.keep hk_16 (fun h => h))
            have B_19 := Lib.hid (B_12.out.keep hk_16 (fun h => h))
            have B_20 := Lib.hid (HB8.out.keep hk_16 (fun h => h))
            have F_21 := Lib.hid (fun W h => F_13.out W (keep0_trans _ _ _ hk_16 h))
            have F_22 := Lib.hid (fun W h => FJM.out W (keep0_trans _ _ _ hk_16 h))
            have F_23 := Lib.hid (fun W h => FJF.out W (keep0_trans _ _ _ hk_16 h))
            have K_24 := Lib.hid (keep0_trans _ _ _ K_14.out hk_16)
            clear hk_16 B_10 B_11 B_12 HB8 F_13 FJM FJF K_14
            clear hk
            have c0 := B_20.out.cell 0
            have c1 := B_20.out.cell 1
            simp at c0 c1
            have clt := B_20.out.lt
            have p0 := B_18.out.cell 0
            have p1 := B_18.out.cell 1
            have p2 := B_18.out.cell 2
            have p3 := B_18.out.cell 3
            simp at p0 p1 p2 p3
            have plt := B_18.out.lt
            have q0 := B_19.out.cell 0
            have q1 := B_19.out.cell 1
            have q2 := B_19.out.cell 2
            have q3 := B_19.out.cell 3
            simp at q0 q1 q2 q3
            have qlt := B_19.out.lt
            go_wp2_with fail
            refine (get_is _ J.1 (xa, yi) _ (some ⟨za, zi, zs, zn⟩) (F_22.out _ ((Keep.refl (fun _ => False) _).alloc _)) LJ.out.1 HG2.out).mono ?_
            rintro e v_25 ⟨rfl, hk⟩
            clear c0 c1 clt p0 p1 p2 p3 plt q0 q1 q2 q3 qlt
            rw [optV_some]
            have hk_26 : Keep (fun _ => False) v_15 v_25 := keep0_trans _ _ _ ((Keep.refl (fun _ => False) _).alloc _) hk
            have B_27 := Lib.hid (B_17.out.keep hk_26 (fun h => h))
            have B_28 := Lib.hid (B_18.out.keep hk_26 (fun h => h))
            have B_29 := Lib.hid (B_19.out.keep hk_26 (fun h => h))
            have B_30 := Lib.hid (B_20.out.keep hk_26 (fun h => h))
            have F_31 := Lib.hid (fun W h => F_21.out W (keep0_trans _ _ _ hk_26 h))
            have F_32 := Lib.hid (fun W h => F_22.out W (keep0_trans _ _ _ hk_26 h))
            have F_33 := Lib.hid (fun W h => F_23.out W (keep0_trans _ _ _ hk_26 h))
            have K_34 := Lib.hid (keep0_trans _ _ _ K_24.out hk_26)
            clear hk_26 B_17 B_18 B_19 B_20 F_21 F_22 F_23 K_24
            clear hk
            have c0 := B_30.out.cell 0
            have c1 := B_30.out.cell 1
            simp at c0 c1
            have clt := B_30.out.lt
            have p0 := B_28.out.cell 0
            have p1 := B_28.out.cell 1
            have p2 := B_28.out.cell 2
            have p3 := B_28.out.cell 3
            simp at p0 p1 p2 p3
            have plt := B_28.out.lt
            have q0 := B_29.out.cell 0
            have q1 := B_29.out.cell 1
            have q2 := B_29.out.cell 2
            have q3 := B_29.out.cell 3
            simp at q0 q1 q2 q3
            have qlt := B_29.out.lt
            go_wp2_with fail
            refine (at_is _ J.1 xa _ (some ⟨ta, ti, ts, tn⟩) (F_32.out _ ((Keep.refl (fun _ => False) _).alloc _)) LJ.out.1 HAT.out).mono ?_
            rintro e v_35 ⟨rfl, hk⟩
            clear c0 c1 clt p0 p1 p2 p3 plt q0 q1 q2 q3 qlt
            rw [optV_some]
            have hk_36 : Keep (fun _ => False) v_25 v_35 := keep0_trans _ _ _ ((Keep.refl (fun _ => False) _).alloc _) hk
            have B_37 := Lib.hid (B_27.out.keep hk_36 (fun h => h))
            have B_38 := Lib.hid (B_28.out.keep hk_36 (fun h => h))
            have B_39 := Lib.hid (B_29.out.keep hk_36 (fun h => h))
            have B_40 := Lib.hid (B_30.out.keep hk_36 (fun h => h))
            have F_41 := Lib.hid (fun W h => F_31.out W (keep0_trans _ _ _ hk_36 h))
            have F_42 := Lib.hid (fun W h => F_32.out W (keep0_trans _ _ _ hk_36 h))
            have F_43 := Lib.hid (fun W h => F_33.out W (keep0_trans _ _ _ hk_36 h))
            have K_44 := Lib.hid (keep0_trans _ _ _ K_34.out hk_36)
            clear hk_36 B_27 B_28 B_29 B_30 F_31 F_32 F_33 K_34
            clear hk
            go_upto_region 9 with (fail)
            have hb_45 := Blk.new v_35 32 #[.int .i64 ta, .int .i64 ti, .int .u8 ts, .int .i64 tn]
            have hq_47 : Keep (fun _ => False) v_35 (v_35.alloc (.cells #[.int .i64 ta, .int .i64 ti, .int .u8 ts, .int .i64 tn] 32)) := (Keep.refl _ _).alloc _
            generalize hw : v_35.alloc (.cells #[.int .i64 ta, .int .i64 ti, .int .u8 ts, .int .i64 tn] 32) = w_46 at *
            clear hw
            have B_49 := Lib.hid hb_45
            clear hb_45
            have hk_50 : Keep (fun _ => False) v_35 w_46 := hq_47
            have B_51 := Lib.hid (B_37.out.keep hk_50 (fun h => h))
            have B_52 := Lib.hid (B_38.out.keep hk_50 (fun h => h))
            have B_53 := Lib.hid (B_39.out.keep hk_50 (fun h => h))
            have B_54 := Lib.hid (B_40.out.keep hk_50 (fun h => h))
            have F_55 := Lib.hid (fun W h => F_41.out W (keep0_trans _ _ _ hk_50 h))
            have F_56 := Lib.hid (fun W h => F_42.out W (keep0_trans _ _ _ hk_50 h))
            have F_57 := Lib.hid (fun W h => F_43.out W (keep0_trans _ _ _ hk_50 h))
            have K_58 := Lib.hid (keep0_trans _ _ _ K_44.out hk_50)
            clear hk_50 B_37 B_38 B_39 B_40 F_41 F_42 F_43 K_44
            clear hq_47
            have c0 := B_54.out.cell 0
            have c1 := B_54.out.cell 1
            simp at c0 c1
            have clt := B_54.out.lt
            have p0 := B_52.out.cell 0
            have p1 := B_52.out.cell 1
            have p2 := B_52.out.cell 2
            have p3 := B_52.out.cell 3
            simp at p0 p1 p2 p3
            have plt := B_52.out.lt
            have q0 := B_53.out.cell 0
            have q1 := B_53.out.cell 1
            have q2 := B_53.out.cell 2
            have q3 := B_53.out.cell 3
            simp at q0 q1 q2 q3
            have qlt := B_53.out.lt
            have r0 := B_49.out.cell 0
            have r1 := B_49.out.cell 1
            have r2 := B_49.out.cell 2
            have r3 := B_49.out.cell 3
            simp at r0 r1 r2 r3
            have rlt := B_49.out.lt
            go_wp2_with fail
            refine (gone_is _ J.2 (xa, xi) _ true (F_57.out _ (Keep.refl _ _)) LJ.out.2 HX1.out).mono ?_
            rintro e v_59 ⟨rfl, hk⟩
            clear c0 c1 clt p0 p1 p2 p3 plt q0 q1 q2 q3 qlt r0 r1 r2 r3 rlt
            have hk_60 : Keep (fun _ => False) w_46 v_59 := hk
            have B_61 := Lib.hid (B_51.out.keep hk_60 (fun h => h))
            have B_62 := Lib.hid (B_52.out.keep hk_60 (fun h => h))
            have B_63 := Lib.hid (B_53.out.keep hk_60 (fun h => h))
            have B_64 := Lib.hid (B_54.out.keep hk_60 (fun h => h))
            have B_65 := Lib.hid (B_49.out.keep hk_60 (fun h => h))
            have F_66 := Lib.hid (fun W h => F_55.out W (keep0_trans _ _ _ hk_60 h))
            have F_67 := Lib.hid (fun W h => F_56.out W (keep0_trans _ _ _ hk_60 h))
            have F_68 := Lib.hid (fun W h => F_57.out W (keep0_trans _ _ _ hk_60 h))
            have K_69 := Lib.hid (keep0_trans _ _ _ K_58.out hk_60)
            clear hk_60 B_51 B_52 B_53 B_54 B_49 F_55 F_56 F_57 K_58
            clear hk
            have c0 := B_64.out.cell 0
            have c1 := B_64.out.cell 1
            simp at c0 c1
            have clt := B_64.out.lt
            have p0 := B_62.out.cell 0
            have p1 := B_62.out.cell 1
            have p2 := B_62.out.cell 2
            have p3 := B_62.out.cell 3
            simp at p0 p1 p2 p3
            have plt := B_62.out.lt
            have q0 := B_63.out.cell 0
            have q1 := B_63.out.cell 1
            have q2 := B_63.out.cell 2
            have q3 := B_63.out.cell 3
            simp at q0 q1 q2 q3
            have qlt := B_63.out.lt
            have r0 := B_65.out.cell 0
            have r1 := B_65.out.cell 1
            have r2 := B_65.out.cell 2
            have r3 := B_65.out.cell 3
            simp at r0 r1 r2 r3
            have rlt := B_65.out.lt
            go_wp2_with fail
            refine (gone_is _ J.2 (xa, yi) _ false (F_68.out _ (Keep.refl _ _)) LJ.out.2 HX2.out).mono ?_
            rintro e v_70 ⟨rfl, hk⟩
            clear c0 c1 clt p0 p1 p2 p3 plt q0 q1 q2 q3 qlt r0 r1 r2 r3 rlt
            have hk_71 : Keep (fun _ => False) v_59 v_70 := hk
            have B_72 := Lib.hid (B_61.out.keep hk_71 (fun h => h))
            have B_73 := Lib.hid (B_62.out.keep hk_71 (fun h => h))
            have B_74 := Lib.hid (B_63.out.keep hk_71 (fun h => h))
            have B_75 := Lib.hid (B_64.out.keep hk_71 (fun h => h))
            have B_76 := Lib.hid (B_65.out.keep hk_71 (fun h => h))
            have F_77 := Lib.hid (fun W h => F_66.out W (keep0_trans _ _ _ hk_71 h))
            have F_78 := Lib.hid (fun W h => F_67.out W (keep0_trans _ _ _ hk_71 h))
            have F_79 := Lib.hid (fun W h => F_68.out W (keep0_trans _ _ _ hk_71 h))
            have K_80 := Lib.hid (keep0_trans _ _ _ K_69.out hk_71)
            clear hk_71 B_61 B_62 B_63 B_64 B_65 F_66 F_67 F_68 K_69
            clear hk
            have c0 := B_75.out.cell 0
            have c1 := B_75.out.cell 1
            simp at c0 c1
            have clt := B_75.out.lt
            have p0 := B_73.out.cell 0
            have p1 := B_73.out.cell 1
            have p2 := B_73.out.cell 2
            have p3 := B_73.out.cell 3
            simp at p0 p1 p2 p3
            have plt := B_73.out.lt
            have q0 := B_74.out.cell 0
            have q1 := B_74.out.cell 1
            have q2 := B_74.out.cell 2
            have q3 := B_74.out.cell 3
            simp at q0 q1 q2 q3
            have qlt := B_74.out.lt
            have r0 := B_76.out.cell 0
            have r1 := B_76.out.cell 1
            have r2 := B_76.out.cell 2
            have r3 := B_76.out.cell 3
            simp at r0 r1 r2 r3
            have rlt := B_76.out.lt
            have hge2 : yi ≤ ti := HZ.out
            have E : ∀ W, (binOp .eql 27 (idV (ta, ti)) (idV (xa, yi))).run Try.prog W = .ok (.bool true) W := fun W => by rw [eql_ID, decide_eq_true HZI.out]
            have G := gID
            go_wp2
            go_ret
            exact ⟨rfl, K_80.out⟩
          · have hgt : (getT J.1 (Mem.id (⟨xa, yi, ys, yn⟩ : Mem))).isSome = false := by rw [l3, hgy]; rfl
            have HX2 := Lib.hid hgy
            have HG2 := Lib.hid (Option.isNone_iff_eq_none.1 (show (getT J.1 (Mem.id (⟨xa, yi, ys, yn⟩ : Mem))).isNone = true by rw [Option.isNone_iff_eq_none]; cases hq : getT J.1 (Mem.id (⟨xa, yi, ys, yn⟩ : Mem)) with | none => rfl | some _ => rw [hq] at hgt; cases hgt))
            clear hgt hgy l3 l5
            cases hat : atT J.1 xa
            · have HAT := Lib.hid hat
              clear hat l4
              have c0 := HB8.out.cell 0
              have c1 := HB8.out.cell 1
              simp at c0 c1
              have clt := HB8.out.lt
              have p0 := B_11.out.cell 0
              have p1 := B_11.out.cell 1
              have p2 := B_11.out.cell 2
              have p3 := B_11.out.cell 3
              simp at p0 p1 p2 p3
              have plt := B_11.out.lt
              have q0 := B_12.out.cell 0
              have q1 := B_12.out.cell 1
              have q2 := B_12.out.cell 2
              have q3 := B_12.out.cell 3
              simp at q0 q1 q2 q3
              have qlt := B_12.out.lt
              go_wp2_with fail
              refine (get_is _ J.1 (xa, xi) _ none (FJM.out _ (Keep.refl _ _)) LJ.out.1 HG1.out).mono ?_
              rintro e v_81 ⟨rfl, hk⟩
              clear c0 c1 clt p0 p1 p2 p3 plt q0 q1 q2 q3 qlt
              rw [optV_none]
              have hk_82 : Keep (fun _ => False) ws v_81 := hk
              have B_83 := Lib.hid (B_10.out.keep hk_82 (fun h => h))
              have B_84 := Lib.hid (B_11.out.keep hk_82 (fun h => h))
              have B_85 := Lib.hid (B_12.out.keep hk_82 (fun h => h))
              have B_86 := Lib.hid (HB8.out.keep hk_82 (fun h => h))
              have F_87 := Lib.hid (fun W h => F_13.out W (keep0_trans _ _ _ hk_82 h))
              have F_88 := Lib.hid (fun W h => FJM.out W (keep0_trans _ _ _ hk_82 h))
              have F_89 := Lib.hid (fun W h => FJF.out W (keep0_trans _ _ _ hk_82 h))
              have K_90 := Lib.hid (keep0_trans _ _ _ K_14.out hk_82)
              clear hk_82 B_10 B_11 B_12 HB8 F_13 FJM FJF K_14
              clear hk
              have c0 := B_86.out.cell 0
              have c1 := B_86.out.cell 1
              simp at c0 c1
              have clt := B_86.out.lt
              have p0 := B_84.out.cell 0
              have p1 := B_84.out.cell 1
              have p2 := B_84.out.cell 2
              have p3 := B_84.out.cell 3
              simp at p0 p1 p2 p3
              have plt := B_84.out.lt
              have q0 := B_85.out.cell 0
              have q1 := B_85.out.cell 1
              have q2 := B_85.out.cell 2
              have q3 := B_85.out.cell 3
              simp at q0 q1 q2 q3
              have qlt := B_85.out.lt
              go_wp2_with fail
              refine (get_is _ J.1 (xa, yi) _ none (F_88.out _ ((Keep.refl (fun _ => False) _).alloc _)) LJ.out.1 HG2.out).mono ?_
              rintro e v_91 ⟨rfl, hk⟩
              clear c0 c1 clt p0 p1 p2 p3 plt q0 q1 q2 q3 qlt
              rw [optV_none]
              have hk_92 : Keep (fun _ => False) v_81 v_91 := keep0_trans _ _ _ ((Keep.refl (fun _ => False) _).alloc _) hk
              have B_93 := Lib.hid (B_83.out.keep hk_92 (fun h => h))
              have B_94 := Lib.hid (B_84.out.keep hk_92 (fun h => h))
              have B_95 := Lib.hid (B_85.out.keep hk_92 (fun h => h))
              have B_96 := Lib.hid (B_86.out.keep hk_92 (fun h => h))
              have F_97 := Lib.hid (fun W h => F_87.out W (keep0_trans _ _ _ hk_92 h))
              have F_98 := Lib.hid (fun W h => F_88.out W (keep0_trans _ _ _ hk_92 h))
              have F_99 := Lib.hid (fun W h => F_89.out W (keep0_trans _ _ _ hk_92 h))
              have K_100 := Lib.hid (keep0_trans _ _ _ K_90.out hk_92)
              clear hk_92 B_83 B_84 B_85 B_86 F_87 F_88 F_89 K_90
              clear hk
              have c0 := B_96.out.cell 0
              have c1 := B_96.out.cell 1
              simp at c0 c1
              have clt := B_96.out.lt
              have p0 := B_94.out.cell 0
              have p1 := B_94.out.cell 1
              have p2 := B_94.out.cell 2
              have p3 := B_94.out.cell 3
              simp at p0 p1 p2 p3
              have plt := B_94.out.lt
              have q0 := B_95.out.cell 0
              have q1 := B_95.out.cell 1
              have q2 := B_95.out.cell 2
              have q3 := B_95.out.cell 3
              simp at q0 q1 q2 q3
              have qlt := B_95.out.lt
              go_wp2_with fail
              refine (at_is _ J.1 xa _ none (F_98.out _ ((Keep.refl (fun _ => False) _).alloc _)) LJ.out.1 HAT.out).mono ?_
              rintro e v_101 ⟨rfl, hk⟩
              clear c0 c1 clt p0 p1 p2 p3 plt q0 q1 q2 q3 qlt
              rw [optV_none]
              have hk_102 : Keep (fun _ => False) v_91 v_101 := keep0_trans _ _ _ ((Keep.refl (fun _ => False) _).alloc _) hk
              have B_103 := Lib.hid (B_93.out.keep hk_102 (fun h => h))
              have B_104 := Lib.hid (B_94.out.keep hk_102 (fun h => h))
              have B_105 := Lib.hid (B_95.out.keep hk_102 (fun h => h))
              have B_106 := Lib.hid (B_96.out.keep hk_102 (fun h => h))
              have F_107 := Lib.hid (fun W h => F_97.out W (keep0_trans _ _ _ hk_102 h))
              have F_108 := Lib.hid (fun W h => F_98.out W (keep0_trans _ _ _ hk_102 h))
              have F_109 := Lib.hid (fun W h => F_99.out W (keep0_trans _ _ _ hk_102 h))
              have K_110 := Lib.hid (keep0_trans _ _ _ K_100.out hk_102)
              clear hk_102 B_93 B_94 B_95 B_96 F_97 F_98 F_99 K_100
              clear hk
              go_upto_region 9 with (fail)
              have hb_111 := Blk.new v_101 32 #[.int .i64 0, .int .i64 0, .int .u8 0, .int .i64 0]
              have hq_113 : Keep (fun _ => False) v_101 (v_101.alloc (.cells #[.int .i64 0, .int .i64 0, .int .u8 0, .int .i64 0] 32)) := (Keep.refl _ _).alloc _
              generalize hw : v_101.alloc (.cells #[.int .i64 0, .int .i64 0, .int .u8 0, .int .i64 0] 32) = w_112 at *
              clear hw
              have B_115 := Lib.hid hb_111
              clear hb_111
              have hk_116 : Keep (fun _ => False) v_101 w_112 := hq_113
              have B_117 := Lib.hid (B_103.out.keep hk_116 (fun h => h))
              have B_118 := Lib.hid (B_104.out.keep hk_116 (fun h => h))
              have B_119 := Lib.hid (B_105.out.keep hk_116 (fun h => h))
              have B_120 := Lib.hid (B_106.out.keep hk_116 (fun h => h))
              have F_121 := Lib.hid (fun W h => F_107.out W (keep0_trans _ _ _ hk_116 h))
              have F_122 := Lib.hid (fun W h => F_108.out W (keep0_trans _ _ _ hk_116 h))
              have F_123 := Lib.hid (fun W h => F_109.out W (keep0_trans _ _ _ hk_116 h))
              have K_124 := Lib.hid (keep0_trans _ _ _ K_110.out hk_116)
              clear hk_116 B_103 B_104 B_105 B_106 F_107 F_108 F_109 K_110
              clear hq_113
              have c0 := B_120.out.cell 0
              have c1 := B_120.out.cell 1
              simp at c0 c1
              have clt := B_120.out.lt
              have p0 := B_118.out.cell 0
              have p1 := B_118.out.cell 1
              have p2 := B_118.out.cell 2
              have p3 := B_118.out.cell 3
              simp at p0 p1 p2 p3
              have plt := B_118.out.lt
              have q0 := B_119.out.cell 0
              have q1 := B_119.out.cell 1
              have q2 := B_119.out.cell 2
              have q3 := B_119.out.cell 3
              simp at q0 q1 q2 q3
              have qlt := B_119.out.lt
              have r0 := B_115.out.cell 0
              have r1 := B_115.out.cell 1
              have r2 := B_115.out.cell 2
              have r3 := B_115.out.cell 3
              simp at r0 r1 r2 r3
              have rlt := B_115.out.lt
              go_wp2_with fail
              refine (gone_is _ J.2 (xa, xi) _ true (F_123.out _ (Keep.refl _ _)) LJ.out.2 HX1.out).mono ?_
              rintro e v_125 ⟨rfl, hk⟩
              clear c0 c1 clt p0 p1 p2 p3 plt q0 q1 q2 q3 qlt r0 r1 r2 r3 rlt
              have hk_126 : Keep (fun _ => False) w_112 v_125 := hk
              have B_127 := Lib.hid (B_117.out.keep hk_126 (fun h => h))
              have B_128 := Lib.hid (B_118.out.keep hk_126 (fun h => h))
              have B_129 := Lib.hid (B_119.out.keep hk_126 (fun h => h))
              have B_130 := Lib.hid (B_120.out.keep hk_126 (fun h => h))
              have B_131 := Lib.hid (B_115.out.keep hk_126 (fun h => h))
              have F_132 := Lib.hid (fun W h => F_121.out W (keep0_trans _ _ _ hk_126 h))
              have F_133 := Lib.hid (fun W h => F_122.out W (keep0_trans _ _ _ hk_126 h))
              have F_134 := Lib.hid (fun W h => F_123.out W (keep0_trans _ _ _ hk_126 h))
              have K_135 := Lib.hid (keep0_trans _ _ _ K_124.out hk_126)
              clear hk_126 B_117 B_118 B_119 B_120 B_115 F_121 F_122 F_123 K_124
              clear hk
              have c0 := B_130.out.cell 0
              have c1 := B_130.out.cell 1
              simp at c0 c1
              have clt := B_130.out.lt
              have p0 := B_128.out.cell 0
              have p1 := B_128.out.cell 1
              have p2 := B_128.out.cell 2
              have p3 := B_128.out.cell 3
              simp at p0 p1 p2 p3
              have plt := B_128.out.lt
              have q0 := B_129.out.cell 0
              have q1 := B_129.out.cell 1
              have q2 := B_129.out.cell 2
              have q3 := B_129.out.cell 3
              simp at q0 q1 q2 q3
              have qlt := B_129.out.lt
              have r0 := B_131.out.cell 0
              have r1 := B_131.out.cell 1
              have r2 := B_131.out.cell 2
              have r3 := B_131.out.cell 3
              simp at r0 r1 r2 r3
              have rlt := B_131.out.lt
              go_wp2_with fail
              refine (gone_is _ J.2 (xa, yi) _ true (F_134.out _ (Keep.refl _ _)) LJ.out.2 HX2.out).mono ?_
              rintro e v_136 ⟨rfl, hk⟩
              clear c0 c1 clt p0 p1 p2 p3 plt q0 q1 q2 q3 qlt r0 r1 r2 r3 rlt
              have hk_137 : Keep (fun _ => False) v_125 v_136 := hk
              have B_138 := Lib.hid (B_127.out.keep hk_137 (fun h => h))
              have B_139 := Lib.hid (B_128.out.keep hk_137 (fun h => h))
              have B_140 := Lib.hid (B_129.out.keep hk_137 (fun h => h))
              have B_141 := Lib.hid (B_130.out.keep hk_137 (fun h => h))
              have B_142 := Lib.hid (B_131.out.keep hk_137 (fun h => h))
              have F_143 := Lib.hid (fun W h => F_132.out W (keep0_trans _ _ _ hk_137 h))
              have F_144 := Lib.hid (fun W h => F_133.out W (keep0_trans _ _ _ hk_137 h))
              have F_145 := Lib.hid (fun W h => F_134.out W (keep0_trans _ _ _ hk_137 h))
              have K_146 := Lib.hid (keep0_trans _ _ _ K_135.out hk_137)
              clear hk_137 B_127 B_128 B_129 B_130 B_131 F_132 F_133 F_134 K_135
              clear hk
              have c0 := B_141.out.cell 0
              have c1 := B_141.out.cell 1
              simp at c0 c1
              have clt := B_141.out.lt
              have p0 := B_139.out.cell 0
              have p1 := B_139.out.cell 1
              have p2 := B_139.out.cell 2
              have p3 := B_139.out.cell 3
              simp at p0 p1 p2 p3
              have plt := B_139.out.lt
              have q0 := B_140.out.cell 0
              have q1 := B_140.out.cell 1
              have q2 := B_140.out.cell 2
              have q3 := B_140.out.cell 3
              simp at q0 q1 q2 q3
              have qlt := B_140.out.lt
              have r0 := B_142.out.cell 0
              have r1 := B_142.out.cell 1
              have r2 := B_142.out.cell 2
              have r3 := B_142.out.cell 3
              simp at r0 r1 r2 r3
              have rlt := B_142.out.lt
              go_wp2
              go_ret
              exact ⟨rfl, K_146.out⟩
            · rename_i z
              have HAT := Lib.hid hat
              have hz3 := l4 z hat
              clear hat l4
              obtain ⟨ta, ti, ts, tn⟩ := z
              have HZ := Lib.hid (show yi ≤ ti from hz3)
              clear hz3
              have c0 := HB8.out.cell 0
              have c1 := HB8.out.cell 1
              simp at c0 c1
              have clt := HB8.out.lt
              have p0 := B_11.out.cell 0
              have p1 := B_11.out.cell 1
              have p2 := B_11.out.cell 2
              have p3 := B_11.out.cell 3
              simp at p0 p1 p2 p3
              have plt := B_11.out.lt
              have q0 := B_12.out.cell 0
              have q1 := B_12.out.cell 1
              have q2 := B_12.out.cell 2
              have q3 := B_12.out.cell 3
              simp at q0 q1 q2 q3
              have qlt := B_12.out.lt
              go_wp2_with fail
              refine (get_is _ J.1 (xa, xi) _ none (FJM.out _ (Keep.refl _ _)) LJ.out.1 HG1.out).mono ?_
              rintro e v_147 ⟨rfl, hk⟩
              clear c0 c1 clt p0 p1 p2 p3 plt q0 q1 q2 q3 qlt
              rw [optV_none]
              have hk_148 : Keep (fun _ => False) ws v_147 := hk
              have B_149 := Lib.hid (B_10.out.keep hk_148 (fun h => h))
              have B_150 := Lib.hid (B_11.out.keep hk_148 (fun h => h))
              have B_151 := Lib.hid (B_12.out.keep hk_148 (fun h => h))
              have B_152 := Lib.hid (HB8.out.keep hk_148 (fun h => h))
              have F_153 := Lib.hid (fun W h => F_13.out W (keep0_trans _ _ _ hk_148 h))
              have F_154 := Lib.hid (fun W h => FJM.out W (keep0_trans _ _ _ hk_148 h))
              have F_155 := Lib.hid (fun W h => FJF.out W (keep0_trans _ _ _ hk_148 h))
              have K_156 := Lib.hid (keep0_trans _ _ _ K_14.out hk_148)
              clear hk_148 B_10 B_11 B_12 HB8 F_13 FJM FJF K_14
              clear hk
              have c0 := B_152.out.cell 0
              have c1 := B_152.out.cell 1
              simp at c0 c1
              have clt := B_152.out.lt
              have p0 := B_150.out.cell 0
              have p1 := B_150.out.cell 1
              have p2 := B_150.out.cell 2
              have p3 := B_150.out.cell 3
              simp at p0 p1 p2 p3
              have plt := B_150.out.lt
              have q0 := B_151.out.cell 0
              have q1 := B_151.out.cell 1
              have q2 := B_151.out.cell 2
              have q3 := B_151.out.cell 3
              simp at q0 q1 q2 q3
              have qlt := B_151.out.lt
              go_wp2_with fail
              refine (get_is _ J.1 (xa, yi) _ none (F_154.out _ ((Keep.refl (fun _ => False) _).alloc _)) LJ.out.1 HG2.out).mono ?_
              rintro e v_157 ⟨rfl, hk⟩
              clear c0 c1 clt p0 p1 p2 p3 plt q0 q1 q2 q3 qlt
              rw [optV_none]
              have hk_158 : Keep (fun _ => False) v_147 v_157 := keep0_trans _ _ _ ((Keep.refl (fun _ => False) _).alloc _) hk
              have B_159 := Lib.hid (B_149.out.keep hk_158 (fun h => h))
              have B_160 := Lib.hid (B_150.out.keep hk_158 (fun h => h))
              have B_161 := Lib.hid (B_151.out.keep hk_158 (fun h => h))
              have B_162 := Lib.hid (B_152.out.keep hk_158 (fun h => h))
              have F_163 := Lib.hid (fun W h => F_153.out W (keep0_trans _ _ _ hk_158 h))
              have F_164 := Lib.hid (fun W h => F_154.out W (keep0_trans _ _ _ hk_158 h))
              have F_165 := Lib.hid (fun W h => F_155.out W (keep0_trans _ _ _ hk_158 h))
              have K_166 := Lib.hid (keep0_trans _ _ _ K_156.out hk_158)
              clear hk_158 B_149 B_150 B_151 B_152 F_153 F_154 F_155 K_156
              clear hk
              have c0 := B_162.out.cell 0
              have c1 := B_162.out.cell 1
              simp at c0 c1
              have clt := B_162.out.lt
              have p0 := B_160.out.cell 0
              have p1 := B_160.out.cell 1
              have p2 := B_160.out.cell 2
              have p3 := B_160.out.cell 3
              simp at p0 p1 p2 p3
              have plt := B_160.out.lt
              have q0 := B_161.out.cell 0
              have q1 := B_161.out.cell 1
              have q2 := B_161.out.cell 2
              have q3 := B_161.out.cell 3
              simp at q0 q1 q2 q3
              have qlt := B_161.out.lt
              go_wp2_with fail
              refine (at_is _ J.1 xa _ (some ⟨ta, ti, ts, tn⟩) (F_164.out _ ((Keep.refl (fun _ => False) _).alloc _)) LJ.out.1 HAT.out).mono ?_
              rintro e v_167 ⟨rfl, hk⟩
              clear c0 c1 clt p0 p1 p2 p3 plt q0 q1 q2 q3 qlt
              rw [optV_some]
              have hk_168 : Keep (fun _ => False) v_157 v_167 := keep0_trans _ _ _ ((Keep.refl (fun _ => False) _).alloc _) hk
              have B_169 := Lib.hid (B_159.out.keep hk_168 (fun h => h))
              have B_170 := Lib.hid (B_160.out.keep hk_168 (fun h => h))
              have B_171 := Lib.hid (B_161.out.keep hk_168 (fun h => h))
              have B_172 := Lib.hid (B_162.out.keep hk_168 (fun h => h))
              have F_173 := Lib.hid (fun W h => F_163.out W (keep0_trans _ _ _ hk_168 h))
              have F_174 := Lib.hid (fun W h => F_164.out W (keep0_trans _ _ _ hk_168 h))
              have F_175 := Lib.hid (fun W h => F_165.out W (keep0_trans _ _ _ hk_168 h))
              have K_176 := Lib.hid (keep0_trans _ _ _ K_166.out hk_168)
              clear hk_168 B_159 B_160 B_161 B_162 F_163 F_164 F_165 K_166
              clear hk
              go_upto_region 9 with (fail)
              have hb_177 := Blk.new v_167 32 #[.int .i64 ta, .int .i64 ti, .int .u8 ts, .int .i64 tn]
              have hq_179 : Keep (fun _ => False) v_167 (v_167.alloc (.cells #[.int .i64 ta, .int .i64 ti, .int .u8 ts, .int .i64 tn] 32)) := (Keep.refl _ _).alloc _
              generalize hw : v_167.alloc (.cells #[.int .i64 ta, .int .i64 ti, .int .u8 ts, .int .i64 tn] 32) = w_178 at *
              clear hw
              have B_181 := Lib.hid hb_177
              clear hb_177
              have hk_182 : Keep (fun _ => False) v_167 w_178 := hq_179
              have B_183 := Lib.hid (B_169.out.keep hk_182 (fun h => h))
              have B_184 := Lib.hid (B_170.out.keep hk_182 (fun h => h))
              have B_185 := Lib.hid (B_171.out.keep hk_182 (fun h => h))
              have B_186 := Lib.hid (B_172.out.keep hk_182 (fun h => h))
              have F_187 := Lib.hid (fun W h => F_173.out W (keep0_trans _ _ _ hk_182 h))
              have F_188 := Lib.hid (fun W h => F_174.out W (keep0_trans _ _ _ hk_182 h))
              have F_189 := Lib.hid (fun W h => F_175.out W (keep0_trans _ _ _ hk_182 h))
              have K_190 := Lib.hid (keep0_trans _ _ _ K_176.out hk_182)
              clear hk_182 B_169 B_170 B_171 B_172 F_173 F_174 F_175 K_176
              clear hq_179
              have c0 := B_186.out.cell 0
              have c1 := B_186.out.cell 1
              simp at c0 c1
              have clt := B_186.out.lt
              have p0 := B_184.out.cell 0
              have p1 := B_184.out.cell 1
              have p2 := B_184.out.cell 2
              have p3 := B_184.out.cell 3
              simp at p0 p1 p2 p3
              have plt := B_184.out.lt
              have q0 := B_185.out.cell 0
              have q1 := B_185.out.cell 1
              have q2 := B_185.out.cell 2
              have q3 := B_185.out.cell 3
              simp at q0 q1 q2 q3
              have qlt := B_185.out.lt
              have r0 := B_181.out.cell 0
              have r1 := B_181.out.cell 1
              have r2 := B_181.out.cell 2
              have r3 := B_181.out.cell 3
              simp at r0 r1 r2 r3
              have rlt := B_181.out.lt
              go_wp2_with fail
              refine (gone_is _ J.2 (xa, xi) _ true (F_189.out _ (Keep.refl _ _)) LJ.out.2 HX1.out).mono ?_
              rintro e v_191 ⟨rfl, hk⟩
              clear c0 c1 clt p0 p1 p2 p3 plt q0 q1 q2 q3 qlt r0 r1 r2 r3 rlt
              have hk_192 : Keep (fun _ => False) w_178 v_191 := hk
              have B_193 := Lib.hid (B_183.out.keep hk_192 (fun h => h))
              have B_194 := Lib.hid (B_184.out.keep hk_192 (fun h => h))
              have B_195 := Lib.hid (B_185.out.keep hk_192 (fun h => h))
              have B_196 := Lib.hid (B_186.out.keep hk_192 (fun h => h))
              have B_197 := Lib.hid (B_181.out.keep hk_192 (fun h => h))
              have F_198 := Lib.hid (fun W h => F_187.out W (keep0_trans _ _ _ hk_192 h))
              have F_199 := Lib.hid (fun W h => F_188.out W (keep0_trans _ _ _ hk_192 h))
              have F_200 := Lib.hid (fun W h => F_189.out W (keep0_trans _ _ _ hk_192 h))
              have K_201 := Lib.hid (keep0_trans _ _ _ K_190.out hk_192)
              clear hk_192 B_183 B_184 B_185 B_186 B_181 F_187 F_188 F_189 K_190
              clear hk
              have c0 := B_196.out.cell 0
              have c1 := B_196.out.cell 1
              simp at c0 c1
              have clt := B_196.out.lt
              have p0 := B_194.out.cell 0
              have p1 := B_194.out.cell 1
              have p2 := B_194.out.cell 2
              have p3 := B_194.out.cell 3
              simp at p0 p1 p2 p3
              have plt := B_194.out.lt
              have q0 := B_195.out.cell 0
              have q1 := B_195.out.cell 1
              have q2 := B_195.out.cell 2
              have q3 := B_195.out.cell 3
              simp at q0 q1 q2 q3
              have qlt := B_195.out.lt
              have r0 := B_197.out.cell 0
              have r1 := B_197.out.cell 1
              have r2 := B_197.out.cell 2
              have r3 := B_197.out.cell 3
              simp at r0 r1 r2 r3
              have rlt := B_197.out.lt
              go_wp2_with fail
              refine (gone_is _ J.2 (xa, yi) _ true (F_200.out _ (Keep.refl _ _)) LJ.out.2 HX2.out).mono ?_
              rintro e v_202 ⟨rfl, hk⟩
              clear c0 c1 clt p0 p1 p2 p3 plt q0 q1 q2 q3 qlt r0 r1 r2 r3 rlt
              have hk_203 : Keep (fun _ => False) v_191 v_202 := hk
              have B_204 := Lib.hid (B_193.out.keep hk_203 (fun h => h))
              have B_205 := Lib.hid (B_194.out.keep hk_203 (fun h => h))
              have B_206 := Lib.hid (B_195.out.keep hk_203 (fun h => h))
              have B_207 := Lib.hid (B_196.out.keep hk_203 (fun h => h))
              have B_208 := Lib.hid (B_197.out.keep hk_203 (fun h => h))
              have F_209 := Lib.hid (fun W h => F_198.out W (keep0_trans _ _ _ hk_203 h))
              have F_210 := Lib.hid (fun W h => F_199.out W (keep0_trans _ _ _ hk_203 h))
              have F_211 := Lib.hid (fun W h => F_200.out W (keep0_trans _ _ _ hk_203 h))
              have K_212 := Lib.hid (keep0_trans _ _ _ K_201.out hk_203)
              clear hk_203 B_193 B_194 B_195 B_196 B_197 F_198 F_199 F_200 K_201
              clear hk
              have c0 := B_207.out.cell 0
              have c1 := B_207.out.cell 1
              simp at c0 c1
              have clt := B_207.out.lt
              have p0 := B_205.out.cell 0
              have p1 := B_205.out.cell 1
              have p2 := B_205.out.cell 2
              have p3 := B_205.out.cell 3
              simp at p0 p1 p2 p3
              have plt := B_205.out.lt
              have q0 := B_206.out.cell 0
              have q1 := B_206.out.cell 1
              have q2 := B_206.out.cell 2
              have q3 := B_206.out.cell 3
              simp at q0 q1 q2 q3
              have qlt := B_206.out.lt
              have r0 := B_208.out.cell 0
              have r1 := B_208.out.cell 1
              have r2 := B_208.out.cell 2
              have r3 := B_208.out.cell 3
              simp at r0 r1 r2 r3
              have rlt := B_208.out.lt
              have hge2 : yi ≤ ti := HZ.out
              go_wp2
              go_ret
              exact ⟨rfl, K_212.out⟩
  · have HBig := Lib.hid hbig
    clear hbig
    refine wp_region_kord (Keep (fun _ => False)) (Keep.refl _) keep0_trans 28 (Ts := [some (.inl (.bool true)), none, none, some (.inl (.agg #[.slice Aa na ca, .slice Ba_ ma da])), some (.inr (fun v W => IsLv W v [a])), some (.inl (.bool true)), none, none, none, none, none, none, none, none, none, none, none, none, none, none, none, none, none, none, none, none, none, none]) ?_
    simp only [List.take, List.drop]
    refine kAll_dn _ (fun W hW hF => kStep_of fun K Q hK => ?_) (fun K hK => ?_)
    · go_simp
      refine (works_any W).mono ?_
      rintro e w' ⟨rfl, hk⟩
      exact hK _ _ hk rfl
    go_simp
    generalize hZ : (Act.mk _ _) = Z
    refine hK Z ?_
    subst hZ
    clear hK K
    refine kAll_p (fun K hK => ?_)
    go_simp
    generalize hZ : (Act.mk _ _) = Z
    refine hK Z ?_
    subst hZ
    clear hK K
    refine kAll_p (fun K hK => ?_)
    go_simp
    generalize hZ : (Act.mk _ _) = Z
    refine hK Z ?_
    subst hZ
    clear hK K
    refine kAll_dn _ (fun W hW hF => kStep_w (by kernel_rfl) fun K Q hK => ?_) (fun K hK => ?_)
    · have e0 := (B3.out.keep hW (fun h => h)).cell 0
      have e1 := (B3.out.keep hW (fun h => h)).cell 1
      simp at e0 e1
      go_simp
      exact hK _ _ (Keep.refl _ _) rfl
    go_simp
    generalize hZ : (Act.mk _ _) = Z
    refine hK Z ?_
    subst hZ
    clear hK K
    refine kAll_tn _ (fun v W W' hk h => h.keep0 hk) (fun W hW hF => kStep_w (by kernel_rfl) fun K Q hK => ?_) (fun u0 K hK => ?_)
    · have h0 := FA.out W (hW)
      go_simp
      exact hK _ _ ((Keep.refl _ _).alloc _) (isLv1 h0)
    go_simp
    generalize hZ : (Act.mk _ _) = Z
    refine hK Z ?_
    subst hZ
    clear hK K
    refine kAll_dn _ (fun W hW hF => kStep_w (by kernel_rfl) fun K Q hK => ?_) (fun K hK => ?_)
    · have h0 : (fun v W => IsLv W v [a]) u0 W := kHas_at hF 0 rfl (by kernel_rfl)
      obtain ⟨A9, n9, c9, rfl, h9⟩ := h0
      go_simp
      refine (large_is _ [a] W true ⟨_, _, _, rfl, h9⟩ (by simp) HBig.out).mono ?_
      rintro e w' ⟨rfl, hk⟩
      exact hK _ _ hk rfl
    go_simp
    generalize hZ : (Act.mk _ _) = Z
    refine hK Z ?_
    subst hZ
    clear hK K
    refine kAll_p (fun K hK => ?_)
    go_simp
    generalize hZ : (Act.mk _ _) = Z
    refine hK Z ?_
    subst hZ
    clear hK K
    refine kAll_p (fun K hK => ?_)
    go_simp
    generalize hZ : (Act.mk _ _) = Z
    refine hK Z ?_
    subst hZ
    clear hK K
    refine kAll_skip (by kernel_rfl) ?_
    refine kAll_skip (by kernel_rfl) ?_
    refine kAll_skip (by kernel_rfl) ?_
    refine kAll_skip (by kernel_rfl) ?_
    refine kAll_p (fun K hK => ?_)
    go_simp
    generalize hZ : (Act.mk _ _) = Z
    refine hK Z ?_
    subst hZ
    clear hK K
    refine kAll_p (fun K hK => ?_)
    go_simp
    generalize hZ : (Act.mk _ _) = Z
    refine hK Z ?_
    subst hZ
    clear hK K
    refine kAll_skip (by kernel_rfl) ?_
    refine kAll_skip (by kernel_rfl) ?_
    refine kAll_skip (by kernel_rfl) ?_
    refine kAll_skip (by kernel_rfl) ?_
    refine kAll_p (fun K hK => ?_)
    go_simp
    generalize hZ : (Act.mk _ _) = Z
    refine hK Z ?_
    subst hZ
    clear hK K
    refine kAll_p (fun K hK => ?_)
    go_simp
    generalize hZ : (Act.mk _ _) = Z
    refine hK Z ?_
    subst hZ
    clear hK K
    refine kAll_skip (by kernel_rfl) ?_
    refine kAll_skip (by kernel_rfl) ?_
    refine kAll_skip (by kernel_rfl) ?_
    refine kAll_skip (by kernel_rfl) ?_
    refine kAll_skip (by kernel_rfl) ?_
    refine kAll_skip (by kernel_rfl) ?_
    refine kAll_skip (by kernel_rfl) ?_
    refine kAll_p (fun K hK => ?_)
    go_simp
    generalize hZ : (Act.mk _ _) = Z
    refine hK Z ?_
    subst hZ
    clear hK K
    refine kAll_nil (fun W1 hW hF => ?_)
    clear hF
    have hk_2 : Keep (fun _ => False) w0 W1 := hW
    have B_3 := Lib.hid (B3.out.keep hk_2 (fun h => h))
    have B_4 := Lib.hid (B4.out.keep hk_2 (fun h => h))
    have B_5 := Lib.hid (B5.out.keep hk_2 (fun h => h))
    have F_6 := Lib.hid (fun W h => FA.out W (keep0_trans _ _ _ hk_2 h))
    have K_7 := Lib.hid (keep0_trans _ _ _ K0.out hk_2)
    clear hk_2 B3 B4 B5 FA K0
    clear hW
    go_wp2_with fail
    refine (works_any _).mono ?_
    rintro e w2 ⟨rfl, hk⟩
    have KZ := Lib.hid (keep0_trans _ _ _ K_7.out hk)
    clear hk
    go_wp2
    go_ret
    exact ⟨rfl, KZ.out⟩

theorem walkRosterLife {w : World} (v0 : Value) (w0 : InL w v0) (v1 : Value) (w1 : InMem w v1) (v2 : Value) (w2 : InMem w v2) :
    Calls Try.prog 4 #[v0, v1, v2] w fun e w' => e = .returned (.bool true) ∧ Below w.heap.size w w' := by
  obtain ⟨a, ha, _, _⟩ := w0
  obtain ⟨x, rfl⟩ := w1
  obtain ⟨y, rfl⟩ := w2
  exact (life_any _ a x y w ha).mono fun e w' ⟨he, hk⟩ => ⟨he, hk.b⟩
end Go.Proofs.Ythlfgjlnjmjppaa
