/-
  Roster: RosterSet. Written by gen_set.py.
-/
import Derived.Test.YthlfgjlnjmjppaaRosV
namespace Go.Proofs.Ythlfgjlnjmjppaa
open Go.RowKit
attribute [local irreducible] kAll
attribute [local go_sem] kQuiet kQuietUpon


theorem optV_gen (o : Option Mem) : ∃ a i s n b, optV o = .tuple #[.agg #[.int .i64 a, .int .i64 i, .int .u8 s, .int .i64 n], .bool b] := by
  cases o with
  | none => exact ⟨0, 0, 0, 0, false, rfl⟩
  | some x => exact ⟨x.addr, x.inc, x.st, x.no, true, rfl⟩
set_option maxRecDepth 100000 in
set_option maxHeartbeats 4000000 in
theorem rset_any (va : Value) (a : LI) (x : Mem) (w : World) (ha : IsL w va a.1 a.2) : Calls Try.prog 7 #[va, memV x] w (Tell (.bool true) w) := by
  obtain ⟨Aa, na, ca, Ba_, ma, da, rfl, ha1, ha2⟩ := ha
  obtain ⟨xa, xi, xs, xn⟩ := x
  have hk0 : Keep (fun _ => False) w ((w.alloc (.cells #[.slice Aa na ca, .slice Ba_ ma da] 25)).alloc (.cells #[.int .i64 xa, .int .i64 xi, .int .u8 xs, .int .i64 xn] 32)) := ((Keep.refl _ w).alloc _).alloc _
  have b0 := (Blk.new w 25 #[.slice Aa na ca, .slice Ba_ ma da]).alloc (.cells #[.int .i64 xa, .int .i64 xi, .int .u8 xs, .int .i64 xn] 32)
  have b1 := Blk.new_ (w := w.alloc (.cells #[.slice Aa na ca, .slice Ba_ ma da] 25)) (B := w.heap.size + 1) (by simp) 32 #[.int .i64 xa, .int .i64 xi, .int .u8 xs, .int .i64 xn]
  generalize hw0 : (w.alloc (.cells #[.slice Aa na ca, .slice Ba_ ma da] 25)).alloc (.cells #[.int .i64 xa, .int .i64 xi, .int .u8 xs, .int .i64 xn] 32) = w0 at *
  have HW0 := Lib.hid hw0
  have K0 := Lib.hid hk0
  have B2 := Lib.hid b0
  have B3 := Lib.hid b1
  have FA : Hid (∀ W, Keep (fun _ => False) w0 W → IsL W (.agg #[.slice Aa na ca, .slice Ba_ ma da]) a.1 a.2) := Lib.hid fun W h => ⟨_, _, _, _, _, _, rfl, ha1.keep0 (keep0_trans _ _ _ hk0 h), ha2.keep0 (keep0_trans _ _ _ hk0 h)⟩
  clear hk0 b0 b1 ha1 ha2 hw0
  go_enter Try.func7, Try.ntmps7
  go_upto_region 1 with (fail)
  rw [HW0.out]
  clear HW0
  cases hbig : [a].any bigL
  · have HBig := Lib.hid hbig
    have hs : bigL a = false := by simpa using hbig
    have LA := Lib.hid (len_small hs)
    have HS100 := Lib.hid hs
    clear hs hbig
    refine wp_region_kord (Keep (fun _ => False)) (Keep.refl _) keep0_trans 7 (Ts := [some (.inl (.bool true)), none, none, some (.inl (.agg #[.slice Aa na ca, .slice Ba_ ma da])), some (.inr (fun v W => IsLv W v [a])), some (.inl (.bool false)), none]) ?_
    simp only [List.take, List.drop]
    refine kAll_dn _ (fun W hW hF => kStep_of fun K Q hK => ?_) (fun K hK => ?_)
    · go_simp
      refine (works_any W).mono ?_
      rintro e w' ⟨rfl, hk⟩
      exact hK _ _ hk rfl
    go_simp
    generalize hZ : (Act.mk _ _) = Z
    refine hK Z ?_
    subst hZ
    clear hK K
    refine kAll_p (fun K hK => ?_)
    go_simp
    generalize hZ : (Act.mk _ _) = Z
    refine hK Z ?_
    subst hZ
    clear hK K
    refine kAll_p (fun K hK => ?_)
    go_simp
    generalize hZ : (Act.mk _ _) = Z
    refine hK Z ?_
    subst hZ
    clear hK K
    refine kAll_dn _ (fun W hW hF => kStep_w (by kernel_rfl) fun K Q hK => ?_) (fun K hK => ?_)
    · have e0 := (B2.out.keep hW (fun h => h)).cell 0
      have e1 := (B2.out.keep hW (fun h => h)).cell 1
      simp at e0 e1
      go_simp
      exact hK _ _ (Keep.refl _ _) rfl
    go_simp
    generalize hZ : (Act.mk _ _) = Z
    refine hK Z ?_
    subst hZ
    clear hK K
    refine kAll_tn _ (fun v W W' hk h => h.keep0 hk) (fun W hW hF => kStep_w (by kernel_rfl) fun K Q hK => ?_) (fun u0 K hK => ?_)
    · have h0 := FA.out W (hW)
      go_simp
      exact hK _ _ ((Keep.refl _ _).alloc _) (isLv1 h0)
    go_simp
    generalize hZ : (Act.mk _ _) = Z
    refine hK Z ?_
    subst hZ
    clear hK K
    refine kAll_dn _ (fun W hW hF => kStep_w (by kernel_rfl) fun K Q hK => ?_) (fun K hK => ?_)
    · have h0 : (fun v W => IsLv W v [a]) u0 W := kHas_at hF 0 rfl (by kernel_rfl)
      obtain ⟨A9, n9, c9, rfl, h9⟩ := h0
      go_simp
      refine (large_is _ [a] W false ⟨_, _, _, rfl, h9⟩ (by simp) HBig.out).mono ?_
      rintro e w' ⟨rfl, hk⟩
      exact hK _ _ hk rfl
    go_simp
    generalize hZ : (Act.mk _ _) = Z
    refine hK Z ?_
    subst hZ
    clear hK K
    refine kAll_p (fun K hK => ?_)
    go_simp
    generalize hZ : (Act.mk _ _) = Z
    refine hK Z ?_
    subst hZ
    clear hK K
    refine kAll_nil (fun W1 hW hF => ?_)
    clear hF
    have hk_2 : Keep (fun _ => False) w0 W1 := hW
    have B_3 := Lib.hid (B2.out.keep hk_2 (fun h => h))
    have B_4 := Lib.hid (B3.out.keep hk_2 (fun h => h))
    have F_5 := Lib.hid (fun W h => FA.out W (keep0_trans _ _ _ hk_2 h))
    have K_6 := Lib.hid (keep0_trans _ _ _ K0.out hk_2)
    clear hk_2 B2 B3 FA K0
    clear hW
    have c0 := B_3.out.cell 0
    have c1 := B_3.out.cell 1
    simp at c0 c1
    have clt := B_3.out.lt
    go_wp2_with fail
    refine (joinl_any _ _ a ([], []) _ (F_5.out _ (Keep.refl _ _)) ⟨_, _, _, _, _, _, rfl, RdMem.nil_ _, RdI.nil_ _⟩ LA.out len_empty).mono ?_
    rintro e v1 ⟨u, rfl, hu, hk⟩
    clear c0 c1 clt
    have LJ := Lib.hid (len_join a ([], []))
    have HSO := Lib.hid (fun b hb => set_other a (⟨xa, xi, xs, xn⟩ : Mem) b hb)
    generalize joinL a ([], []) = J at *
    obtain ⟨AJ, nJ, cJ, BJ, mJ, dJ, rfl, hj1, hj2⟩ := hu
    have FJ : Hid (∀ W, Keep (fun _ => False) v1 W → IsL W (.agg #[.slice AJ nJ cJ, .slice BJ mJ dJ]) J.1 J.2) := Lib.hid fun W h => ⟨_, _, _, _, _, _, rfl, hj1.keep0 h, hj2.keep0 h⟩
    clear hj1 hj2
    have hk_7 : Keep (fun _ => False) W1 v1 := hk
    have B_8 := Lib.hid (B_3.out.keep hk_7 (fun h => h))
    have B_9 := Lib.hid (B_4.out.keep hk_7 (fun h => h))
    have F_10 := Lib.hid (fun W h => F_5.out W (keep0_trans _ _ _ hk_7 h))
    have K_11 := Lib.hid (keep0_trans _ _ _ K_6.out hk_7)
    clear hk_7 B_3 B_4 F_5 K_6
    clear hk
    go_upto_region 4 with (fail)
    have hb_12 := Blk.new v1 25 #[.slice AJ nJ cJ, .slice BJ mJ dJ]
    have hq_14 : Keep (fun _ => False) v1 (v1.alloc (.cells #[.slice AJ nJ cJ, .slice BJ mJ dJ] 25)) := (Keep.refl _ _).alloc _
    generalize hw : v1.alloc (.cells #[.slice AJ nJ cJ, .slice BJ mJ dJ] 25) = w_13 at *
    clear hw
    have B_16 := Lib.hid hb_12
    clear hb_12
    have hk_17 : Keep (fun _ => False) v1 w_13 := hq_14
    have B_18 := Lib.hid (B_8.out.keep hk_17 (fun h => h))
    have B_19 := Lib.hid (B_9.out.keep hk_17 (fun h => h))
    have F_20 := Lib.hid (fun W h => F_10.out W (keep0_trans _ _ _ hk_17 h))
    have F_21 := Lib.hid (fun W h => FJ.out W (keep0_trans _ _ _ hk_17 h))
    have K_22 := Lib.hid (keep0_trans _ _ _ K_11.out hk_17)
    clear hk_17 B_8 B_9 F_10 FJ K_11
    clear hq_14
    have c0 := B_18.out.cell 0
    have c1 := B_18.out.cell 1
    simp at c0 c1
    have clt := B_18.out.lt
    have x0 := B_19.out.cell 0
    have x1 := B_19.out.cell 1
    have x2 := B_19.out.cell 2
    have x3 := B_19.out.cell 3
    simp at x0 x1 x2 x3
    have xlt := B_19.out.lt
    go_wp2_with fail
    refine (set_any _ _ a.1 a.2 (⟨xa, xi, xs, xn⟩ : Mem) _ (isM_of (F_20.out _ (Keep.refl _ _))) (isF_of (F_20.out _ (Keep.refl _ _))) LA.out).mono ?_
    rintro e v2 ⟨vm, vf, rfl, hm, hf, hk⟩
    clear c0 c1 clt x0 x1 x2 x3 xlt
    rw [show joinT a.1 a.2 [(⟨xa, xi, xs, xn⟩ : Mem)] [] = joinL a ([(⟨xa, xi, xs, xn⟩ : Mem)], []) from rfl] at hm hf
    have LS := Lib.hid (len_join a ([(⟨xa, xi, xs, xn⟩ : Mem)], []))
    generalize joinL a ([(⟨xa, xi, xs, xn⟩ : Mem)], []) = S at *
    have FS : Hid (∀ W, Keep (fun _ => False) v2 W → IsM W vm S.1 ∧ IsF W vf S.2) := Lib.hid fun W h => ⟨hm.keep0 h, hf.keep0 h⟩
    clear hm hf
    have hk_23 : Keep (fun _ => False) w_13 v2 := hk
    have B_24 := Lib.hid (B_18.out.keep hk_23 (fun h => h))
    have B_25 := Lib.hid (B_19.out.keep hk_23 (fun h => h))
    have B_26 := Lib.hid (B_16.out.keep hk_23 (fun h => h))
    have F_27 := Lib.hid (fun W h => F_20.out W (keep0_trans _ _ _ hk_23 h))
    have F_28 := Lib.hid (fun W h => F_21.out W (keep0_trans _ _ _ hk_23 h))
    have K_29 := Lib.hid (keep0_trans _ _ _ K_22.out hk_23)
    clear hk_23 B_18 B_19 B_16 F_20 F_21 K_22
    clear hk
    go_wp2_with fail
    go_loopw [8] (fun i wr => ∃ k : Nat, k ≤ 16 ∧ i = .int .i64 ((k : Int) - 1) ∧ Hid (Keep (fun _ => False) v2 wr)) (fun i _ => (15 - intOf i).toNat)
    case atStart => exact ⟨0, by omega, rfl, Lib.hid (Keep.refl _ _)⟩
    case round =>
      obtain ⟨k, hk, rfl, HKR⟩ := hrel
      by_cases hlt : k < 16
      · obtain ⟨b, hb⟩ : ∃ b : Int, b = (k : Int) - 1 := ⟨_, rfl⟩
        rw [← hb]
        have hb1 : b + 1 = (k : Int) := by omega
        have hbl : b ≤ 14 := by omega
        have hbm : -1 ≤ b := by omega
        have HB1 := Lib.hid hb1
        clear hb hb1
        have AnR := HKR
        have hk_30 : Keep (fun _ => False) v2 wr := HKR.out
        have B_31 := Lib.hid (B_24.out.keep hk_30 (fun h => h))
        have B_32 := Lib.hid (B_25.out.keep hk_30 (fun h => h))
        have B_33 := Lib.hid (B_26.out.keep hk_30 (fun h => h))
        have F_34 := Lib.hid (fun W h => F_27.out W (keep0_trans _ _ _ hk_30 h))
        have F_35 := Lib.hid (fun W h => F_28.out W (keep0_trans _ _ _ hk_30 h))
        have F_36 := Lib.hid (fun W h => FS.out W (keep0_trans _ _ _ hk_30 h))
        have K_37 := Lib.hid (keep0_trans _ _ _ K_29.out hk_30)
        clear hk_30 B_24 B_25 B_26 F_27 F_28 FS K_29
        by_cases hx : b = xa
        · have hxe : (b == xa) = true := by simpa using hx
          clear hx
          have x0 := B_32.out.cell 0
          have x1 := B_32.out.cell 1
          have x2 := B_32.out.cell 2
          have x3 := B_32.out.cell 3
          simp at x0 x1 x2 x3
          have xlt := B_32.out.lt
          go_wp2
          go_roundw
          case rel => exact ⟨k + 1, by omega, by have := HB1.out; exact congrArg (Value.int .i64) (by omega), HKR⟩
          case measure => have := HB1.out; simp [intOf]; omega
        · have hxe : (b == xa) = false := by simpa using hx
          obtain ⟨hat, hfl⟩ := HSO.out b hx
          clear hx
          obtain ⟨za, zi, zs, zn, bz, hz⟩ := optV_gen (atT J.1 b)
          have HZ := Lib.hid hz
          have HAT := Lib.hid hat.symm
          have HFL := Lib.hid hfl.symm
          generalize hfv : floorT J.2 b = fv at *
          have HFV := Lib.hid hfv
          clear hz hat hfl hfv
          have x0 := B_32.out.cell 0
          have x1 := B_32.out.cell 1
          have x2 := B_32.out.cell 2
          have x3 := B_32.out.cell 3
          simp at x0 x1 x2 x3
          have xlt := B_32.out.lt
          have y0 := B_33.out.cell 0
          have y1 := B_33.out.cell 1
          simp at y0 y1
          have ylt := B_33.out.lt
          go_wp2_with fail
          refine (at_is _ J.1 b _ _ (isM_of (F_35.out _ (Keep.refl _ _))) LJ.out.1 rfl).mono ?_
          rintro e v3 ⟨rfl, hk3⟩
          clear x0 x1 x2 x3 xlt y0 y1 ylt
          rw [HZ.out]
          have hk_38 : Keep (fun _ => False) wr v3 := hk3
          have B_39 := Lib.hid (B_31.out.keep hk_38 (fun h => h))
          have B_40 := Lib.hid (B_32.out.keep hk_38 (fun h => h))
          have B_41 := Lib.hid (B_33.out.keep hk_38 (fun h => h))
          have F_42 := Lib.hid (fun W h => F_34.out W (keep0_trans _ _ _ hk_38 h))
          have F_43 := Lib.hid (fun W h => F_35.out W (keep0_trans _ _ _ hk_38 h))
          have F_44 := Lib.hid (fun W h => F_36.out W (keep0_trans _ _ _ hk_38 h))
          have K_45 := Lib.hid (keep0_trans _ _ _ K_37.out hk_38)
          have An_46 := Lib.hid (keep0_trans _ _ _ AnR.out hk_38)
          clear hk_38 B_31 B_32 B_33 F_34 F_35 F_36 K_37 AnR
          clear hk3
          go_upto_region 10 with (fail)
          have hb_47 := Blk.new v3 32 #[.int .i64 za, .int .i64 zi, .int .u8 zs, .int .i64 zn]
          have hq_49 : Keep (fun _ => False) v3 (v3.alloc (.cells #[.int .i64 za, .int .i64 zi, .int .u8 zs, .int .i64 zn] 32)) := (Keep.refl _ _).alloc _
          generalize hw : v3.alloc (.cells #[.int .i64 za, .int .i64 zi, .int .u8 zs, .int .i64 zn] 32) = w_48 at *
          clear hw
          have B_51 := Lib.hid hb_47
          clear hb_47
          have hk_52 : Keep (fun _ => False) v3 w_48 := hq_49
          have B_53 := Lib.hid (B_39.out.keep hk_52 (fun h => h))
          have B_54 := Lib.hid (B_40.out.keep hk_52 (fun h => h))
          have B_55 := Lib.hid (B_41.out.keep hk_52 (fun h => h))
          have F_56 := Lib.hid (fun W h => F_42.out W (keep0_trans _ _ _ hk_52 h))
          have F_57 := Lib.hid (fun W h => F_43.out W (keep0_trans _ _ _ hk_52 h))
          have F_58 := Lib.hid (fun W h => F_44.out W (keep0_trans _ _ _ hk_52 h))
          have K_59 := Lib.hid (keep0_trans _ _ _ K_45.out hk_52)
          have An_60 := Lib.hid (keep0_trans _ _ _ An_46.out hk_52)
          clear hk_52 B_39 B_40 B_41 F_42 F_43 F_44 K_45 An_46
          clear hq_49
          have x0 := B_54.out.cell 0
          have x1 := B_54.out.cell 1
          have x2 := B_54.out.cell 2
          have x3 := B_54.out.cell 3
          simp at x0 x1 x2 x3
          have xlt := B_54.out.lt
          have y0 := B_55.out.cell 0
          have y1 := B_55.out.cell 1
          simp at y0 y1
          have ylt := B_55.out.lt
          go_wp2_with fail
          refine (at_is _ S.1 b _ _ (F_58.out _ (Keep.refl _ _)).1 LS.out.1 HAT.out).mono ?_
          rintro e v4 ⟨rfl, hk4⟩
          clear x0 x1 x2 x3 xlt y0 y1 ylt
          rw [HZ.out]
          have hk_61 : Keep (fun _ => False) w_48 v4 := hk4
          have B_62 := Lib.hid (B_53.out.keep hk_61 (fun h => h))
          have B_63 := Lib.hid (B_54.out.keep hk_61 (fun h => h))
          have B_64 := Lib.hid (B_55.out.keep hk_61 (fun h => h))
          have B_65 := Lib.hid (B_51.out.keep hk_61 (fun h => h))
          have F_66 := Lib.hid (fun W h => F_56.out W (keep0_trans _ _ _ hk_61 h))
          have F_67 := Lib.hid (fun W h => F_57.out W (keep0_trans _ _ _ hk_61 h))
          have F_68 := Lib.hid (fun W h => F_58.out W (keep0_trans _ _ _ hk_61 h))
          have K_69 := Lib.hid (keep0_trans _ _ _ K_59.out hk_61)
          have An_70 := Lib.hid (keep0_trans _ _ _ An_60.out hk_61)
          clear hk_61 B_53 B_54 B_55 B_51 F_56 F_57 F_58 K_59 An_60
          clear hk4
          go_upto_region 11 with (fail)
          have hb_71 := Blk.new v4 32 #[.int .i64 za, .int .i64 zi, .int .u8 zs, .int .i64 zn]
          have hq_73 : Keep (fun _ => False) v4 (v4.alloc (.cells #[.int .i64 za, .int .i64 zi, .int .u8 zs, .int .i64 zn] 32)) := (Keep.refl _ _).alloc _
          generalize hw : v4.alloc (.cells #[.int .i64 za, .int .i64 zi, .int .u8 zs, .int .i64 zn] 32) = w_72 at *
          clear hw
          have B_75 := Lib.hid hb_71
          clear hb_71
          have hk_76 : Keep (fun _ => False) v4 w_72 := hq_73
          have B_77 := Lib.hid (B_62.out.keep hk_76 (fun h => h))
          have B_78 := Lib.hid (B_63.out.keep hk_76 (fun h => h))
          have B_79 := Lib.hid (B_64.out.keep hk_76 (fun h => h))
          have B_80 := Lib.hid (B_65.out.keep hk_76 (fun h => h))
          have F_81 := Lib.hid (fun W h => F_66.out W (keep0_trans _ _ _ hk_76 h))
          have F_82 := Lib.hid (fun W h => F_67.out W (keep0_trans _ _ _ hk_76 h))
          have F_83 := Lib.hid (fun W h => F_68.out W (keep0_trans _ _ _ hk_76 h))
          have K_84 := Lib.hid (keep0_trans _ _ _ K_69.out hk_76)
          have An_85 := Lib.hid (keep0_trans _ _ _ An_70.out hk_76)
          clear hk_76 B_62 B_63 B_64 B_65 F_66 F_67 F_68 K_69 An_70
          clear hq_73
          have y0 := B_79.out.cell 0
          have y1 := B_79.out.cell 1
          simp at y0 y1
          have ylt := B_79.out.lt
          have z0 := B_80.out.cell 0
          have z1 := B_80.out.cell 1
          have z2 := B_80.out.cell 2
          have z3 := B_80.out.cell 3
          simp at z0 z1 z2 z3
          have zlt := B_80.out.lt
          have v0 := B_75.out.cell 0
          have v1 := B_75.out.cell 1
          have v2 := B_75.out.cell 2
          have v3 := B_75.out.cell 3
          simp at v0 v1 v2 v3
          have vlt := B_75.out.lt
          have E : ∀ W, (binOp .neq 32 (memV ⟨za, zi, zs, zn⟩) (memV ⟨za, zi, zs, zn⟩)).run Try.prog W = .ok (.bool false) W := fun W => by simpa using neq_Mem ⟨za, zi, zs, zn⟩ ⟨za, zi, zs, zn⟩ W
          have G := gMem
          go_wp2_with fail
          refine (floor_is _ J.2 b _ fv (isF_of (F_82.out _ (Keep.refl _ _))) LJ.out.2 HFV.out).mono ?_
          rintro e v5 ⟨rfl, hk5⟩
          clear y0 y1 ylt z0 z1 z2 z3 zlt v0 v1 v2 v3 vlt
          have hk_86 : Keep (fun _ => False) w_72 v5 := hk5
          have B_87 := Lib.hid (B_77.out.keep hk_86 (fun h => h))
          have B_88 := Lib.hid (B_78.out.keep hk_86 (fun h => h))
          have B_89 := Lib.hid (B_79.out.keep hk_86 (fun h => h))
          have B_90 := Lib.hid (B_80.out.keep hk_86 (fun h => h))
          have B_91 := Lib.hid (B_75.out.keep hk_86 (fun h => h))
          have F_92 := Lib.hid (fun W h => F_81.out W (keep0_trans _ _ _ hk_86 h))
          have F_93 := Lib.hid (fun W h => F_82.out W (keep0_trans _ _ _ hk_86 h))
          have F_94 := Lib.hid (fun W h => F_83.out W (keep0_trans _ _ _ hk_86 h))
          have K_95 := Lib.hid (keep0_trans _ _ _ K_84.out hk_86)
          have An_96 := Lib.hid (keep0_trans _ _ _ An_85.out hk_86)
          clear hk_86 B_77 B_78 B_79 B_80 B_75 F_81 F_82 F_83 K_84 An_85
          clear hk5
          go_wp2_with fail
          refine (floor_is _ S.2 b _ fv (F_94.out _ (Keep.refl _ _)).2 LS.out.2 HFL.out).mono ?_
          rintro e v6 ⟨rfl, hk6⟩
          have hk_97 : Keep (fun _ => False) v5 v6 := hk6
          have B_98 := Lib.hid (B_87.out.keep hk_97 (fun h => h))
          have B_99 := Lib.hid (B_88.out.keep hk_97 (fun h => h))
          have B_100 := Lib.hid (B_89.out.keep hk_97 (fun h => h))
          have B_101 := Lib.hid (B_90.out.keep hk_97 (fun h => h))
          have B_102 := Lib.hid (B_91.out.keep hk_97 (fun h => h))
          have F_103 := Lib.hid (fun W h => F_92.out W (keep0_trans _ _ _ hk_97 h))
          have F_104 := Lib.hid (fun W h => F_93.out W (keep0_trans _ _ _ hk_97 h))
          have F_105 := Lib.hid (fun W h => F_94.out W (keep0_trans _ _ _ hk_97 h))
          have K_106 := Lib.hid (keep0_trans _ _ _ K_95.out hk_97)
          have An_107 := Lib.hid (keep0_trans _ _ _ An_96.out hk_97)
          clear hk_97 B_87 B_88 B_89 B_90 B_91 F_92 F_93 F_94 K_95 An_96
          clear hk6
          go_wp2
          go_roundw
          case rel => exact ⟨k + 1, by omega, by have := HB1.out; exact congrArg (Value.int .i64) (by omega), Lib.hid (An_107.out)⟩
          case measure => have := HB1.out; simp [intOf]; omega
      · obtain rfl : k = 16 := by omega
        have hk_108 : Keep (fun _ => False) v2 wr := HKR.out
        have B_109 := Lib.hid (B_24.out.keep hk_108 (fun h => h))
        have B_110 := Lib.hid (B_25.out.keep hk_108 (fun h => h))
        have B_111 := Lib.hid (B_26.out.keep hk_108 (fun h => h))
        have F_112 := Lib.hid (fun W h => F_27.out W (keep0_trans _ _ _ hk_108 h))
        have F_113 := Lib.hid (fun W h => F_28.out W (keep0_trans _ _ _ hk_108 h))
        have F_114 := Lib.hid (fun W h => FS.out W (keep0_trans _ _ _ hk_108 h))
        have K_115 := Lib.hid (keep0_trans _ _ _ K_29.out hk_108)
        clear hk_108 B_24 B_25 B_26 F_27 F_28 FS K_29
        clear HKR
        have c0 := B_109.out.cell 0
        have c1 := B_109.out.cell 1
        simp at c0 c1
        have clt := B_109.out.lt
        go_wp2_with fail
        have hsp := next_spec a.1
        have hos := old_spec a.1
        obtain ⟨nx, hnx⟩ : ∃ nx, nextT a.1 = nx := ⟨_, rfl⟩
        rw [hnx] at hsp
        have HNX := Lib.hid hnx
        have HSP := Lib.hid hsp
        have HOS := Lib.hid hos
        clear hnx hsp hos
        refine (old_is _ a.1 _ _ (isM_of (F_112.out _ (Keep.refl _ _))) LA.out.1 rfl).mono ?_
        rintro e v7 ⟨rfl, hk7⟩
        clear c0 c1 clt
        generalize oldT a.1 = o at *
        obtain ⟨oa, oi, os, om⟩ := o
        have hk_116 : Keep (fun _ => False) wr v7 := hk7
        have B_117 := Lib.hid (B_109.out.keep hk_116 (fun h => h))
        have B_118 := Lib.hid (B_110.out.keep hk_116 (fun h => h))
        have B_119 := Lib.hid (B_111.out.keep hk_116 (fun h => h))
        have F_120 := Lib.hid (fun W h => F_112.out W (keep0_trans _ _ _ hk_116 h))
        have F_121 := Lib.hid (fun W h => F_113.out W (keep0_trans _ _ _ hk_116 h))
        have F_122 := Lib.hid (fun W h => F_114.out W (keep0_trans _ _ _ hk_116 h))
        have K_123 := Lib.hid (keep0_trans _ _ _ K_115.out hk_116)
        clear hk_116 B_109 B_110 B_111 F_112 F_113 F_114 K_115
        clear hk7
        simp only
        generalize hob : decide (0 < om) = ob at *
        have HOB := Lib.hid hob
        clear hob
        go_upto_region 14 with (fail)
        have hb_124 := Blk.new v7 32 #[.int .i64 oa, .int .i64 oi, .int .u8 os, .int .i64 om]
        have hq_126 : Keep (fun _ => False) v7 (v7.alloc (.cells #[.int .i64 oa, .int .i64 oi, .int .u8 os, .int .i64 om] 32)) := (Keep.refl _ _).alloc _
        generalize hw : v7.alloc (.cells #[.int .i64 oa, .int .i64 oi, .int .u8 os, .int .i64 om] 32) = w_125 at *
        clear hw
        have B_128 := Lib.hid hb_124
        clear hb_124
        have hk_129 : Keep (fun _ => False) v7 w_125 := hq_126
        have B_130 := Lib.hid (B_117.out.keep hk_129 (fun h => h))
        have B_131 := Lib.hid (B_118.out.keep hk_129 (fun h => h))
        have B_132 := Lib.hid (B_119.out.keep hk_129 (fun h => h))
        have F_133 := Lib.hid (fun W h => F_120.out W (keep0_trans _ _ _ hk_129 h))
        have F_134 := Lib.hid (fun W h => F_121.out W (keep0_trans _ _ _ hk_129 h))
        have F_135 := Lib.hid (fun W h => F_122.out W (keep0_trans _ _ _ hk_129 h))
        have K_136 := Lib.hid (keep0_trans _ _ _ K_123.out hk_129)
        clear hk_129 B_117 B_118 B_119 F_120 F_121 F_122 K_123
        clear hq_126
        go_wp2_with fail
        go_loopw [15] (fun i wr => ∃ k : Nat, k ≤ na ∧ i = .int .i64 (k : Int) ∧ Hid (Keep (fun _ => False) w_125 wr)) (fun i _ => (na - (intOf i).toNat))
        case atStart => exact ⟨0, by omega, rfl, Lib.hid (Keep.refl _ _)⟩
        case round =>
          obtain ⟨k, hk, rfl, HKR⟩ := hrel
          have hna : na ≤ 100 := by have h1 := len_100 HS100.out; have h2 := (rdM_of (F_133.out _ (Keep.refl _ _))).1; omega
          have hln := Lib.hid (rdM_of (F_133.out _ (Keep.refl _ _))).1
          by_cases hlt : k < na
          · have AnR := HKR
            have hk_137 : Keep (fun _ => False) w_125 wr := HKR.out
            have B_138 := Lib.hid (B_130.out.keep hk_137 (fun h => h))
            have B_139 := Lib.hid (B_131.out.keep hk_137 (fun h => h))
            have B_140 := Lib.hid (B_132.out.keep hk_137 (fun h => h))
            have B_141 := Lib.hid (B_128.out.keep hk_137 (fun h => h))
            have F_142 := Lib.hid (fun W h => F_133.out W (keep0_trans _ _ _ hk_137 h))
            have F_143 := Lib.hid (fun W h => F_134.out W (keep0_trans _ _ _ hk_137 h))
            have F_144 := Lib.hid (fun W h => F_135.out W (keep0_trans _ _ _ hk_137 h))
            have K_145 := Lib.hid (keep0_trans _ _ _ K_136.out hk_137)
            clear hk_137 B_130 B_131 B_132 B_128 F_133 F_134 F_135 K_136
            have hkl : k < a.1.length := by rw [hln.out]; exact hlt
            obtain ⟨g, off, hAa, -⟩ := (rdM_of (F_142.out _ (Keep.refl _ _))).at_ hlt
            have HE : Hid (∀ W, Keep (fun _ => False) wr W → W.cell? ⟨g, off + k * 4 + 3, none⟩ = some (.int .i64 (a.1.getD k zeroMem).no)) := Lib.hid fun W h => by
              obtain ⟨g', off', e, -, -, -, h3⟩ := (rdM_of (F_142.out W h)).at_ hlt
              rw [hAa] at e; injection e with e; injection e with e1 e2; subst e1 e2; exact h3
            have h1 := HSP.out.1 _ (mem_getD (d := zeroMem) hkl)
            have h2 := HOS.out _ (mem_getD (d := zeroMem) hkl)
            subst hAa
            generalize (a.1.getD k zeroMem).no = em at *
            have hkI : (k : Int) < (na : Int) := by omega
            have hkJ : (0 : Int) ≤ (k : Int) := by omega
            have H1 := Lib.hid h1
            have H2 := Lib.hid h2
            clear h1 h2 hkl
            by_cases q2 : 0 < em
            · by_cases q1 : em < 1099511627776
              · have hd1 : decide (em < 1099511627776) = true := decide_eq_true (by omega)
                have hd3 : decide (0 < em) = true := decide_eq_true (by omega)
                have hn2 := H1.out (by omega)
                have hd2 : decide (nx ≤ em) = false := decide_eq_false (by omega)
                have hn3 : 0 < om ∧ om ≤ em := H2.out (by omega)
                have hd4 : decide (em < om) = false := decide_eq_false (by omega)
                have hd5 : decide (om < 1) = false := decide_eq_false (by omega)
                obtain rfl : ob = true := by rw [← HOB.out]; exact decide_eq_true (by omega)
                have c0 := B_138.out.cell 0
                have c1 := B_138.out.cell 1
                simp at c0 c1
                have clt := B_138.out.lt
                go_wp2_with fail
                refine wp_region_krip (Keep (fun _ => False)) (Keep.refl _) keep0_trans 48 (by kernel_rfl) (by kernel_rfl) (Ts := [none, some (.inl (.slice (some ⟨g, off, none⟩) na ca)), none, none, none, some (.inl (.int .i64 em)), none, none, none, some (.inl (.slice (some ⟨g, off, none⟩) na ca)), some (.inl (.int .i64 nx)), none, some (.inl (.slice (some ⟨g, off, none⟩) na ca)), none, none, none, some (.inl (.int .i64 em)), none, none, none, none, some (.inl (.slice (some ⟨g, off, none⟩) na ca)), none, none, none, some (.inl (.int .i64 em)), none, none, none, none, none, none, some (.inl (.int .i64 om)), none, some (.inl (.slice (some ⟨g, off, none⟩) na ca)), none, none, none, some (.inl (.int .i64 em)), none, none, none, none, some (.inl (.int .i64 om)), none, none, none, none]) ?_
                simp only [List.take, List.drop]
                refine kAll_p (fun K hK => ?_)
                go_simp
                generalize hZ : (Act.mk _ _) = Z
                refine hK Z ?_
                subst hZ
                clear hK K
                refine kAll_dn _ (fun W hW hF => kStep_of fun K Q hK => ?_) (fun K hK => ?_)
                · have e0 := (B_138.out.drew.keep hW (fun h => h)).cell 0
                  simp at e0
                  go_simp
                  exact hK _ _ (Keep.refl _ _) rfl
                go_simp
                generalize hZ : (Act.mk _ _) = Z
                refine hK Z ?_
                subst hZ
                clear hK K
                refine kAll_p (fun K hK => ?_)
                go_simp
                generalize hZ : (Act.mk _ _) = Z
                refine hK Z ?_
                subst hZ
                clear hK K
                refine kAll_p (fun K hK => ?_)
                go_simp
                generalize hZ : (Act.mk _ _) = Z
                refine hK Z ?_
                subst hZ
                clear hK K
                refine kAll_p (fun K hK => ?_)
                go_simp
                generalize hZ : (Act.mk _ _) = Z
                refine hK Z ?_
                subst hZ
                clear hK K
                refine kAll_dn _ (fun W hW hF => kStep_of fun K Q hK => ?_) (fun K hK => ?_)
                · have hp := HE.out W (keepD (Keep.refl _ _) hW)
                  go_simp
                  exact hK _ _ (Keep.refl _ _) rfl
                go_simp
                generalize hZ : (Act.mk _ _) = Z
                refine hK Z ?_
                subst hZ
                clear hK K
                refine kAll_p (fun K hK => ?_)
                go_simp
                generalize hZ : (Act.mk _ _) = Z
                refine hK Z ?_
                subst hZ
                clear hK K
                refine kAll_p (fun K hK => ?_)
                go_simp
                generalize hZ : (Act.mk _ _) = Z
                refine hK Z ?_
                subst hZ
                clear hK K
                refine kAll_pw (by kernel_rfl) (fun K hK => ?_)
                go_simp
                generalize hZ : (Act.mk _ _) = Z
                refine hK Z ?_
                subst hZ
                clear hK K
                refine kAll_dn _ (fun W hW hF => kStep_w (by kernel_rfl) fun K Q hK => ?_) (fun K hK => ?_)
                · have e0 := (B_138.out.drew.keep hW (fun h => h)).cell 0
                  simp at e0
                  go_simp
                  exact hK _ _ (Keep.refl _ _) rfl
                go_simp
                generalize hZ : (Act.mk _ _) = Z
                refine hK Z ?_
                subst hZ
                clear hK K
                refine kAll_dn _ (fun W hW hF => kStep_w (by kernel_rfl) fun K Q hK => ?_) (fun K hK => ?_)
                · have h0 := F_142.out W (keepD (Keep.refl _ _) hW)
                  go_simp
                  refine (next_is _ a.1 nx W (isM_of h0) (len_100 HS100.out).1 HNX.out).mono ?_
                  rintro e w' ⟨rfl, hk⟩
                  exact hK _ _ hk rfl
                go_simp
                generalize hZ : (Act.mk _ _) = Z
                refine hK Z ?_
                subst hZ
                clear hK K
                refine kAll_pw (by kernel_rfl) (fun K hK => ?_)
                go_simp
                generalize hZ : (Act.mk _ _) = Z
                refine hK Z ?_
                subst hZ
                clear hK K
                refine kAll_dn _ (fun W hW hF => kStep_w (by kernel_rfl) fun K Q hK => ?_) (fun K hK => ?_)
                · have e0 := (B_138.out.drew.keep hW (fun h => h)).cell 0
                  simp at e0
                  go_simp
                  exact hK _ _ (Keep.refl _ _) rfl
                go_simp
                generalize hZ : (Act.mk _ _) = Z
                refine hK Z ?_
                subst hZ
                clear hK K
                refine kAll_pw (by kernel_rfl) (fun K hK => ?_)
                go_simp
                generalize hZ : (Act.mk _ _) = Z
                refine hK Z ?_
                subst hZ
                clear hK K
                refine kAll_pw (by kernel_rfl) (fun K hK => ?_)
                go_simp
                generalize hZ : (Act.mk _ _) = Z
                refine hK Z ?_
                subst hZ
                clear hK K
                refine kAll_pw (by kernel_rfl) (fun K hK => ?_)
                go_simp
                generalize hZ : (Act.mk _ _) = Z
                refine hK Z ?_
                subst hZ
                clear hK K
                refine kAll_dn _ (fun W hW hF => kStep_w (by kernel_rfl) fun K Q hK => ?_) (fun K hK => ?_)
                · have hp := HE.out W (keepD (Keep.refl _ _) hW)
                  go_simp
                  exact hK _ _ (Keep.refl _ _) rfl
                go_simp
                generalize hZ : (Act.mk _ _) = Z
                refine hK Z ?_
                subst hZ
                clear hK K
                refine kAll_pw (by kernel_rfl) (fun K hK => ?_)
                go_simp
                generalize hZ : (Act.mk _ _) = Z
                refine hK Z ?_
                subst hZ
                clear hK K
                refine kAll_p (fun K hK => ?_)
                go_simp
                generalize hZ : (Act.mk _ _) = Z
                refine hK Z ?_
                subst hZ
                clear hK K
                refine kAll_p (fun K hK => ?_)
                go_simp
                generalize hZ : (Act.mk _ _) = Z
                refine hK Z ?_
                subst hZ
                clear hK K
                refine kAll_pw (by kernel_rfl) (fun K hK => ?_)
                go_simp
                generalize hZ : (Act.mk _ _) = Z
                refine hK Z ?_
                subst hZ
                clear hK K
                refine kAll_dn _ (fun W hW hF => kStep_w (by kernel_rfl) fun K Q hK => ?_) (fun K hK => ?_)
                · have e0 := (B_138.out.drew.keep hW (fun h => h)).cell 0
                  simp at e0
                  go_simp
                  exact hK _ _ (Keep.refl _ _) rfl
                go_simp
                generalize hZ : (Act.mk _ _) = Z
                refine hK Z ?_
                subst hZ
                clear hK K
                refine kAll_pw (by kernel_rfl) (fun K hK => ?_)
                go_simp
                generalize hZ : (Act.mk _ _) = Z
                refine hK Z ?_
                subst hZ
                clear hK K
                refine kAll_pw (by kernel_rfl) (fun K hK => ?_)
                go_simp
                generalize hZ : (Act.mk _ _) = Z
                refine hK Z ?_
                subst hZ
                clear hK K
                refine kAll_pw (by kernel_rfl) (fun K hK => ?_)
                go_simp
                generalize hZ : (Act.mk _ _) = Z
                refine hK Z ?_
                subst hZ
                clear hK K
                refine kAll_dn _ (fun W hW hF => kStep_w (by kernel_rfl) fun K Q hK => ?_) (fun K hK => ?_)
                · have hp := HE.out W (keepD (Keep.refl _ _) hW)
                  go_simp
                  exact hK _ _ (Keep.refl _ _) rfl
                go_simp
                generalize hZ : (Act.mk _ _) = Z
                refine hK Z ?_
                subst hZ
                clear hK K
                refine kAll_pw (by kernel_rfl) (fun K hK => ?_)
                go_simp
                generalize hZ : (Act.mk _ _) = Z
                refine hK Z ?_
                subst hZ
                clear hK K
                refine kAll_pw (by kernel_rfl) (fun K hK => ?_)
                go_simp
                generalize hZ : (Act.mk _ _) = Z
                refine hK Z ?_
                subst hZ
                clear hK K
                refine kAll_pw (by kernel_rfl) (fun K hK => ?_)
                go_simp
                generalize hZ : (Act.mk _ _) = Z
                refine hK Z ?_
                subst hZ
                clear hK K
                refine kAll_pw (by kernel_rfl) (fun K hK => ?_)
                go_simp
                generalize hZ : (Act.mk _ _) = Z
                refine hK Z ?_
                subst hZ
                clear hK K
                refine kAll_pw (by kernel_rfl) (fun K hK => ?_)
                go_simp
                generalize hZ : (Act.mk _ _) = Z
                refine hK Z ?_
                subst hZ
                clear hK K
                refine kAll_pw (by kernel_rfl) (fun K hK => ?_)
                go_simp
                generalize hZ : (Act.mk _ _) = Z
                refine hK Z ?_
                subst hZ
                clear hK K
                refine kAll_dn _ (fun W hW hF => kStep_w (by kernel_rfl) fun K Q hK => ?_) (fun K hK => ?_)
                · have e3 := (B_141.out.drew.keep hW (fun h => h)).cell 3
                  simp at e3
                  go_simp
                  exact hK _ _ (Keep.refl _ _) rfl
                go_simp
                generalize hZ : (Act.mk _ _) = Z
                refine hK Z ?_
                subst hZ
                clear hK K
                refine kAll_pw (by kernel_rfl) (fun K hK => ?_)
                go_simp
                generalize hZ : (Act.mk _ _) = Z
                refine hK Z ?_
                subst hZ
                clear hK K
                refine kAll_dn _ (fun W hW hF => kStep_w (by kernel_rfl) fun K Q hK => ?_) (fun K hK => ?_)
                · have e0 := (B_138.out.drew.keep hW (fun h => h)).cell 0
                  simp at e0
                  go_simp
                  exact hK _ _ (Keep.refl _ _) rfl
                go_simp
                generalize hZ : (Act.mk _ _) = Z
                refine hK Z ?_
                subst hZ
                clear hK K
                refine kAll_pw (by kernel_rfl) (fun K hK => ?_)
                go_simp
                generalize hZ : (Act.mk _ _) = Z
                refine hK Z ?_
                subst hZ
                clear hK K
                refine kAll_pw (by kernel_rfl) (fun K hK => ?_)
                go_simp
                generalize hZ : (Act.mk _ _) = Z
                refine hK Z ?_
                subst hZ
                clear hK K
                refine kAll_pw (by kernel_rfl) (fun K hK => ?_)
                go_simp
                generalize hZ : (Act.mk _ _) = Z
                refine hK Z ?_
                subst hZ
                clear hK K
                refine kAll_dn _ (fun W hW hF => kStep_w (by kernel_rfl) fun K Q hK => ?_) (fun K hK => ?_)
                · have hp := HE.out W (keepD (Keep.refl _ _) hW)
                  go_simp
                  exact hK _ _ (Keep.refl _ _) rfl
                go_simp
                generalize hZ : (Act.mk _ _) = Z
                refine hK Z ?_
                subst hZ
                clear hK K
                refine kAll_pw (by kernel_rfl) (fun K hK => ?_)
                go_simp
                generalize hZ : (Act.mk _ _) = Z
                refine hK Z ?_
                subst hZ
                clear hK K
                refine kAll_pw (by kernel_rfl) (fun K hK => ?_)
                go_simp
                generalize hZ : (Act.mk _ _) = Z
                refine hK Z ?_
                subst hZ
                clear hK K
                refine kAll_pw (by kernel_rfl) (fun K hK => ?_)
                go_simp
                generalize hZ : (Act.mk _ _) = Z
                refine hK Z ?_
                subst hZ
                clear hK K
                refine kAll_pw (by kernel_rfl) (fun K hK => ?_)
                go_simp
                generalize hZ : (Act.mk _ _) = Z
                refine hK Z ?_
                subst hZ
                clear hK K
                refine kAll_dn _ (fun W hW hF => kStep_w (by kernel_rfl) fun K Q hK => ?_) (fun K hK => ?_)
                · have e3 := (B_141.out.drew.keep hW (fun h => h)).cell 3
                  simp at e3
                  go_simp
                  exact hK _ _ (Keep.refl _ _) rfl
                go_simp
                generalize hZ : (Act.mk _ _) = Z
                refine hK Z ?_
                subst hZ
                clear hK K
                refine kAll_pw (by kernel_rfl) (fun K hK => ?_)
                go_simp
                generalize hZ : (Act.mk _ _) = Z
                refine hK Z ?_
                subst hZ
                clear hK K
                refine kAll_pw (by kernel_rfl) (fun K hK => ?_)
                go_simp
                generalize hZ : (Act.mk _ _) = Z
                refine hK Z ?_
                subst hZ
                clear hK K
                refine kAll_pw (by kernel_rfl) (fun K hK => ?_)
                go_simp
                generalize hZ : (Act.mk _ _) = Z
                refine hK Z ?_
                subst hZ
                clear hK K
                refine kAll_p (fun K hK => ?_)
                go_simp
                generalize hZ : (Act.mk _ _) = Z
                refine hK Z ?_
                subst hZ
                clear hK K
                refine kAll_nil (fun W146 hW hF => ?_)
                clear hF
                have hk_147 : Keep (fun _ => False) wr W146 := keepD (Keep.refl _ _) hW
                have B_148 := Lib.hid (B_138.out.keep hk_147 (fun h => h))
                have B_149 := Lib.hid (B_139.out.keep hk_147 (fun h => h))
                have B_150 := Lib.hid (B_140.out.keep hk_147 (fun h => h))
                have B_151 := Lib.hid (B_141.out.keep hk_147 (fun h => h))
                have F_152 := Lib.hid (fun W h => F_142.out W (keep0_trans _ _ _ hk_147 h))
                have F_153 := Lib.hid (fun W h => F_143.out W (keep0_trans _ _ _ hk_147 h))
                have F_154 := Lib.hid (fun W h => F_144.out W (keep0_trans _ _ _ hk_147 h))
                have K_155 := Lib.hid (keep0_trans _ _ _ K_145.out hk_147)
                have An_156 := Lib.hid (keep0_trans _ _ _ AnR.out hk_147)
                clear hk_147 B_138 B_139 B_140 B_141 F_142 F_143 F_144 K_145 AnR
                clear hW
                go_wp2
                go_roundw
                case rel => exact ⟨k + 1, by omega, by go_num, An_156⟩
                case measure => simp [intOf]; omega
              · have hd1 : decide (em < 1099511627776) = false := decide_eq_false (by omega)
                have hd3 : decide (0 < em) = true := decide_eq_true (by omega)
                have hn3 : 0 < om ∧ om ≤ em := H2.out (by omega)
                have hd4 : decide (em < om) = false := decide_eq_false (by omega)
                have hd5 : decide (om < 1) = false := decide_eq_false (by omega)
                obtain rfl : ob = true := by rw [← HOB.out]; exact decide_eq_true (by omega)
                have c0 := B_138.out.cell 0
                have c1 := B_138.out.cell 1
                simp at c0 c1
                have clt := B_138.out.lt
                go_wp2_with fail
                refine wp_region_krip (Keep (fun _ => False)) (Keep.refl _) keep0_trans 48 (by kernel_rfl) (by kernel_rfl) (Ts := [none, some (.inl (.slice (some ⟨g, off, none⟩) na ca)), none, none, none, some (.inl (.int .i64 em)), none, none, none, none, none, none, none, none, none, none, none, none, none, none, none, some (.inl (.slice (some ⟨g, off, none⟩) na ca)), none, none, none, some (.inl (.int .i64 em)), none, none, none, none, none, none, some (.inl (.int .i64 om)), none, some (.inl (.slice (some ⟨g, off, none⟩) na ca)), none, none, none, some (.inl (.int .i64 em)), none, none, none, none, some (.inl (.int .i64 om)), none, none, none, none]) ?_
                simp only [List.take, List.drop]
                refine kAll_p (fun K hK => ?_)
                go_simp
                generalize hZ : (Act.mk _ _) = Z
                refine hK Z ?_
                subst hZ
                clear hK K
                refine kAll_dn _ (fun W hW hF => kStep_of fun K Q hK => ?_) (fun K hK => ?_)
                · have e0 := (B_138.out.drew.keep hW (fun h => h)).cell 0
                  simp at e0
                  go_simp
                  exact hK _ _ (Keep.refl _ _) rfl
                go_simp
                generalize hZ : (Act.mk _ _) = Z
                refine hK Z ?_
                subst hZ
                clear hK K
                refine kAll_p (fun K hK => ?_)
                go_simp
                generalize hZ : (Act.mk _ _) = Z
                refine hK Z ?_
                subst hZ
                clear hK K
                refine kAll_p (fun K hK => ?_)
                go_simp
                generalize hZ : (Act.mk _ _) = Z
                refine hK Z ?_
                subst hZ
                clear hK K
                refine kAll_p (fun K hK => ?_)
                go_simp
                generalize hZ : (Act.mk _ _) = Z
                refine hK Z ?_
                subst hZ
                clear hK K
                refine kAll_dn _ (fun W hW hF => kStep_of fun K Q hK => ?_) (fun K hK => ?_)
                · have hp := HE.out W (keepD (Keep.refl _ _) hW)
                  go_simp
                  exact hK _ _ (Keep.refl _ _) rfl
                go_simp
                generalize hZ : (Act.mk _ _) = Z
                refine hK Z ?_
                subst hZ
                clear hK K
                refine kAll_p (fun K hK => ?_)
                go_simp
                generalize hZ : (Act.mk _ _) = Z
                refine hK Z ?_
                subst hZ
                clear hK K
                refine kAll_p (fun K hK => ?_)
                go_simp
                generalize hZ : (Act.mk _ _) = Z
                refine hK Z ?_
                subst hZ
                clear hK K
                refine kAll_skip (by kernel_rfl) ?_
                refine kAll_skip (by kernel_rfl) ?_
                refine kAll_skip (by kernel_rfl) ?_
                refine kAll_skip (by kernel_rfl) ?_
                refine kAll_skip (by kernel_rfl) ?_
                refine kAll_skip (by kernel_rfl) ?_
                refine kAll_skip (by kernel_rfl) ?_
                refine kAll_skip (by kernel_rfl) ?_
                refine kAll_skip (by kernel_rfl) ?_
                refine kAll_skip (by kernel_rfl) ?_
                refine kAll_p (fun K hK => ?_)
                go_simp
                generalize hZ : (Act.mk _ _) = Z
                refine hK Z ?_
                subst hZ
                clear hK K
                refine kAll_p (fun K hK => ?_)
                go_simp
                generalize hZ : (Act.mk _ _) = Z
                refine hK Z ?_
                subst hZ
                clear hK K
                refine kAll_pw (by kernel_rfl) (fun K hK => ?_)
                go_simp
                generalize hZ : (Act.mk _ _) = Z
                refine hK Z ?_
                subst hZ
                clear hK K
                refine kAll_dn _ (fun W hW hF => kStep_w (by kernel_rfl) fun K Q hK => ?_) (fun K hK => ?_)
                · have e0 := (B_138.out.drew.keep hW (fun h => h)).cell 0
                  simp at e0
                  go_simp
                  exact hK _ _ (Keep.refl _ _) rfl
                go_simp
                generalize hZ : (Act.mk _ _) = Z
                refine hK Z ?_
                subst hZ
                clear hK K
                refine kAll_pw (by kernel_rfl) (fun K hK => ?_)
                go_simp
                generalize hZ : (Act.mk _ _) = Z
                refine hK Z ?_
                subst hZ
                clear hK K
                refine kAll_pw (by kernel_rfl) (fun K hK => ?_)
                go_simp
                generalize hZ : (Act.mk _ _) = Z
                refine hK Z ?_
                subst hZ
                clear hK K
                refine kAll_pw (by kernel_rfl) (fun K hK => ?_)
                go_simp
                generalize hZ : (Act.mk _ _) = Z
                refine hK Z ?_
                subst hZ
                clear hK K
                refine kAll_dn _ (fun W hW hF => kStep_w (by kernel_rfl) fun K Q hK => ?_) (fun K hK => ?_)
                · have hp := HE.out W (keepD (Keep.refl _ _) hW)
                  go_simp
                  exact hK _ _ (Keep.refl _ _) rfl
                go_simp
                generalize hZ : (Act.mk _ _) = Z
                refine hK Z ?_
                subst hZ
                clear hK K
                refine kAll_pw (by kernel_rfl) (fun K hK => ?_)
                go_simp
                generalize hZ : (Act.mk _ _) = Z
                refine hK Z ?_
                subst hZ
                clear hK K
                refine kAll_pw (by kernel_rfl) (fun K hK => ?_)
                go_simp
                generalize hZ : (Act.mk _ _) = Z
                refine hK Z ?_
                subst hZ
                clear hK K
                refine kAll_pw (by kernel_rfl) (fun K hK => ?_)
                go_simp
                generalize hZ : (Act.mk _ _) = Z
                refine hK Z ?_
                subst hZ
                clear hK K
                refine kAll_pw (by kernel_rfl) (fun K hK => ?_)
                go_simp
                generalize hZ : (Act.mk _ _) = Z
                refine hK Z ?_
                subst hZ
                clear hK K
                refine kAll_pw (by kernel_rfl) (fun K hK => ?_)
                go_simp
                generalize hZ : (Act.mk _ _) = Z
                refine hK Z ?_
                subst hZ
                clear hK K
                refine kAll_pw (by kernel_rfl) (fun K hK => ?_)
                go_simp
                generalize hZ : (Act.mk _ _) = Z
                refine hK Z ?_
                subst hZ
                clear hK K
                refine kAll_dn _ (fun W hW hF => kStep_w (by kernel_rfl) fun K Q hK => ?_) (fun K hK => ?_)
                · have e3 := (B_141.out.drew.keep hW (fun h => h)).cell 3
                  simp at e3
                  go_simp
                  exact hK _ _ (Keep.refl _ _) rfl
                go_simp
                generalize hZ : (Act.mk _ _) = Z
                refine hK Z ?_
                subst hZ
                clear hK K
                refine kAll_pw (by kernel_rfl) (fun K hK => ?_)
                go_simp
                generalize hZ : (Act.mk _ _) = Z
                refine hK Z ?_
                subst hZ
                clear hK K
                refine kAll_dn _ (fun W hW hF => kStep_w (by kernel_rfl) fun K Q hK => ?_) (fun K hK => ?_)
                · have e0 := (B_138.out.drew.keep hW (fun h => h)).cell 0
                  simp at e0
                  go_simp
                  exact hK _ _ (Keep.refl _ _) rfl
                go_simp
                generalize hZ : (Act.mk _ _) = Z
                refine hK Z ?_
                subst hZ
                clear hK K
                refine kAll_pw (by kernel_rfl) (fun K hK => ?_)
                go_simp
                generalize hZ : (Act.mk _ _) = Z
                refine hK Z ?_
                subst hZ
                clear hK K
                refine kAll_pw (by kernel_rfl) (fun K hK => ?_)
                go_simp
                generalize hZ : (Act.mk _ _) = Z
                refine hK Z ?_
                subst hZ
                clear hK K
                refine kAll_pw (by kernel_rfl) (fun K hK => ?_)
                go_simp
                generalize hZ : (Act.mk _ _) = Z
                refine hK Z ?_
                subst hZ
                clear hK K
                refine kAll_dn _ (fun W hW hF => kStep_w (by kernel_rfl) fun K Q hK => ?_) (fun K hK => ?_)
                · have hp := HE.out W (keepD (Keep.refl _ _) hW)
                  go_simp
                  exact hK _ _ (Keep.refl _ _) rfl
                go_simp
                generalize hZ : (Act.mk _ _) = Z
                refine hK Z ?_
                subst hZ
                clear hK K
                refine kAll_pw (by kernel_rfl) (fun K hK => ?_)
                go_simp
                generalize hZ : (Act.mk _ _) = Z
                refine hK Z ?_
                subst hZ
                clear hK K
                refine kAll_pw (by kernel_rfl) (fun K hK => ?_)
                go_simp
                generalize hZ : (Act.mk _ _) = Z
                refine hK Z ?_
                subst hZ
                clear hK K
                refine kAll_pw (by kernel_rfl) (fun K hK => ?_)
                go_simp
                generalize hZ : (Act.mk _ _) = Z
                refine hK Z ?_
                subst hZ
                clear hK K
                refine kAll_pw (by kernel_rfl) (fun K hK => ?_)
                go_simp
                generalize hZ : (Act.mk _ _) = Z
                refine hK Z ?_
                subst hZ
                clear hK K
                refine kAll_dn _ (fun W hW hF => kStep_w (by kernel_rfl) fun K Q hK => ?_) (fun K hK => ?_)
                · have e3 := (B_141.out.drew.keep hW (fun h => h)).cell 3
                  simp at e3
                  go_simp
                  exact hK _ _ (Keep.refl _ _) rfl
                go_simp
                generalize hZ : (Act.mk _ _) = Z
                refine hK Z ?_
                subst hZ
                clear hK K
                refine kAll_pw (by kernel_rfl) (fun K hK => ?_)
                go_simp
                generalize hZ : (Act.mk _ _) = Z
                refine hK Z ?_
                subst hZ
                clear hK K
                refine kAll_pw (by kernel_rfl) (fun K hK => ?_)
                go_simp
                generalize hZ : (Act.mk _ _) = Z
                refine hK Z ?_
                subst hZ
                clear hK K
                refine kAll_pw (by kernel_rfl) (fun K hK => ?_)
                go_simp
                generalize hZ : (Act.mk _ _) = Z
                refine hK Z ?_
                subst hZ
                clear hK K
                refine kAll_p (fun K hK => ?_)
                go_simp
                generalize hZ : (Act.mk _ _) = Z
                refine hK Z ?_
                subst hZ
                clear hK K
                refine kAll_nil (fun W157 hW hF => ?_)
                clear hF
                have hk_158 : Keep (fun _ => False) wr W157 := keepD (Keep.refl _ _) hW
                have B_159 := Lib.hid (B_138.out.keep hk_158 (fun h => h))
                have B_160 := Lib.hid (B_139.out.keep hk_158 (fun h => h))
                have B_161 := Lib.hid (B_140.out.keep hk_158 (fun h => h))
                have B_162 := Lib.hid (B_141.out.keep hk_158 (fun h => h))
                have F_163 := Lib.hid (fun W h => F_142.out W (keep0_trans _ _ _ hk_158 h))
                have F_164 := Lib.hid (fun W h => F_143.out W (keep0_trans _ _ _ hk_158 h))
                have F_165 := Lib.hid (fun W h => F_144.out W (keep0_trans _ _ _ hk_158 h))
                have K_166 := Lib.hid (keep0_trans _ _ _ K_145.out hk_158)
                have An_167 := Lib.hid (keep0_trans _ _ _ AnR.out hk_158)
                clear hk_158 B_138 B_139 B_140 B_141 F_142 F_143 F_144 K_145 AnR
                clear hW
                go_wp2
                go_roundw
                case rel => exact ⟨k + 1, by omega, by go_num, An_167⟩
                case measure => simp [intOf]; omega
            · have hd1 : decide (em < 1099511627776) = true := decide_eq_true (by omega)
              have hd3 : decide (0 < em) = false := decide_eq_false (by omega)
              have hn2 := H1.out (by omega)
              have hd2 : decide (nx ≤ em) = false := decide_eq_false (by omega)
              have c0 := B_138.out.cell 0
              have c1 := B_138.out.cell 1
              simp at c0 c1
              have clt := B_138.out.lt
              go_wp2_with fail
              refine wp_region_krip (Keep (fun _ => False)) (Keep.refl _) keep0_trans 48 (by kernel_rfl) (by kernel_rfl) (Ts := [none, some (.inl (.slice (some ⟨g, off, none⟩) na ca)), none, none, none, some (.inl (.int .i64 em)), none, none, none, some (.inl (.slice (some ⟨g, off, none⟩) na ca)), some (.inl (.int .i64 nx)), none, some (.inl (.slice (some ⟨g, off, none⟩) na ca)), none, none, none, some (.inl (.int .i64 em)), none, none, none, none, some (.inl (.slice (some ⟨g, off, none⟩) na ca)), none, none, none, some (.inl (.int .i64 em)), none, none, none, none, none, none, none, none, none, none, none, none, none, none, none, none, none, none, none, none, none, none]) ?_
              simp only [List.take, List.drop]
              refine kAll_p (fun K hK => ?_)
              go_simp
              generalize hZ : (Act.mk _ _) = Z
              refine hK Z ?_
              subst hZ
              clear hK K
              refine kAll_dn _ (fun W hW hF => kStep_of fun K Q hK => ?_) (fun K hK => ?_)
              · have e0 := (B_138.out.drew.keep hW (fun h => h)).cell 0
                simp at e0
                go_simp
                exact hK _ _ (Keep.refl _ _) rfl
              go_simp
              generalize hZ : (Act.mk _ _) = Z
              refine hK Z ?_
              subst hZ
              clear hK K
              refine kAll_p (fun K hK => ?_)
              go_simp
              generalize hZ : (Act.mk _ _) = Z
              refine hK Z ?_
              subst hZ
              clear hK K
              refine kAll_p (fun K hK => ?_)
              go_simp
              generalize hZ : (Act.mk _ _) = Z
              refine hK Z ?_
              subst hZ
              clear hK K
              refine kAll_p (fun K hK => ?_)
              go_simp
              generalize hZ : (Act.mk _ _) = Z
              refine hK Z ?_
              subst hZ
              clear hK K
              refine kAll_dn _ (fun W hW hF => kStep_of fun K Q hK => ?_) (fun K hK => ?_)
              · have hp := HE.out W (keepD (Keep.refl _ _) hW)
                go_simp
                exact hK _ _ (Keep.refl _ _) rfl
              go_simp
              generalize hZ : (Act.mk _ _) = Z
              refine hK Z ?_
              subst hZ
              clear hK K
              refine kAll_p (fun K hK => ?_)
              go_simp
              generalize hZ : (Act.mk _ _) = Z
              refine hK Z ?_
              subst hZ
              clear hK K
              refine kAll_p (fun K hK => ?_)
              go_simp
              generalize hZ : (Act.mk _ _) = Z
              refine hK Z ?_
              subst hZ
              clear hK K
              refine kAll_pw (by kernel_rfl) (fun K hK => ?_)
              go_simp
              generalize hZ : (Act.mk _ _) = Z
              refine hK Z ?_
              subst hZ
              clear hK K
              refine kAll_dn _ (fun W hW hF => kStep_w (by kernel_rfl) fun K Q hK => ?_) (fun K hK => ?_)
              · have e0 := (B_138.out.drew.keep hW (fun h => h)).cell 0
                simp at e0
                go_simp
                exact hK _ _ (Keep.refl _ _) rfl
              go_simp
              generalize hZ : (Act.mk _ _) = Z
              refine hK Z ?_
              subst hZ
              clear hK K
              refine kAll_dn _ (fun W hW hF => kStep_w (by kernel_rfl) fun K Q hK => ?_) (fun K hK => ?_)
              · have h0 := F_142.out W (keepD (Keep.refl _ _) hW)
                go_simp
                refine (next_is _ a.1 nx W (isM_of h0) (len_100 HS100.out).1 HNX.out).mono ?_
                rintro e w' ⟨rfl, hk⟩
                exact hK _ _ hk rfl
              go_simp
              generalize hZ : (Act.mk _ _) = Z
              refine hK Z ?_
              subst hZ
              clear hK K
              refine kAll_pw (by kernel_rfl) (fun K hK => ?_)
              go_simp
              generalize hZ : (Act.mk _ _) = Z
              refine hK Z ?_
              subst hZ
              clear hK K
              refine kAll_dn _ (fun W hW hF => kStep_w (by kernel_rfl) fun K Q hK => ?_) (fun K hK => ?_)
              · have e0 := (B_138.out.drew.keep hW (fun h => h)).cell 0
                simp at e0
                go_simp
                exact hK _ _ (Keep.refl _ _) rfl
              go_simp
              generalize hZ : (Act.mk _ _) = Z
              refine hK Z ?_
              subst hZ
              clear hK K
              refine kAll_pw (by kernel_rfl) (fun K hK => ?_)
              go_simp
              generalize hZ : (Act.mk _ _) = Z
              refine hK Z ?_
              subst hZ
              clear hK K
              refine kAll_pw (by kernel_rfl) (fun K hK => ?_)
              go_simp
              generalize hZ : (Act.mk _ _) = Z
              refine hK Z ?_
              subst hZ
              clear hK K
              refine kAll_pw (by kernel_rfl) (fun K hK => ?_)
              go_simp
              generalize hZ : (Act.mk _ _) = Z
              refine hK Z ?_
              subst hZ
              clear hK K
              refine kAll_dn _ (fun W hW hF => kStep_w (by kernel_rfl) fun K Q hK => ?_) (fun K hK => ?_)
              · have hp := HE.out W (keepD (Keep.refl _ _) hW)
                go_simp
                exact hK _ _ (Keep.refl _ _) rfl
              go_simp
              generalize hZ : (Act.mk _ _) = Z
              refine hK Z ?_
              subst hZ
              clear hK K
              refine kAll_pw (by kernel_rfl) (fun K hK => ?_)
              go_simp
              generalize hZ : (Act.mk _ _) = Z
              refine hK Z ?_
              subst hZ
              clear hK K
              refine kAll_p (fun K hK => ?_)
              go_simp
              generalize hZ : (Act.mk _ _) = Z
              refine hK Z ?_
              subst hZ
              clear hK K
              refine kAll_p (fun K hK => ?_)
              go_simp
              generalize hZ : (Act.mk _ _) = Z
              refine hK Z ?_
              subst hZ
              clear hK K
              refine kAll_pw (by kernel_rfl) (fun K hK => ?_)
              go_simp
              generalize hZ : (Act.mk _ _) = Z
              refine hK Z ?_
              subst hZ
              clear hK K
              refine kAll_dn _ (fun W hW hF => kStep_w (by kernel_rfl) fun K Q hK => ?_) (fun K hK => ?_)
              · have e0 := (B_138.out.drew.keep hW (fun h => h)).cell 0
                simp at e0
                go_simp
                exact hK _ _ (Keep.refl _ _) rfl
              go_simp
              generalize hZ : (Act.mk _ _) = Z
              refine hK Z ?_
              subst hZ
              clear hK K
              refine kAll_pw (by kernel_rfl) (fun K hK => ?_)
              go_simp
              generalize hZ : (Act.mk _ _) = Z
              refine hK Z ?_
              subst hZ
              clear hK K
              refine kAll_pw (by kernel_rfl) (fun K hK => ?_)
              go_simp
              generalize hZ : (Act.mk _ _) = Z
              refine hK Z ?_
              subst hZ
              clear hK K
              refine kAll_pw (by kernel_rfl) (fun K hK => ?_)
              go_simp
              generalize hZ : (Act.mk _ _) = Z
              refine hK Z ?_
              subst hZ
              clear hK K
              refine kAll_dn _ (fun W hW hF => kStep_w (by kernel_rfl) fun K Q hK => ?_) (fun K hK => ?_)
              · have hp := HE.out W (keepD (Keep.refl _ _) hW)
                go_simp
                exact hK _ _ (Keep.refl _ _) rfl
              go_simp
              generalize hZ : (Act.mk _ _) = Z
              refine hK Z ?_
              subst hZ
              clear hK K
              refine kAll_pw (by kernel_rfl) (fun K hK => ?_)
              go_simp
              generalize hZ : (Act.mk _ _) = Z
              refine hK Z ?_
              subst hZ
              clear hK K
              refine kAll_pw (by kernel_rfl) (fun K hK => ?_)
              go_simp
              generalize hZ : (Act.mk _ _) = Z
              refine hK Z ?_
              subst hZ
              clear hK K
              refine kAll_skip (by kernel_rfl) ?_
              refine kAll_skip (by kernel_rfl) ?_
              refine kAll_skip (by kernel_rfl) ?_
              refine kAll_skip (by kernel_rfl) ?_
              refine kAll_skip (by kernel_rfl) ?_
              refine kAll_skip (by kernel_rfl) ?_
              refine kAll_skip (by kernel_rfl) ?_
              refine kAll_skip (by kernel_rfl) ?_
              refine kAll_skip (by kernel_rfl) ?_
              refine kAll_skip (by kernel_rfl) ?_
              refine kAll_skip (by kernel_rfl) ?_
              refine kAll_skip (by kernel_rfl) ?_
              refine kAll_skip (by kernel_rfl) ?_
              refine kAll_skip (by kernel_rfl) ?_
              refine kAll_skip (by kernel_rfl) ?_
              refine kAll_skip (by kernel_rfl) ?_
              refine kAll_skip (by kernel_rfl) ?_
              refine kAll_skip (by kernel_rfl) ?_
              refine kAll_pw (by kernel_rfl) (fun K hK => ?_)
              go_simp
              generalize hZ : (Act.mk _ _) = Z
              refine hK Z ?_
              subst hZ
              clear hK K
              refine kAll_p (fun K hK => ?_)
              go_simp
              generalize hZ : (Act.mk _ _) = Z
              refine hK Z ?_
              subst hZ
              clear hK K
              refine kAll_nil (fun W168 hW hF => ?_)
              clear hF
              have hk_169 : Keep (fun _ => False) wr W168 := keepD (Keep.refl _ _) hW
              have B_170 := Lib.hid (B_138.out.keep hk_169 (fun h => h))
              have B_171 := Lib.hid (B_139.out.keep hk_169 (fun h => h))
              have B_172 := Lib.hid (B_140.out.keep hk_169 (fun h => h))
              have B_173 := Lib.hid (B_141.out.keep hk_169 (fun h => h))
              have F_174 := Lib.hid (fun W h => F_142.out W (keep0_trans _ _ _ hk_169 h))
              have F_175 := Lib.hid (fun W h => F_143.out W (keep0_trans _ _ _ hk_169 h))
              have F_176 := Lib.hid (fun W h => F_144.out W (keep0_trans _ _ _ hk_169 h))
              have K_177 := Lib.hid (keep0_trans _ _ _ K_145.out hk_169)
              have An_178 := Lib.hid (keep0_trans _ _ _ AnR.out hk_169)
              clear hk_169 B_138 B_139 B_140 B_141 F_142 F_143 F_144 K_145 AnR
              clear hW
              go_wp2
              go_roundw
              case rel => exact ⟨k + 1, by omega, by go_num, An_178⟩
              case measure => simp [intOf]; omega
          · obtain rfl : na = k := by omega
            have hk_179 : Keep (fun _ => False) w_125 wr := HKR.out
            have B_180 := Lib.hid (B_130.out.keep hk_179 (fun h => h))
            have B_181 := Lib.hid (B_131.out.keep hk_179 (fun h => h))
            have B_182 := Lib.hid (B_132.out.keep hk_179 (fun h => h))
            have B_183 := Lib.hid (B_128.out.keep hk_179 (fun h => h))
            have F_184 := Lib.hid (fun W h => F_133.out W (keep0_trans _ _ _ hk_179 h))
            have F_185 := Lib.hid (fun W h => F_134.out W (keep0_trans _ _ _ hk_179 h))
            have F_186 := Lib.hid (fun W h => F_135.out W (keep0_trans _ _ _ hk_179 h))
            have K_187 := Lib.hid (keep0_trans _ _ _ K_136.out hk_179)
            clear hk_179 B_130 B_131 B_132 B_128 F_133 F_134 F_135 K_136
            clear HKR
            have c0 := B_180.out.cell 0
            have c1 := B_180.out.cell 1
            simp at c0 c1
            have clt := B_180.out.lt
            go_wp2_with fail
            refine (next_is _ a.1 nx _ (isM_of (F_184.out _ (Keep.refl _ _))) (len_100 HS100.out).1 HNX.out).mono ?_
            rintro e v9 ⟨rfl, hk9⟩
            clear c0 c1 clt
            have hk_188 : Keep (fun _ => False) wr v9 := hk9
            have B_189 := Lib.hid (B_180.out.keep hk_188 (fun h => h))
            have B_190 := Lib.hid (B_181.out.keep hk_188 (fun h => h))
            have B_191 := Lib.hid (B_182.out.keep hk_188 (fun h => h))
            have B_192 := Lib.hid (B_183.out.keep hk_188 (fun h => h))
            have F_193 := Lib.hid (fun W h => F_184.out W (keep0_trans _ _ _ hk_188 h))
            have F_194 := Lib.hid (fun W h => F_185.out W (keep0_trans _ _ _ hk_188 h))
            have F_195 := Lib.hid (fun W h => F_186.out W (keep0_trans _ _ _ hk_188 h))
            have K_196 := Lib.hid (keep0_trans _ _ _ K_187.out hk_188)
            clear hk_188 B_180 B_181 B_182 B_183 F_184 F_185 F_186 K_187
            clear hk9
            go_wp2
            go_ret
            exact ⟨ret_bool (decide_eq_true HSP.out.2), K_196.out⟩
  · have HBig := Lib.hid hbig
    clear hbig
    refine wp_region_kord (Keep (fun _ => False)) (Keep.refl _) keep0_trans 7 (Ts := [some (.inl (.bool true)), none, none, some (.inl (.agg #[.slice Aa na ca, .slice Ba_ ma da])), some (.inr (fun v W => IsLv W v [a])), some (.inl (.bool true)), none]) ?_
    simp only [List.take, List.drop]
    refine kAll_dn _ (fun W hW hF => kStep_of fun K Q hK => ?_) (fun K hK => ?_)
    · go_simp
      refine (works_any W).mono ?_
      rintro e w' ⟨rfl, hk⟩
      exact hK _ _ hk rfl
    go_simp
    generalize hZ : (Act.mk _ _) = Z
    refine hK Z ?_
    subst hZ
    clear hK K
    refine kAll_p (fun K hK => ?_)
    go_simp
    generalize hZ : (Act.mk _ _) = Z
    refine hK Z ?_
    subst hZ
    clear hK K
    refine kAll_p (fun K hK => ?_)
    go_simp
    generalize hZ : (Act.mk _ _) = Z
    refine hK Z ?_
    subst hZ
    clear hK K
    refine kAll_dn _ (fun W hW hF => kStep_w (by kernel_rfl) fun K Q hK => ?_) (fun K hK => ?_)
    · have e0 := (B2.out.keep hW (fun h => h)).cell 0
      have e1 := (B2.out.keep hW (fun h => h)).cell 1
      simp at e0 e1
      go_simp
      exact hK _ _ (Keep.refl _ _) rfl
    go_simp
    generalize hZ : (Act.mk _ _) = Z
    refine hK Z ?_
    subst hZ
    clear hK K
    refine kAll_tn _ (fun v W W' hk h => h.keep0 hk) (fun W hW hF => kStep_w (by kernel_rfl) fun K Q hK => ?_) (fun u0 K hK => ?_)
    · have h0 := FA.out W (hW)
      go_simp
      exact hK _ _ ((Keep.refl _ _).alloc _) (isLv1 h0)
    go_simp
    generalize hZ : (Act.mk _ _) = Z
    refine hK Z ?_
    subst hZ
    clear hK K
    refine kAll_dn _ (fun W hW hF => kStep_w (by kernel_rfl) fun K Q hK => ?_) (fun K hK => ?_)
    · have h0 : (fun v W => IsLv W v [a]) u0 W := kHas_at hF 0 rfl (by kernel_rfl)
      obtain ⟨A9, n9, c9, rfl, h9⟩ := h0
      go_simp
      refine (large_is _ [a] W true ⟨_, _, _, rfl, h9⟩ (by simp) HBig.out).mono ?_
      rintro e w' ⟨rfl, hk⟩
      exact hK _ _ hk rfl
    go_simp
    generalize hZ : (Act.mk _ _) = Z
    refine hK Z ?_
    subst hZ
    clear hK K
    refine kAll_p (fun K hK => ?_)
    go_simp
    generalize hZ : (Act.mk _ _) = Z
    refine hK Z ?_
    subst hZ
    clear hK K
    refine kAll_nil (fun W1 hW hF => ?_)
    clear hF
    have hk_2 : Keep (fun _ => False) w0 W1 := hW
    have B_3 := Lib.hid (B2.out.keep hk_2 (fun h => h))
    have B_4 := Lib.hid (B3.out.keep hk_2 (fun h => h))
    have F_5 := Lib.hid (fun W h => FA.out W (keep0_trans _ _ _ hk_2 h))
    have K_6 := Lib.hid (keep0_trans _ _ _ K0.out hk_2)
    clear hk_2 B2 B3 FA K0
    clear hW
    go_wp2_with fail
    refine (works_any _).mono ?_
    rintro e w2 ⟨rfl, hk⟩
    have KZ := Lib.hid (keep0_trans _ _ _ K_6.out hk)
    clear hk
    go_wp2
    go_ret
    exact ⟨rfl, KZ.out⟩

theorem walkRosterSet {w : World} (v0 : Value) (w0 : InL w v0) (v1 : Value) (w1 : InMem w v1) :
    Calls Try.prog 7 #[v0, v1] w fun e w' => e = .returned (.bool true) ∧ Below w.heap.size w w' := by
  obtain ⟨a, ha, _, _⟩ := w0
  obtain ⟨x, rfl⟩ := w1
  exact (rset_any _ a x w ha).mono fun e w' ⟨he, hk⟩ => ⟨he, hk.b⟩
end Go.Proofs.Ythlfgjlnjmjppaa
