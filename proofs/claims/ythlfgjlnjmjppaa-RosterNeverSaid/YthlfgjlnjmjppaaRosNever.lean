/-
  Roster: RosterNever. Written by gen_never.py.
-/
import Derived.Test.YthlfgjlnjmjppaaRosV
namespace Go.Proofs.Ythlfgjlnjmjppaa
open Go.RowKit
attribute [local irreducible] kAll
attribute [local go_sem] kQuiet kQuietUpon


set_option maxRecDepth 100000 in
set_option maxHeartbeats 4000000 in
theorem rnever_any (va vb : Value) (a b : LI) (p : ID) (w : World) (ha : IsL w va a.1 a.2) (hb : IsL w vb b.1 b.2) : Calls Try.prog 3 #[va, vb, idV p] w (Tell (.bool true) w) := by
  obtain ⟨Aa, na, ca, Ba_, ma, da, rfl, ha1, ha2⟩ := ha
  obtain ⟨Ab, nb, cb, Bb_, mb, db, rfl, hb1, hb2⟩ := hb
  obtain ⟨pa, pi⟩ := p
  have hk0 : Keep (fun _ => False) w (((w.alloc (.cells #[.slice Aa na ca, .slice Ba_ ma da] 25)).alloc (.cells #[.slice Ab nb cb, .slice Bb_ mb db] 25)).alloc (.cells #[.int .i64 pa, .int .i64 pi] 27)) := (((Keep.refl _ w).alloc _).alloc _).alloc _
  have b0 := ((Blk.new w 25 #[.slice Aa na ca, .slice Ba_ ma da]).alloc (.cells #[.slice Ab nb cb, .slice Bb_ mb db] 25)).alloc (.cells #[.int .i64 pa, .int .i64 pi] 27)
  have b1 := (Blk.new_ (w := w.alloc (.cells #[.slice Aa na ca, .slice Ba_ ma da] 25)) (B := w.heap.size + 1) (by simp) 25 #[.slice Ab nb cb, .slice Bb_ mb db]).alloc (.cells #[.int .i64 pa, .int .i64 pi] 27)
  have b2 := Blk.new_ (w := (w.alloc (.cells #[.slice Aa na ca, .slice Ba_ ma da] 25)).alloc (.cells #[.slice Ab nb cb, .slice Bb_ mb db] 25)) (B := w.heap.size + 1 + 1) (by simp) 27 #[.int .i64 pa, .int .i64 pi]
  generalize hw0 : ((w.alloc (.cells #[.slice Aa na ca, .slice Ba_ ma da] 25)).alloc (.cells #[.slice Ab nb cb, .slice Bb_ mb db] 25)).alloc (.cells #[.int .i64 pa, .int .i64 pi] 27) = w0 at *
  have HW0 := Lib.hid hw0
  have K0 := Lib.hid hk0
  have B3 := Lib.hid b0
  have B4 := Lib.hid b1
  have B5 := Lib.hid b2
  have FA : Hid (∀ W, Keep (fun _ => False) w0 W → IsL W (.agg #[.slice Aa na ca, .slice Ba_ ma da]) a.1 a.2) := Lib.hid fun W h => ⟨_, _, _, _, _, _, rfl, ha1.keep0 (keep0_trans _ _ _ hk0 h), ha2.keep0 (keep0_trans _ _ _ hk0 h)⟩
  have FB : Hid (∀ W, Keep (fun _ => False) w0 W → IsL W (.agg #[.slice Ab nb cb, .slice Bb_ mb db]) b.1 b.2) := Lib.hid fun W h => ⟨_, _, _, _, _, _, rfl, hb1.keep0 (keep0_trans _ _ _ hk0 h), hb2.keep0 (keep0_trans _ _ _ hk0 h)⟩
  clear hk0 b0 b1 b2 ha1 ha2 hb1 hb2 hw0
  go_enter Try.func3, Try.ntmps3
  go_upto_region 1 with (fail)
  rw [HW0.out]
  clear HW0
  cases hbig : [a, b].any bigL
  · have HBig := Lib.hid hbig
    have hs : bigL a = false ∧ bigL b = false := by simpa using hbig
    have LA := Lib.hid (len_small hs.1)
    have LB := Lib.hid (len_small hs.2)
    have HS100 := Lib.hid hs
    clear hs hbig
    refine wp_region_kord (Keep (fun _ => False)) (Keep.refl _) keep0_trans 8 (Ts := [some (.inl (.bool true)), none, none, some (.inl (.agg #[.slice Aa na ca, .slice Ba_ ma da])), some (.inl (.agg #[.slice Ab nb cb, .slice Bb_ mb db])), some (.inr (fun v W => IsLv W v [a, b])), some (.inl (.bool false)), none]) ?_
    simp only [List.take, List.drop]
    refine kAll_dn _ (fun W hW hF => kStep_of fun K Q hK => ?_) (fun K hK => ?_)
    · go_simp
      refine (works_any W).mono ?_
      rintro e w' ⟨rfl, hk⟩
      exact hK _ _ hk rfl
    go_simp
    generalize hZ : (Act.mk _ _) = Z
    refine hK Z ?_
    subst hZ
    clear hK K
    refine kAll_p (fun K hK => ?_)
    go_simp
    generalize hZ : (Act.mk _ _) = Z
    refine hK Z ?_
    subst hZ
    clear hK K
    refine kAll_p (fun K hK => ?_)
    go_simp
    generalize hZ : (Act.mk _ _) = Z
    refine hK Z ?_
    subst hZ
    clear hK K
    refine kAll_dn _ (fun W hW hF => kStep_w (by kernel_rfl) fun K Q hK => ?_) (fun K hK => ?_)
    · have e0 := (B3.out.keep hW (fun h => h)).cell 0
      have e1 := (B3.out.keep hW (fun h => h)).cell 1
      simp at e0 e1
      go_simp
      exact hK _ _ (Keep.refl _ _) rfl
    go_simp
    generalize hZ : (Act.mk _ _) = Z
    refine hK Z ?_
    subst hZ
    clear hK K
    refine kAll_dn _ (fun W hW hF => kStep_w (by kernel_rfl) fun K Q hK => ?_) (fun K hK => ?_)
    · have e0 := (B4.out.keep hW (fun h => h)).cell 0
      have e1 := (B4.out.keep hW (fun h => h)).cell 1
      simp at e0 e1
      go_simp
      exact hK _ _ (Keep.refl _ _) rfl
    go_simp
    generalize hZ : (Act.mk _ _) = Z
    refine hK Z ?_
    subst hZ
    clear hK K
    refine kAll_tn _ (fun v W W' hk h => h.keep0 hk) (fun W hW hF => kStep_w (by kernel_rfl) fun K Q hK => ?_) (fun u0 K hK => ?_)
    · have h0 := FA.out W (hW)
      have h1 := FB.out W (hW)
      go_simp
      exact hK _ _ ((Keep.refl _ _).alloc _) (isLv2 h0 h1)
    go_simp
    generalize hZ : (Act.mk _ _) = Z
    refine hK Z ?_
    subst hZ
    clear hK K
    refine kAll_dn _ (fun W hW hF => kStep_w (by kernel_rfl) fun K Q hK => ?_) (fun K hK => ?_)
    · have h0 : (fun v W => IsLv W v [a, b]) u0 W := kHas_at hF 0 rfl (by kernel_rfl)
      obtain ⟨A9, n9, c9, rfl, h9⟩ := h0
      go_simp
      refine (large_is _ [a, b] W false ⟨_, _, _, rfl, h9⟩ (by simp) HBig.out).mono ?_
      rintro e w' ⟨rfl, hk⟩
      exact hK _ _ hk rfl
    go_simp
    generalize hZ : (Act.mk _ _) = Z
    refine hK Z ?_
    subst hZ
    clear hK K
    refine kAll_p (fun K hK => ?_)
    go_simp
    generalize hZ : (Act.mk _ _) = Z
    refine hK Z ?_
    subst hZ
    clear hK K
    refine kAll_nil (fun W1 hW hF => ?_)
    clear hF
    have hk_2 : Keep (fun _ => False) _ W1 := hW
    have B_3 := Lib.hid (B3.out.keep hk_2 (fun h => h))
    have B_4 := Lib.hid (B4.out.keep hk_2 (fun h => h))
    have B_5 := Lib.hid (B5.out.keep hk_2 (fun h => h))
    have F_6 := Lib.hid (fun W h => FA.out W (keep0_trans _ _ _ hk_2 h))
    have F_7 := Lib.hid (fun W h => FB.out W (keep0_trans _ _ _ hk_2 h))
    have K_8 := Lib.hid (keep0_trans _ _ _ K0.out hk_2)
    clear hk_2 B3 B4 B5 FA FB K0
    clear hW
    have c0 := B_3.out.cell 0
    have c1 := B_3.out.cell 1
    simp at c0 c1
    have clt := B_3.out.lt
    have d0 := B_4.out.cell 0
    have d1 := B_4.out.cell 1
    simp at d0 d1
    have dlt := B_4.out.lt
    go_wp2_with fail
    refine (joinl_any _ _ a b _ (F_6.out _ (Keep.refl _ _)) (F_7.out _ (Keep.refl _ _)) LA.out LB.out).mono ?_
    rintro e v1 ⟨u, rfl, hu, hk⟩
    clear c0 c1 clt d0 d1 dlt
    have LJ := Lib.hid (len_join a b)
    have HNG := Lib.hid (never_gone a b (pa, pi))
    have HNF := Lib.hid (never_floor a b)
    have HNL := Lib.hid (never_less a b)
    generalize joinL a b = J at *
    obtain ⟨AJ, nJ, cJ, BJ, mJ, dJ, rfl, hj1, hj2⟩ := hu
    have FJ : Hid (∀ W, Keep (fun _ => False) v1 W → IsL W (.agg #[.slice AJ nJ cJ, .slice BJ mJ dJ]) J.1 J.2) := Lib.hid fun W h => ⟨_, _, _, _, _, _, rfl, hj1.keep0 h, hj2.keep0 h⟩
    clear hj1 hj2
    have hk_9 : Keep (fun _ => False) _ v1 := hk
    have B_10 := Lib.hid (B_3.out.keep hk_9 (fun h => h))
    have B_11 := Lib.hid (B_4.out.keep hk_9 (fun h => h))
    have B_12 := Lib.hid (B_5.out.keep hk_9 (fun h => h))
    have F_13 := Lib.hid (fun W h => F_6.out W (keep0_trans _ _ _ hk_9 h))
    have F_14 := Lib.hid (fun W h => F_7.out W (keep0_trans _ _ _ hk_9 h))
    have K_15 := Lib.hid (keep0_trans _ _ _ K_8.out hk_9)
    clear hk_9 B_3 B_4 B_5 F_6 F_7 K_8
    clear hk
    go_upto_region 4 with (fail)
    have hb_16 := Blk.new v1 25 #[.slice AJ nJ cJ, .slice BJ mJ dJ]
    have hq_18 : Keep (fun _ => False) v1 (v1.alloc (.cells #[.slice AJ nJ cJ, .slice BJ mJ dJ] 25)) := (Keep.refl _ _).alloc _
    generalize hw : v1.alloc (.cells #[.slice AJ nJ cJ, .slice BJ mJ dJ] 25) = w_17 at *
    clear hw
    have B_20 := Lib.hid hb_16
    clear hb_16
    have hk_21 : Keep (fun _ => False) _ w_17 := hq_18
    have B_22 := Lib.hid (B_10.out.keep hk_21 (fun h => h))
    have B_23 := Lib.hid (B_11.out.keep hk_21 (fun h => h))
    have B_24 := Lib.hid (B_12.out.keep hk_21 (fun h => h))
    have F_25 := Lib.hid (fun W h => F_13.out W (keep0_trans _ _ _ hk_21 h))
    have F_26 := Lib.hid (fun W h => F_14.out W (keep0_trans _ _ _ hk_21 h))
    have F_27 := Lib.hid (fun W h => FJ.out W (keep0_trans _ _ _ hk_21 h))
    have K_28 := Lib.hid (keep0_trans _ _ _ K_15.out hk_21)
    clear hk_21 B_10 B_11 B_12 F_13 F_14 FJ K_15
    clear hq_18
    obtain ⟨G, iz, hG, hG1, hG2⟩ : ∃ (G : Mem) (iz : Bool), optV (getT J.1 (pa, pi)) = .tuple #[memV G, .bool iz] ∧ (iz = true → getT J.1 (pa, pi) = some G) ∧ (iz = false → getT J.1 (pa, pi) = none) := by
      cases hq : getT J.1 (pa, pi) with
      | none => exact ⟨zeroMem, false, rfl, (fun h => by cases h), fun _ => rfl⟩
      | some y => exact ⟨y, true, rfl, fun _ => rfl, (fun h => by cases h)⟩
    have HG := Lib.hid hG
    have HG1 := Lib.hid hG1
    have HG2 := Lib.hid hG2
    clear hG hG1 hG2
    obtain ⟨ga, gi, gs, gn⟩ := G
    have c0 := B_20.out.cell 0
    have c1 := B_20.out.cell 1
    simp at c0 c1
    have clt := B_20.out.lt
    have d0 := B_24.out.cell 0
    have d1 := B_24.out.cell 1
    simp at d0 d1
    have dlt := B_24.out.lt
    go_wp2_with fail
    refine (get_is _ J.1 (pa, pi) _ _ (isM_of (F_27.out _ (Keep.refl _ _))) LJ.out.1 rfl).mono ?_
    rintro e v2 ⟨rfl, hk2⟩
    clear c0 c1 clt d0 d1 dlt
    rw [HG.out]
    have hk_29 : Keep (fun _ => False) _ v2 := hk2
    have B_30 := Lib.hid (B_22.out.keep hk_29 (fun h => h))
    have B_31 := Lib.hid (B_23.out.keep hk_29 (fun h => h))
    have B_32 := Lib.hid (B_24.out.keep hk_29 (fun h => h))
    have B_33 := Lib.hid (B_20.out.keep hk_29 (fun h => h))
    have F_34 := Lib.hid (fun W h => F_25.out W (keep0_trans _ _ _ hk_29 h))
    have F_35 := Lib.hid (fun W h => F_26.out W (keep0_trans _ _ _ hk_29 h))
    have F_36 := Lib.hid (fun W h => F_27.out W (keep0_trans _ _ _ hk_29 h))
    have K_37 := Lib.hid (keep0_trans _ _ _ K_28.out hk_29)
    clear hk_29 B_22 B_23 B_24 B_20 F_25 F_26 F_27 K_28
    clear hk2
    go_upto_region 5 with (fail)
    have hb_38 := Blk.new v2 32 #[.int .i64 ga, .int .i64 gi, .int .u8 gs, .int .i64 gn]
    have hq_40 : Keep (fun _ => False) v2 (v2.alloc (.cells #[.int .i64 ga, .int .i64 gi, .int .u8 gs, .int .i64 gn] 32)) := (Keep.refl _ _).alloc _
    generalize hw : v2.alloc (.cells #[.int .i64 ga, .int .i64 gi, .int .u8 gs, .int .i64 gn] 32) = w_39 at *
    clear hw
    have B_42 := Lib.hid hb_38
    clear hb_38
    have hk_43 : Keep (fun _ => False) _ w_39 := hq_40
    have B_44 := Lib.hid (B_30.out.keep hk_43 (fun h => h))
    have B_45 := Lib.hid (B_31.out.keep hk_43 (fun h => h))
    have B_46 := Lib.hid (B_32.out.keep hk_43 (fun h => h))
    have B_47 := Lib.hid (B_33.out.keep hk_43 (fun h => h))
    have F_48 := Lib.hid (fun W h => F_34.out W (keep0_trans _ _ _ hk_43 h))
    have F_49 := Lib.hid (fun W h => F_35.out W (keep0_trans _ _ _ hk_43 h))
    have F_50 := Lib.hid (fun W h => F_36.out W (keep0_trans _ _ _ hk_43 h))
    have K_51 := Lib.hid (keep0_trans _ _ _ K_37.out hk_43)
    clear hk_43 B_30 B_31 B_32 B_33 F_34 F_35 F_36 K_37
    clear hq_40
    have HGN : Hid (iz = true → goneT J.2 (pa, pi) = false) := Lib.hid fun h => HNG.out _ (HG1.out h)
    cases iz
    · go_upto_region 7 with (fail)
      have c0 := B_44.out.cell 0
      have c1 := B_44.out.cell 1
      simp at c0 c1
      have clt := B_44.out.lt
      have d0 := B_45.out.cell 0
      have d1 := B_45.out.cell 1
      simp at d0 d1
      have dlt := B_45.out.lt
      go_wp2_with fail
      clear c0 c1 clt d0 d1 dlt
      have hb_52 := Blk.new w_39 25 #[.slice Aa na ca, .slice Ba_ ma da, .slice Ab nb cb, .slice Bb_ mb db]
      have hq_54 : Keep (fun _ => False) w_39 (w_39.alloc (.cells #[.slice Aa na ca, .slice Ba_ ma da, .slice Ab nb cb, .slice Bb_ mb db] 25)) := (Keep.refl _ _).alloc _
      generalize hw : w_39.alloc (.cells #[.slice Aa na ca, .slice Ba_ ma da, .slice Ab nb cb, .slice Bb_ mb db] 25) = w_53 at *
      clear hw
      have B_56 := Lib.hid hb_52
      clear hb_52
      have hk_57 : Keep (fun _ => False) _ w_53 := hq_54
      have B_58 := Lib.hid (B_44.out.keep hk_57 (fun h => h))
      have B_59 := Lib.hid (B_45.out.keep hk_57 (fun h => h))
      have B_60 := Lib.hid (B_46.out.keep hk_57 (fun h => h))
      have B_61 := Lib.hid (B_47.out.keep hk_57 (fun h => h))
      have B_62 := Lib.hid (B_42.out.keep hk_57 (fun h => h))
      have F_63 := Lib.hid (fun W h => F_48.out W (keep0_trans _ _ _ hk_57 h))
      have F_64 := Lib.hid (fun W h => F_49.out W (keep0_trans _ _ _ hk_57 h))
      have F_65 := Lib.hid (fun W h => F_50.out W (keep0_trans _ _ _ hk_57 h))
      have K_66 := Lib.hid (keep0_trans _ _ _ K_51.out hk_57)
      clear hk_57 B_44 B_45 B_46 B_47 B_42 F_48 F_49 F_50 K_51
      clear hq_54
      go_loopw [45] (fun i wr => ∃ k : Nat, k ≤ 2 ∧ i = .int .i64 (k : Int) ∧ Hid (Keep (fun _ => False) w_53 wr)) (fun i _ => 2 - (intOf i).toNat)
      case atStart => exact ⟨0, by omega, rfl, Lib.hid (Keep.refl _ _)⟩
      case round =>
        obtain ⟨k, hk, rfl, HKR⟩ := hrel
        by_cases hlt : k < 2
        · have AnR := HKR
          have hk_67 : Keep (fun _ => False) _ wr := HKR.out
          have B_68 := Lib.hid (B_58.out.keep hk_67 (fun h => h))
          have B_69 := Lib.hid (B_59.out.keep hk_67 (fun h => h))
          have B_70 := Lib.hid (B_60.out.keep hk_67 (fun h => h))
          have B_71 := Lib.hid (B_61.out.keep hk_67 (fun h => h))
          have B_72 := Lib.hid (B_62.out.keep hk_67 (fun h => h))
          have B_73 := Lib.hid (B_56.out.keep hk_67 (fun h => h))
          have F_74 := Lib.hid (fun W h => F_63.out W (keep0_trans _ _ _ hk_67 h))
          have F_75 := Lib.hid (fun W h => F_64.out W (keep0_trans _ _ _ hk_67 h))
          have F_76 := Lib.hid (fun W h => F_65.out W (keep0_trans _ _ _ hk_67 h))
          have K_77 := Lib.hid (keep0_trans _ _ _ K_66.out hk_67)
          clear hk_67 B_58 B_59 B_60 B_61 B_62 B_56 F_63 F_64 F_65 K_66
          obtain ⟨l, Al, nl, cl, Bl_, ml, dl, hl0, hlb, hc0, hc1, FL⟩ : ∃ (l : LI) (Al : Option Addr) (nl cl : Nat) (Bl_ : Option Addr) (ml dl : Nat), ((∀ q, q ∈ l.2 → q ∈ a.2 ∨ q ∈ b.2) ∧ (∀ y, y ∈ l.1 → y ∈ a.1 ∨ y ∈ b.1)) ∧ bigL l = false ∧ wr.cell? ⟨w_39.heap.size, k * 2, none⟩ = some (.slice Al nl cl) ∧ wr.cell? ⟨w_39.heap.size, k * 2 + 1, none⟩ = some (.slice Bl_ ml dl) ∧
              Hid (∀ W, Keep (fun _ => False) wr W → IsL W (.agg #[.slice Al nl cl, .slice Bl_ ml dl]) l.1 l.2) := by
            rcases (by omega : k = 0 ∨ k = 1) with rfl | rfl
            · exact ⟨a, _, _, _, _, _, _, ⟨fun q h => .inl h, fun q h => .inl h⟩, HS100.out.1, B_73.out.cell 0, B_73.out.cell 1, F_74⟩
            · exact ⟨b, _, _, _, _, _, _, ⟨fun q h => .inr h, fun q h => .inr h⟩, HS100.out.2, B_73.out.cell 2, B_73.out.cell 3, F_75⟩
          have HL0 := Lib.hid hl0
          have HLB := Lib.hid (len_100 hlb)
          clear hl0 hlb
          have h43 := B_73.out.lt
          have hkI : (k : Int) < 2 := by omega
          have hkJ : (0 : Int) ≤ (k : Int) := by omega
          go_upto_region 10 with (fail)
          clear hc0 hc1 h43
          have hb_78 := Blk.new wr 25 #[.slice Al nl cl, .slice Bl_ ml dl]
          have hq_80 : Keep (fun _ => False) wr (wr.alloc (.cells #[.slice Al nl cl, .slice Bl_ ml dl] 25)) := (Keep.refl _ _).alloc _
          generalize hw : wr.alloc (.cells #[.slice Al nl cl, .slice Bl_ ml dl] 25) = w_79 at *
          clear hw
          have B_82 := Lib.hid hb_78
          clear hb_78
          have hk_83 : Keep (fun _ => False) _ w_79 := hq_80
          have B_84 := Lib.hid (B_68.out.keep hk_83 (fun h => h))
          have B_85 := Lib.hid (B_69.out.keep hk_83 (fun h => h))
          have B_86 := Lib.hid (B_70.out.keep hk_83 (fun h => h))
          have B_87 := Lib.hid (B_71.out.keep hk_83 (fun h => h))
          have B_88 := Lib.hid (B_72.out.keep hk_83 (fun h => h))
          have B_89 := Lib.hid (B_73.out.keep hk_83 (fun h => h))
          have F_90 := Lib.hid (fun W h => F_74.out W (keep0_trans _ _ _ hk_83 h))
          have F_91 := Lib.hid (fun W h => F_75.out W (keep0_trans _ _ _ hk_83 h))
          have F_92 := Lib.hid (fun W h => F_76.out W (keep0_trans _ _ _ hk_83 h))
          have F_93 := Lib.hid (fun W h => FL.out W (keep0_trans _ _ _ hk_83 h))
          have K_94 := Lib.hid (keep0_trans _ _ _ K_77.out hk_83)
          have An_95 := Lib.hid (keep0_trans _ _ _ AnR.out hk_83)
          clear hk_83 B_68 B_69 B_70 B_71 B_72 B_73 F_74 F_75 F_76 FL K_77 AnR
          clear hq_80
          have hml : ml ≤ 100 := by have h1 := HLB.out; have h2 := (rdI_of (F_93.out _ (Keep.refl _ _))).1; omega
          have hnl : nl ≤ 100 := by have h1 := HLB.out; have h2 := (rdM_of (F_93.out _ (Keep.refl _ _))).1; omega
          have hlf := Lib.hid (rdI_of (F_93.out _ (Keep.refl _ _))).1
          have hlm := Lib.hid (rdM_of (F_93.out _ (Keep.refl _ _))).1
          go_wp2_with fail
          go_loopw [12] (fun i wq => ∃ j : Nat, j ≤ ml ∧ i = .int .i64 (j : Int) ∧ Hid (Keep (fun _ => False) w_79 wq)) (fun i _ => ml - (intOf i).toNat)
          case atStart => exact ⟨0, by omega, rfl, Lib.hid (Keep.refl _ _)⟩
          case round =>
            obtain ⟨j, hj, rfl, HKQ⟩ := hrel
            by_cases hlt2 : j < ml
            · have AnQ := HKQ
              have hk_96 : Keep (fun _ => False) _ wr := HKQ.out
              have B_97 := Lib.hid (B_84.out.keep hk_96 (fun h => h))
              have B_98 := Lib.hid (B_85.out.keep hk_96 (fun h => h))
              have B_99 := Lib.hid (B_86.out.keep hk_96 (fun h => h))
              have B_100 := Lib.hid (B_87.out.keep hk_96 (fun h => h))
              have B_101 := Lib.hid (B_88.out.keep hk_96 (fun h => h))
              have B_102 := Lib.hid (B_89.out.keep hk_96 (fun h => h))
              have B_103 := Lib.hid (B_82.out.keep hk_96 (fun h => h))
              have F_104 := Lib.hid (fun W h => F_90.out W (keep0_trans _ _ _ hk_96 h))
              have F_105 := Lib.hid (fun W h => F_91.out W (keep0_trans _ _ _ hk_96 h))
              have F_106 := Lib.hid (fun W h => F_92.out W (keep0_trans _ _ _ hk_96 h))
              have F_107 := Lib.hid (fun W h => F_93.out W (keep0_trans _ _ _ hk_96 h))
              have K_108 := Lib.hid (keep0_trans _ _ _ K_94.out hk_96)
              clear hk_96 B_84 B_85 B_86 B_87 B_88 B_89 B_82 F_90 F_91 F_92 F_93 K_94
              have hjl : j < l.2.length := by rw [hlf.out]; exact hlt2
              obtain ⟨g, off, hBl, -⟩ := (rdI_of (F_107.out _ (Keep.refl _ _))).at_ hlt2
              have HE0 : Hid (∀ W, Keep (fun _ => False) wr W → W.cell? ⟨g, off + j * 2, none⟩ = some (.int .i64 (l.2.getD j (0, 0)).1)) := Lib.hid fun W h => by
                obtain ⟨g', off', e, h0, -⟩ := (rdI_of (F_107.out W h)).at_ hlt2
                rw [hBl] at e; injection e with e; injection e with e1 e2; subst e1 e2; exact h0
              have HE1 : Hid (∀ W, Keep (fun _ => False) wr W → W.cell? ⟨g, off + j * 2 + 1, none⟩ = some (.int .i64 (l.2.getD j (0, 0)).2)) := Lib.hid fun W h => by
                obtain ⟨g', off', e, -, h1⟩ := (rdI_of (F_107.out W h)).at_ hlt2
                rw [hBl] at e; injection e with e; injection e with e1 e2; subst e1 e2; exact h1
              have hnf := HNF.out (l.2.getD j (0, 0)) (HL0.out.1 _ (mem_getD hjl))
              subst hBl
              generalize l.2.getD j (0, 0) = q at *
              obtain ⟨qa, qi⟩ := q
              simp only at hnf
              obtain ⟨fv, hfv⟩ : ∃ fv, floorT J.2 qa = fv := ⟨_, rfl⟩
              rw [hfv] at hnf
              have HFV := Lib.hid hfv
              have HNFj := Lib.hid hnf
              clear hnf hfv hjl
              have hjI : (j : Int) < (ml : Int) := by omega
              have hjJ : (0 : Int) ≤ (j : Int) := by omega
              cases hmq : mayID (qa, qi)
              · have HMQ := Lib.hid hmq
                clear hmq
                have c0 := B_103.out.cell 0
                have c1 := B_103.out.cell 1
                simp at c0 c1
                have clt := B_103.out.lt
                go_wp2_with fail
                refine wp_region_krip (Keep (fun _ => False)) (Keep.refl _) keep0_trans 24 (by kernel_rfl) (by kernel_rfl) (Ts := [none, some (.inl (.slice (some ⟨g, off, none⟩) ml dl)), none, none, some (.inl (.agg #[.int .i64 qa, .int .i64 qi])), some (.inl (.bool false)), none, none, none, none, none, none, none, none, none, none, none, none, none, none, none, none, none, none]) ?_
                simp only [List.take, List.drop]
                refine kAll_p (fun K hK => ?_)
                go_simp
                generalize hZ : (Act.mk _ _) = Z
                refine hK Z ?_
                subst hZ
                clear hK K
                refine kAll_dn _ (fun W hW hF => kStep_of fun K Q hK => ?_) (fun K hK => ?_)
                · have e1 := (B_103.out.drew.keep hW (fun h => h)).cell 1
                  simp at e1
                  go_simp
                  exact hK _ _ (Keep.refl _ _) rfl
                go_simp
                generalize hZ : (Act.mk _ _) = Z
                refine hK Z ?_
                subst hZ
                clear hK K
                refine kAll_p (fun K hK => ?_)
                go_simp
                generalize hZ : (Act.mk _ _) = Z
                refine hK Z ?_
                subst hZ
                clear hK K
                refine kAll_p (fun K hK => ?_)
                go_simp
                generalize hZ : (Act.mk _ _) = Z
                refine hK Z ?_
                subst hZ
                clear hK K
                refine kAll_dn _ (fun W hW hF => kStep_of fun K Q hK => ?_) (fun K hK => ?_)
                · have hp0 := HE0.out W (keepD (Keep.refl _ _) hW)
                  have hp1 := HE1.out W (keepD (Keep.refl _ _) hW)
                  go_simp
                  exact hK _ _ (Keep.refl _ _) rfl
                go_simp
                generalize hZ : (Act.mk _ _) = Z
                refine hK Z ?_
                subst hZ
                clear hK K
                refine kAll_dn _ (fun W hW hF => kStep_of fun K Q hK => ?_) (fun K hK => ?_)
                · go_simp
                  refine (mayref_any (qa, qi) W).mono ?_
                  rintro e w' ⟨rfl, hk⟩
                  rw [HMQ.out]
                  exact hK _ _ hk rfl
                go_simp
                generalize hZ : (Act.mk _ _) = Z
                refine hK Z ?_
                subst hZ
                clear hK K
                refine kAll_p (fun K hK => ?_)
                go_simp
                generalize hZ : (Act.mk _ _) = Z
                refine hK Z ?_
                subst hZ
                clear hK K
                refine kAll_skip (by kernel_rfl) ?_
                refine kAll_skip (by kernel_rfl) ?_
                refine kAll_skip (by kernel_rfl) ?_
                refine kAll_skip (by kernel_rfl) ?_
                refine kAll_skip (by kernel_rfl) ?_
                refine kAll_skip (by kernel_rfl) ?_
                refine kAll_skip (by kernel_rfl) ?_
                refine kAll_skip (by kernel_rfl) ?_
                refine kAll_skip (by kernel_rfl) ?_
                refine kAll_skip (by kernel_rfl) ?_
                refine kAll_skip (by kernel_rfl) ?_
                refine kAll_skip (by kernel_rfl) ?_
                refine kAll_skip (by kernel_rfl) ?_
                refine kAll_skip (by kernel_rfl) ?_
                refine kAll_skip (by kernel_rfl) ?_
                refine kAll_skip (by kernel_rfl) ?_
                refine kAll_p (fun K hK => ?_)
                go_simp
                generalize hZ : (Act.mk _ _) = Z
                refine hK Z ?_
                subst hZ
                clear hK K
                refine kAll_nil (fun W109 hW hF => ?_)
                clear hF
                have hk_110 : Keep (fun _ => False) _ W109 := keepD (Keep.refl _ _) hW
                have B_111 := Lib.hid (B_97.out.keep hk_110 (fun h => h))
                have B_112 := Lib.hid (B_98.out.keep hk_110 (fun h => h))
                have B_113 := Lib.hid (B_99.out.keep hk_110 (fun h => h))
                have B_114 := Lib.hid (B_100.out.keep hk_110 (fun h => h))
                have B_115 := Lib.hid (B_101.out.keep hk_110 (fun h => h))
                have B_116 := Lib.hid (B_102.out.keep hk_110 (fun h => h))
                have B_117 := Lib.hid (B_103.out.keep hk_110 (fun h => h))
                have F_118 := Lib.hid (fun W h => F_104.out W (keep0_trans _ _ _ hk_110 h))
                have F_119 := Lib.hid (fun W h => F_105.out W (keep0_trans _ _ _ hk_110 h))
                have F_120 := Lib.hid (fun W h => F_106.out W (keep0_trans _ _ _ hk_110 h))
                have F_121 := Lib.hid (fun W h => F_107.out W (keep0_trans _ _ _ hk_110 h))
                have K_122 := Lib.hid (keep0_trans _ _ _ K_108.out hk_110)
                have An_123 := Lib.hid (keep0_trans _ _ _ AnQ.out hk_110)
                clear hk_110 B_97 B_98 B_99 B_100 B_101 B_102 B_103 F_104 F_105 F_106 F_107 K_108 AnQ
                clear hW
                go_wp2
                go_roundw
                case rel => exact ⟨j + 1, by omega, by go_num, An_123⟩
                case measure => simp [intOf]; omega
              · have HMQ := Lib.hid hmq
                have hd : decide (fv < qi) = false := decide_eq_false (by have := HNFj.out hmq; omega)
                clear hmq
                have c0 := B_103.out.cell 0
                have c1 := B_103.out.cell 1
                simp at c0 c1
                have clt := B_103.out.lt
                go_wp2_with fail
                refine wp_region_krip (Keep (fun _ => False)) (Keep.refl _) keep0_trans 24 (by kernel_rfl) (by kernel_rfl) (Ts := [none, some (.inl (.slice (some ⟨g, off, none⟩) ml dl)), none, none, some (.inl (.agg #[.int .i64 qa, .int .i64 qi])), some (.inl (.bool true)), none, none, some (.inl (.slice BJ mJ dJ)), none, some (.inl (.slice (some ⟨g, off, none⟩) ml dl)), none, none, none, some (.inl (.int .i64 qa)), some (.inl (.int .i64 fv)), none, some (.inl (.slice (some ⟨g, off, none⟩) ml dl)), none, none, none, some (.inl (.int .i64 qi)), none, none]) ?_
                simp only [List.take, List.drop]
                refine kAll_p (fun K hK => ?_)
                go_simp
                generalize hZ : (Act.mk _ _) = Z
                refine hK Z ?_
                subst hZ
                clear hK K
                refine kAll_dn _ (fun W hW hF => kStep_of fun K Q hK => ?_) (fun K hK => ?_)
                · have e1 := (B_103.out.drew.keep hW (fun h => h)).cell 1
                  simp at e1
                  go_simp
                  exact hK _ _ (Keep.refl _ _) rfl
                go_simp
                generalize hZ : (Act.mk _ _) = Z
                refine hK Z ?_
                subst hZ
                clear hK K
                refine kAll_p (fun K hK => ?_)
                go_simp
                generalize hZ : (Act.mk _ _) = Z
                refine hK Z ?_
                subst hZ
                clear hK K
                refine kAll_p (fun K hK => ?_)
                go_simp
                generalize hZ : (Act.mk _ _) = Z
                refine hK Z ?_
                subst hZ
                clear hK K
                refine kAll_dn _ (fun W hW hF => kStep_of fun K Q hK => ?_) (fun K hK => ?_)
                · have hp0 := HE0.out W (keepD (Keep.refl _ _) hW)
                  have hp1 := HE1.out W (keepD (Keep.refl _ _) hW)
                  go_simp
                  exact hK _ _ (Keep.refl _ _) rfl
                go_simp
                generalize hZ : (Act.mk _ _) = Z
                refine hK Z ?_
                subst hZ
                clear hK K
                refine kAll_dn _ (fun W hW hF => kStep_of fun K Q hK => ?_) (fun K hK => ?_)
                · go_simp
                  refine (mayref_any (qa, qi) W).mono ?_
                  rintro e w' ⟨rfl, hk⟩
                  rw [HMQ.out]
                  exact hK _ _ hk rfl
                go_simp
                generalize hZ : (Act.mk _ _) = Z
                refine hK Z ?_
                subst hZ
                clear hK K
                refine kAll_p (fun K hK => ?_)
                go_simp
                generalize hZ : (Act.mk _ _) = Z
                refine hK Z ?_
                subst hZ
                clear hK K
                refine kAll_pw (by kernel_rfl) (fun K hK => ?_)
                go_simp
                generalize hZ : (Act.mk _ _) = Z
                refine hK Z ?_
                subst hZ
                clear hK K
                refine kAll_dn _ (fun W hW hF => kStep_w (by kernel_rfl) fun K Q hK => ?_) (fun K hK => ?_)
                · have e1 := (B_100.out.drew.keep hW (fun h => h)).cell 1
                  simp at e1
                  go_simp
                  exact hK _ _ (Keep.refl _ _) rfl
                go_simp
                generalize hZ : (Act.mk _ _) = Z
                refine hK Z ?_
                subst hZ
                clear hK K
                refine kAll_pw (by kernel_rfl) (fun K hK => ?_)
                go_simp
                generalize hZ : (Act.mk _ _) = Z
                refine hK Z ?_
                subst hZ
                clear hK K
                refine kAll_dn _ (fun W hW hF => kStep_w (by kernel_rfl) fun K Q hK => ?_) (fun K hK => ?_)
                · have e1 := (B_103.out.drew.keep hW (fun h => h)).cell 1
                  simp at e1
                  go_simp
                  exact hK _ _ (Keep.refl _ _) rfl
                go_simp
                generalize hZ : (Act.mk _ _) = Z
                refine hK Z ?_
                subst hZ
                clear hK K
                refine kAll_pw (by kernel_rfl) (fun K hK => ?_)
                go_simp
                generalize hZ : (Act.mk _ _) = Z
                refine hK Z ?_
                subst hZ
                clear hK K
                refine kAll_pw (by kernel_rfl) (fun K hK => ?_)
                go_simp
                generalize hZ : (Act.mk _ _) = Z
                refine hK Z ?_
                subst hZ
                clear hK K
                refine kAll_pw (by kernel_rfl) (fun K hK => ?_)
                go_simp
                generalize hZ : (Act.mk _ _) = Z
                refine hK Z ?_
                subst hZ
                clear hK K
                refine kAll_dn _ (fun W hW hF => kStep_w (by kernel_rfl) fun K Q hK => ?_) (fun K hK => ?_)
                · have hp0 := HE0.out W (keepD (Keep.refl _ _) hW)
                  go_simp
                  exact hK _ _ (Keep.refl _ _) rfl
                go_simp
                generalize hZ : (Act.mk _ _) = Z
                refine hK Z ?_
                subst hZ
                clear hK K
                refine kAll_dn _ (fun W hW hF => kStep_w (by kernel_rfl) fun K Q hK => ?_) (fun K hK => ?_)
                · have h0 := F_106.out W (keepD (Keep.refl _ _) hW)
                  go_simp
                  refine (floor_is _ J.2 qa W fv (isF_of h0) LJ.out.2 HFV.out).mono ?_
                  rintro e w' ⟨rfl, hk⟩
                  exact hK _ _ hk rfl
                go_simp
                generalize hZ : (Act.mk _ _) = Z
                refine hK Z ?_
                subst hZ
                clear hK K
                refine kAll_pw (by kernel_rfl) (fun K hK => ?_)
                go_simp
                generalize hZ : (Act.mk _ _) = Z
                refine hK Z ?_
                subst hZ
                clear hK K
                refine kAll_dn _ (fun W hW hF => kStep_w (by kernel_rfl) fun K Q hK => ?_) (fun K hK => ?_)
                · have e1 := (B_103.out.drew.keep hW (fun h => h)).cell 1
                  simp at e1
                  go_simp
                  exact hK _ _ (Keep.refl _ _) rfl
                go_simp
                generalize hZ : (Act.mk _ _) = Z
                refine hK Z ?_
                subst hZ
                clear hK K
                refine kAll_pw (by kernel_rfl) (fun K hK => ?_)
                go_simp
                generalize hZ : (Act.mk _ _) = Z
                refine hK Z ?_
                subst hZ
                clear hK K
                refine kAll_pw (by kernel_rfl) (fun K hK => ?_)
                go_simp
                generalize hZ : (Act.mk _ _) = Z
                refine hK Z ?_
                subst hZ
                clear hK K
                refine kAll_pw (by kernel_rfl) (fun K hK => ?_)
                go_simp
                generalize hZ : (Act.mk _ _) = Z
                refine hK Z ?_
                subst hZ
                clear hK K
                refine kAll_dn _ (fun W hW hF => kStep_w (by kernel_rfl) fun K Q hK => ?_) (fun K hK => ?_)
                · have hp1 := HE1.out W (keepD (Keep.refl _ _) hW)
                  go_simp
                  exact hK _ _ (Keep.refl _ _) rfl
                go_simp
                generalize hZ : (Act.mk _ _) = Z
                refine hK Z ?_
                subst hZ
                clear hK K
                refine kAll_pw (by kernel_rfl) (fun K hK => ?_)
                go_simp
                generalize hZ : (Act.mk _ _) = Z
                refine hK Z ?_
                subst hZ
                clear hK K
                refine kAll_p (fun K hK => ?_)
                go_simp
                generalize hZ : (Act.mk _ _) = Z
                refine hK Z ?_
                subst hZ
                clear hK K
                refine kAll_nil (fun W124 hW hF => ?_)
                clear hF
                have hk_125 : Keep (fun _ => False) _ W124 := keepD (Keep.refl _ _) hW
                have B_126 := Lib.hid (B_97.out.keep hk_125 (fun h => h))
                have B_127 := Lib.hid (B_98.out.keep hk_125 (fun h => h))
                have B_128 := Lib.hid (B_99.out.keep hk_125 (fun h => h))
                have B_129 := Lib.hid (B_100.out.keep hk_125 (fun h => h))
                have B_130 := Lib.hid (B_101.out.keep hk_125 (fun h => h))
                have B_131 := Lib.hid (B_102.out.keep hk_125 (fun h => h))
                have B_132 := Lib.hid (B_103.out.keep hk_125 (fun h => h))
                have F_133 := Lib.hid (fun W h => F_104.out W (keep0_trans _ _ _ hk_125 h))
                have F_134 := Lib.hid (fun W h => F_105.out W (keep0_trans _ _ _ hk_125 h))
                have F_135 := Lib.hid (fun W h => F_106.out W (keep0_trans _ _ _ hk_125 h))
                have F_136 := Lib.hid (fun W h => F_107.out W (keep0_trans _ _ _ hk_125 h))
                have K_137 := Lib.hid (keep0_trans _ _ _ K_108.out hk_125)
                have An_138 := Lib.hid (keep0_trans _ _ _ AnQ.out hk_125)
                clear hk_125 B_97 B_98 B_99 B_100 B_101 B_102 B_103 F_104 F_105 F_106 F_107 K_108 AnQ
                clear hW
                go_wp2
                go_roundw
                case rel => exact ⟨j + 1, by omega, by go_num, An_138⟩
                case measure => simp [intOf]; omega
            · obtain rfl : j = ml := by omega
              have hk_139 : Keep (fun _ => False) _ wr := HKQ.out
              have B_140 := Lib.hid (B_84.out.keep hk_139 (fun h => h))
              have B_141 := Lib.hid (B_85.out.keep hk_139 (fun h => h))
              have B_142 := Lib.hid (B_86.out.keep hk_139 (fun h => h))
              have B_143 := Lib.hid (B_87.out.keep hk_139 (fun h => h))
              have B_144 := Lib.hid (B_88.out.keep hk_139 (fun h => h))
              have B_145 := Lib.hid (B_89.out.keep hk_139 (fun h => h))
              have B_146 := Lib.hid (B_82.out.keep hk_139 (fun h => h))
              have F_147 := Lib.hid (fun W h => F_90.out W (keep0_trans _ _ _ hk_139 h))
              have F_148 := Lib.hid (fun W h => F_91.out W (keep0_trans _ _ _ hk_139 h))
              have F_149 := Lib.hid (fun W h => F_92.out W (keep0_trans _ _ _ hk_139 h))
              have F_150 := Lib.hid (fun W h => F_93.out W (keep0_trans _ _ _ hk_139 h))
              have K_151 := Lib.hid (keep0_trans _ _ _ K_94.out hk_139)
              have An_152 := Lib.hid (keep0_trans _ _ _ An_95.out hk_139)
              clear hk_139 B_84 B_85 B_86 B_87 B_88 B_89 B_82 F_90 F_91 F_92 F_93 K_94 An_95
              have c0 := B_146.out.cell 0
              have c1 := B_146.out.cell 1
              simp at c0 c1
              have clt := B_146.out.lt
              go_wp2_with fail
              clear c0 c1 clt
              go_loopw [13] (fun i wz => ∃ z : Nat, z ≤ nl ∧ i = .int .i64 (z : Int) ∧ Hid (Keep (fun _ => False) wr wz)) (fun i _ => nl - (intOf i).toNat)
              case atStart => exact ⟨0, by omega, rfl, Lib.hid (Keep.refl _ _)⟩
              case round =>
                obtain ⟨z, hz, rfl, HKZ⟩ := hrel
                by_cases hlt3 : z < nl
                · have AnZ := HKZ
                  have hk_153 : Keep (fun _ => False) _ wr := HKZ.out
                  have B_154 := Lib.hid (B_140.out.keep hk_153 (fun h => h))
                  have B_155 := Lib.hid (B_141.out.keep hk_153 (fun h => h))
                  have B_156 := Lib.hid (B_142.out.keep hk_153 (fun h => h))
                  have B_157 := Lib.hid (B_143.out.keep hk_153 (fun h => h))
                  have B_158 := Lib.hid (B_144.out.keep hk_153 (fun h => h))
                  have B_159 := Lib.hid (B_145.out.keep hk_153 (fun h => h))
                  have B_160 := Lib.hid (B_146.out.keep hk_153 (fun h => h))
                  have F_161 := Lib.hid (fun W h => F_147.out W (keep0_trans _ _ _ hk_153 h))
                  have F_162 := Lib.hid (fun W h => F_148.out W (keep0_trans _ _ _ hk_153 h))
                  have F_163 := Lib.hid (fun W h => F_149.out W (keep0_trans _ _ _ hk_153 h))
                  have F_164 := Lib.hid (fun W h => F_150.out W (keep0_trans _ _ _ hk_153 h))
                  have K_165 := Lib.hid (keep0_trans _ _ _ K_151.out hk_153)
                  clear hk_153 B_140 B_141 B_142 B_143 B_144 B_145 B_146 F_147 F_148 F_149 F_150 K_151
                  have hzl : z < l.1.length := by rw [hlm.out]; exact hlt3
                  obtain ⟨g, off, hAl, q0, q1, q2, q3⟩ := (rdM_of (F_164.out _ (Keep.refl _ _))).at_ hlt3
                  have hnl2 := HNL.out (l.1.getD z zeroMem) (HL0.out.2 _ (mem_getD hzl))
                  subst hAl
                  generalize l.1.getD z zeroMem = y at *
                  obtain ⟨ya, yi, ys, yn⟩ := y
                  simp only at q0 q1 q2 q3
                  have HNLz := Lib.hid hnl2
                  clear hnl2 hzl
                  have hzI : (z : Int) < (nl : Int) := by omega
                  have hzJ : (0 : Int) ≤ (z : Int) := by omega
                  have c0 := B_160.out.cell 0
                  have c1 := B_160.out.cell 1
                  simp at c0 c1
                  have clt := B_160.out.lt
                  go_upto_region 19 with (fail)
                  clear c0 c1 clt q0 q1 q2 q3
                  have hb_166 := Blk.new wr 32 #[.int .i64 ya, .int .i64 yi, .int .u8 ys, .int .i64 yn]
                  have hq_168 : Keep (fun _ => False) wr (wr.alloc (.cells #[.int .i64 ya, .int .i64 yi, .int .u8 ys, .int .i64 yn] 32)) := (Keep.refl _ _).alloc _
                  generalize hw : wr.alloc (.cells #[.int .i64 ya, .int .i64 yi, .int .u8 ys, .int .i64 yn] 32) = w_167 at *
                  clear hw
                  have B_170 := Lib.hid hb_166
                  clear hb_166
                  have hk_171 : Keep (fun _ => False) _ w_167 := hq_168
                  have B_172 := Lib.hid (B_154.out.keep hk_171 (fun h => h))
                  have B_173 := Lib.hid (B_155.out.keep hk_171 (fun h => h))
                  have B_174 := Lib.hid (B_156.out.keep hk_171 (fun h => h))
                  have B_175 := Lib.hid (B_157.out.keep hk_171 (fun h => h))
                  have B_176 := Lib.hid (B_158.out.keep hk_171 (fun h => h))
                  have B_177 := Lib.hid (B_159.out.keep hk_171 (fun h => h))
                  have B_178 := Lib.hid (B_160.out.keep hk_171 (fun h => h))
                  have F_179 := Lib.hid (fun W h => F_161.out W (keep0_trans _ _ _ hk_171 h))
                  have F_180 := Lib.hid (fun W h => F_162.out W (keep0_trans _ _ _ hk_171 h))
                  have F_181 := Lib.hid (fun W h => F_163.out W (keep0_trans _ _ _ hk_171 h))
                  have F_182 := Lib.hid (fun W h => F_164.out W (keep0_trans _ _ _ hk_171 h))
                  have K_183 := Lib.hid (keep0_trans _ _ _ K_165.out hk_171)
                  have An_184 := Lib.hid (keep0_trans _ _ _ AnZ.out hk_171)
                  clear hk_171 B_154 B_155 B_156 B_157 B_158 B_159 B_160 F_161 F_162 F_163 F_164 K_165 AnZ
                  clear hq_168
                  have G := gID
                  by_cases hid : (ya, yi) = (pa, pi)
                  · have E : ∀ W, (binOp .neq 27 (idV (ya, yi)) (idV (pa, pi))).run Try.prog W = .ok (.bool false) W := fun W => by simpa [hid] using neq_ID (ya, yi) (pa, pi) W
                    have HID := Lib.hid hid
                    clear hid
                    have y0 := B_170.out.cell 0
                    have y1 := B_170.out.cell 1
                    have y2 := B_170.out.cell 2
                    have y3 := B_170.out.cell 3
                    simp at y0 y1 y2 y3
                    have ylt := B_170.out.lt
                    have p0 := B_174.out.cell 0
                    have p1 := B_174.out.cell 1
                    simp at p0 p1
                    have plt := B_174.out.lt
                    go_wp2_with fail
                    refine (mayref_any (pa, pi) _).mono ?_
                    rintro e v5 ⟨rfl, hk5⟩
                    clear y0 y1 y2 y3 ylt p0 p1 plt
                    have hk_185 : Keep (fun _ => False) _ v5 := hk5
                    have B_186 := Lib.hid (B_172.out.keep hk_185 (fun h => h))
                    have B_187 := Lib.hid (B_173.out.keep hk_185 (fun h => h))
                    have B_188 := Lib.hid (B_174.out.keep hk_185 (fun h => h))
                    have B_189 := Lib.hid (B_175.out.keep hk_185 (fun h => h))
                    have B_190 := Lib.hid (B_176.out.keep hk_185 (fun h => h))
                    have B_191 := Lib.hid (B_177.out.keep hk_185 (fun h => h))
                    have B_192 := Lib.hid (B_178.out.keep hk_185 (fun h => h))
                    have B_193 := Lib.hid (B_170.out.keep hk_185 (fun h => h))
                    have F_194 := Lib.hid (fun W h => F_179.out W (keep0_trans _ _ _ hk_185 h))
                    have F_195 := Lib.hid (fun W h => F_180.out W (keep0_trans _ _ _ hk_185 h))
                    have F_196 := Lib.hid (fun W h => F_181.out W (keep0_trans _ _ _ hk_185 h))
                    have F_197 := Lib.hid (fun W h => F_182.out W (keep0_trans _ _ _ hk_185 h))
                    have K_198 := Lib.hid (keep0_trans _ _ _ K_183.out hk_185)
                    have An_199 := Lib.hid (keep0_trans _ _ _ An_184.out hk_185)
                    clear hk_185 B_172 B_173 B_174 B_175 B_176 B_177 B_178 B_170 F_179 F_180 F_181 F_182 K_183 An_184
                    clear hk5
                    cases hmp : mayID (pa, pi)
                    · clear hmp
                      have y0 := B_193.out.cell 0
                      have y1 := B_193.out.cell 1
                      have y2 := B_193.out.cell 2
                      have y3 := B_193.out.cell 3
                      simp at y0 y1 y2 y3
                      have ylt := B_193.out.lt
                      have p0 := B_188.out.cell 0
                      have p1 := B_188.out.cell 1
                      simp at p0 p1
                      have plt := B_188.out.lt
                      go_wp2
                      go_roundw
                      case rel => exact ⟨z + 1, by omega, by go_num, An_199⟩
                      case measure => simp [intOf]; omega
                    · by_cases h1 : ys < 1
                      · have hd1 : decide (ys < 1) = true := decide_eq_true h1
                        clear hmp
                        have y0 := B_193.out.cell 0
                        have y1 := B_193.out.cell 1
                        have y2 := B_193.out.cell 2
                        have y3 := B_193.out.cell 3
                        simp at y0 y1 y2 y3
                        have ylt := B_193.out.lt
                        have p0 := B_188.out.cell 0
                        have p1 := B_188.out.cell 1
                        simp at p0 p1
                        have plt := B_188.out.lt
                        go_wp2
                        go_roundw
                        case rel => exact ⟨z + 1, by omega, by go_num, An_199⟩
                        case measure => simp [intOf]; omega
                      · by_cases h7 : 7 < ys
                        · have hd1 : decide (7 < ys) = true := decide_eq_true h7
                          clear hmp
                          have y0 := B_193.out.cell 0
                          have y1 := B_193.out.cell 1
                          have y2 := B_193.out.cell 2
                          have y3 := B_193.out.cell 3
                          simp at y0 y1 y2 y3
                          have ylt := B_193.out.lt
                          have p0 := B_188.out.cell 0
                          have p1 := B_188.out.cell 1
                          simp at p0 p1
                          have plt := B_188.out.lt
                          go_wp2
                          go_roundw
                          case rel => exact ⟨z + 1, by omega, by go_num, An_199⟩
                          case measure => simp [intOf]; omega
                        · have hok : okE ⟨ya, yi, ys, yn⟩ = true := by
                            simp only [okE, Bool.and_eq_true, decide_eq_true_eq]
                            exact ⟨by show mayID (ya, yi) = true; rw [HID.out, hmp], by omega⟩
                          have hn := HNLz.out hok
                          rw [show Mem.id ⟨ya, yi, ys, yn⟩ = (pa, pi) from HID.out] at hn
                          have hd1 : decide (ys < 1) = false := decide_eq_false h1
                          have hd7 : decide (7 < ys) = false := decide_eq_false h7
                          clear hmp hok
                          have hg0 := hn.1 (HG2.out trivial)
                          have HG0 := Lib.hid hg0
                          clear hg0 hn
                          have y0 := B_193.out.cell 0
                          have y1 := B_193.out.cell 1
                          have y2 := B_193.out.cell 2
                          have y3 := B_193.out.cell 3
                          simp at y0 y1 y2 y3
                          have ylt := B_193.out.lt
                          have p0 := B_188.out.cell 0
                          have p1 := B_188.out.cell 1
                          simp at p0 p1
                          have plt := B_188.out.lt
                          have c0 := B_189.out.cell 0
                          have c1 := B_189.out.cell 1
                          simp at c0 c1
                          have clt := B_189.out.lt
                          have g0 := B_190.out.cell 0
                          have g1 := B_190.out.cell 1
                          have g2 := B_190.out.cell 2
                          have g3 := B_190.out.cell 3
                          simp at g0 g1 g2 g3
                          have glt := B_190.out.lt
                          go_wp2_with fail
                          refine (gone_is _ J.2 (pa, pi) _ true (isF_of (F_196.out _ (Keep.refl _ _))) LJ.out.2 HG0.out).mono ?_
                          rintro e v6 ⟨rfl, hk6⟩
                          clear y0 y1 y2 y3 ylt p0 p1 plt c0 c1 clt g0 g1 g2 g3 glt
                          have hk_200 : Keep (fun _ => False) _ v6 := hk6
                          have B_201 := Lib.hid (B_186.out.keep hk_200 (fun h => h))
                          have B_202 := Lib.hid (B_187.out.keep hk_200 (fun h => h))
                          have B_203 := Lib.hid (B_188.out.keep hk_200 (fun h => h))
                          have B_204 := Lib.hid (B_189.out.keep hk_200 (fun h => h))
                          have B_205 := Lib.hid (B_190.out.keep hk_200 (fun h => h))
                          have B_206 := Lib.hid (B_191.out.keep hk_200 (fun h => h))
                          have B_207 := Lib.hid (B_192.out.keep hk_200 (fun h => h))
                          have B_208 := Lib.hid (B_193.out.keep hk_200 (fun h => h))
                          have F_209 := Lib.hid (fun W h => F_194.out W (keep0_trans _ _ _ hk_200 h))
                          have F_210 := Lib.hid (fun W h => F_195.out W (keep0_trans _ _ _ hk_200 h))
                          have F_211 := Lib.hid (fun W h => F_196.out W (keep0_trans _ _ _ hk_200 h))
                          have F_212 := Lib.hid (fun W h => F_197.out W (keep0_trans _ _ _ hk_200 h))
                          have K_213 := Lib.hid (keep0_trans _ _ _ K_198.out hk_200)
                          have An_214 := Lib.hid (keep0_trans _ _ _ An_199.out hk_200)
                          clear hk_200 B_186 B_187 B_188 B_189 B_190 B_191 B_192 B_193 F_194 F_195 F_196 F_197 K_198 An_199
                          clear hk6
                          go_wp2
                          go_roundw
                          case rel => exact ⟨z + 1, by omega, by go_num, An_214⟩
                          case measure => simp [intOf]; omega
                  · have E : ∀ W, (binOp .neq 27 (idV (ya, yi)) (idV (pa, pi))).run Try.prog W = .ok (.bool true) W := fun W => by simpa [hid] using neq_ID (ya, yi) (pa, pi) W
                    clear hid
                    have y0 := B_170.out.cell 0
                    have y1 := B_170.out.cell 1
                    have y2 := B_170.out.cell 2
                    have y3 := B_170.out.cell 3
                    simp at y0 y1 y2 y3
                    have ylt := B_170.out.lt
                    have p0 := B_174.out.cell 0
                    have p1 := B_174.out.cell 1
                    simp at p0 p1
                    have plt := B_174.out.lt
                    go_wp2
                    go_roundw
                    case rel => exact ⟨z + 1, by omega, by go_num, An_184⟩
                    case measure => simp [intOf]; omega
                · obtain rfl : z = nl := by omega
                  have hk_215 : Keep (fun _ => False) _ wr := HKZ.out
                  have B_216 := Lib.hid (B_140.out.keep hk_215 (fun h => h))
                  have B_217 := Lib.hid (B_141.out.keep hk_215 (fun h => h))
                  have B_218 := Lib.hid (B_142.out.keep hk_215 (fun h => h))
                  have B_219 := Lib.hid (B_143.out.keep hk_215 (fun h => h))
                  have B_220 := Lib.hid (B_144.out.keep hk_215 (fun h => h))
                  have B_221 := Lib.hid (B_145.out.keep hk_215 (fun h => h))
                  have B_222 := Lib.hid (B_146.out.keep hk_215 (fun h => h))
                  have F_223 := Lib.hid (fun W h => F_147.out W (keep0_trans _ _ _ hk_215 h))
                  have F_224 := Lib.hid (fun W h => F_148.out W (keep0_trans _ _ _ hk_215 h))
                  have F_225 := Lib.hid (fun W h => F_149.out W (keep0_trans _ _ _ hk_215 h))
                  have F_226 := Lib.hid (fun W h => F_150.out W (keep0_trans _ _ _ hk_215 h))
                  have K_227 := Lib.hid (keep0_trans _ _ _ K_151.out hk_215)
                  have An_228 := Lib.hid (keep0_trans _ _ _ An_152.out hk_215)
                  clear hk_215 B_140 B_141 B_142 B_143 B_144 B_145 B_146 F_147 F_148 F_149 F_150 K_151 An_152
                  have c0 := B_222.out.cell 0
                  have c1 := B_222.out.cell 1
                  simp at c0 c1
                  have clt := B_222.out.lt
                  go_wp2
                  go_roundw
                  case rel => exact ⟨k + 1, by omega, by go_num, An_228⟩
                  case measure => simp [intOf]; omega
        · obtain rfl : k = 2 := by omega
          have hk_229 : Keep (fun _ => False) _ wr := HKR.out
          have B_230 := Lib.hid (B_58.out.keep hk_229 (fun h => h))
          have B_231 := Lib.hid (B_59.out.keep hk_229 (fun h => h))
          have B_232 := Lib.hid (B_60.out.keep hk_229 (fun h => h))
          have B_233 := Lib.hid (B_61.out.keep hk_229 (fun h => h))
          have B_234 := Lib.hid (B_62.out.keep hk_229 (fun h => h))
          have B_235 := Lib.hid (B_56.out.keep hk_229 (fun h => h))
          have F_236 := Lib.hid (fun W h => F_63.out W (keep0_trans _ _ _ hk_229 h))
          have F_237 := Lib.hid (fun W h => F_64.out W (keep0_trans _ _ _ hk_229 h))
          have F_238 := Lib.hid (fun W h => F_65.out W (keep0_trans _ _ _ hk_229 h))
          have K_239 := Lib.hid (keep0_trans _ _ _ K_66.out hk_229)
          clear hk_229 B_58 B_59 B_60 B_61 B_62 B_56 F_63 F_64 F_65 K_66
          go_wp2
          go_ret
          exact ⟨rfl, K_239.out⟩
    · have c0 := B_47.out.cell 0
      have c1 := B_47.out.cell 1
      simp at c0 c1
      have clt := B_47.out.lt
      have d0 := B_46.out.cell 0
      have d1 := B_46.out.cell 1
      simp at d0 d1
      have dlt := B_46.out.lt
      go_wp2_with fail
      refine (gone_is _ J.2 (pa, pi) _ false (isF_of (F_50.out _ (Keep.refl _ _))) LJ.out.2 (by first | exact HGN.out rfl | exact HGN.out trivial)).mono ?_
      rintro e v3 ⟨rfl, hk3⟩
      clear c0 c1 clt d0 d1 dlt
      have hk_240 : Keep (fun _ => False) _ v3 := hk3
      have B_241 := Lib.hid (B_44.out.keep hk_240 (fun h => h))
      have B_242 := Lib.hid (B_45.out.keep hk_240 (fun h => h))
      have B_243 := Lib.hid (B_46.out.keep hk_240 (fun h => h))
      have B_244 := Lib.hid (B_47.out.keep hk_240 (fun h => h))
      have B_245 := Lib.hid (B_42.out.keep hk_240 (fun h => h))
      have F_246 := Lib.hid (fun W h => F_48.out W (keep0_trans _ _ _ hk_240 h))
      have F_247 := Lib.hid (fun W h => F_49.out W (keep0_trans _ _ _ hk_240 h))
      have F_248 := Lib.hid (fun W h => F_50.out W (keep0_trans _ _ _ hk_240 h))
      have K_249 := Lib.hid (keep0_trans _ _ _ K_51.out hk_240)
      clear hk_240 B_44 B_45 B_46 B_47 B_42 F_48 F_49 F_50 K_51
      clear hk3
      go_upto_region 7 with (fail)
      have c0 := B_241.out.cell 0
      have c1 := B_241.out.cell 1
      simp at c0 c1
      have clt := B_241.out.lt
      have d0 := B_242.out.cell 0
      have d1 := B_242.out.cell 1
      simp at d0 d1
      have dlt := B_242.out.lt
      go_wp2_with fail
      clear c0 c1 clt d0 d1 dlt
      have hb_250 := Blk.new v3 25 #[.slice Aa na ca, .slice Ba_ ma da, .slice Ab nb cb, .slice Bb_ mb db]
      have hq_252 : Keep (fun _ => False) v3 (v3.alloc (.cells #[.slice Aa na ca, .slice Ba_ ma da, .slice Ab nb cb, .slice Bb_ mb db] 25)) := (Keep.refl _ _).alloc _
      generalize hw : v3.alloc (.cells #[.slice Aa na ca, .slice Ba_ ma da, .slice Ab nb cb, .slice Bb_ mb db] 25) = w_251 at *
      clear hw
      have B_254 := Lib.hid hb_250
      clear hb_250
      have hk_255 : Keep (fun _ => False) _ w_251 := hq_252
      have B_256 := Lib.hid (B_241.out.keep hk_255 (fun h => h))
      have B_257 := Lib.hid (B_242.out.keep hk_255 (fun h => h))
      have B_258 := Lib.hid (B_243.out.keep hk_255 (fun h => h))
      have B_259 := Lib.hid (B_244.out.keep hk_255 (fun h => h))
      have B_260 := Lib.hid (B_245.out.keep hk_255 (fun h => h))
      have F_261 := Lib.hid (fun W h => F_246.out W (keep0_trans _ _ _ hk_255 h))
      have F_262 := Lib.hid (fun W h => F_247.out W (keep0_trans _ _ _ hk_255 h))
      have F_263 := Lib.hid (fun W h => F_248.out W (keep0_trans _ _ _ hk_255 h))
      have K_264 := Lib.hid (keep0_trans _ _ _ K_249.out hk_255)
      clear hk_255 B_241 B_242 B_243 B_244 B_245 F_246 F_247 F_248 K_249
      clear hq_252
      go_loopw [45] (fun i wr => ∃ k : Nat, k ≤ 2 ∧ i = .int .i64 (k : Int) ∧ Hid (Keep (fun _ => False) w_251 wr)) (fun i _ => 2 - (intOf i).toNat)
      case atStart => exact ⟨0, by omega, rfl, Lib.hid (Keep.refl _ _)⟩
      case round =>
        obtain ⟨k, hk, rfl, HKR⟩ := hrel
        by_cases hlt : k < 2
        · have AnR := HKR
          have hk_265 : Keep (fun _ => False) _ wr := HKR.out
          have B_266 := Lib.hid (B_256.out.keep hk_265 (fun h => h))
          have B_267 := Lib.hid (B_257.out.keep hk_265 (fun h => h))
          have B_268 := Lib.hid (B_258.out.keep hk_265 (fun h => h))
          have B_269 := Lib.hid (B_259.out.keep hk_265 (fun h => h))
          have B_270 := Lib.hid (B_260.out.keep hk_265 (fun h => h))
          have B_271 := Lib.hid (B_254.out.keep hk_265 (fun h => h))
          have F_272 := Lib.hid (fun W h => F_261.out W (keep0_trans _ _ _ hk_265 h))
          have F_273 := Lib.hid (fun W h => F_262.out W (keep0_trans _ _ _ hk_265 h))
          have F_274 := Lib.hid (fun W h => F_263.out W (keep0_trans _ _ _ hk_265 h))
          have K_275 := Lib.hid (keep0_trans _ _ _ K_264.out hk_265)
          clear hk_265 B_256 B_257 B_258 B_259 B_260 B_254 F_261 F_262 F_263 K_264
          obtain ⟨l, Al, nl, cl, Bl_, ml, dl, hl0, hlb, hc0, hc1, FL⟩ : ∃ (l : LI) (Al : Option Addr) (nl cl : Nat) (Bl_ : Option Addr) (ml dl : Nat), ((∀ q, q ∈ l.2 → q ∈ a.2 ∨ q ∈ b.2) ∧ (∀ y, y ∈ l.1 → y ∈ a.1 ∨ y ∈ b.1)) ∧ bigL l = false ∧ wr.cell? ⟨v3.heap.size, k * 2, none⟩ = some (.slice Al nl cl) ∧ wr.cell? ⟨v3.heap.size, k * 2 + 1, none⟩ = some (.slice Bl_ ml dl) ∧
              Hid (∀ W, Keep (fun _ => False) wr W → IsL W (.agg #[.slice Al nl cl, .slice Bl_ ml dl]) l.1 l.2) := by
            rcases (by omega : k = 0 ∨ k = 1) with rfl | rfl
            · exact ⟨a, _, _, _, _, _, _, ⟨fun q h => .inl h, fun q h => .inl h⟩, HS100.out.1, B_271.out.cell 0, B_271.out.cell 1, F_272⟩
            · exact ⟨b, _, _, _, _, _, _, ⟨fun q h => .inr h, fun q h => .inr h⟩, HS100.out.2, B_271.out.cell 2, B_271.out.cell 3, F_273⟩
          have HL0 := Lib.hid hl0
          have HLB := Lib.hid (len_100 hlb)
          clear hl0 hlb
          have h43 := B_271.out.lt
          have hkI : (k : Int) < 2 := by omega
          have hkJ : (0 : Int) ≤ (k : Int) := by omega
          go_upto_region 10 with (fail)
          clear hc0 hc1 h43
          have hb_276 := Blk.new wr 25 #[.slice Al nl cl, .slice Bl_ ml dl]
          have hq_278 : Keep (fun _ => False) wr (wr.alloc (.cells #[.slice Al nl cl, .slice Bl_ ml dl] 25)) := (Keep.refl _ _).alloc _
          generalize hw : wr.alloc (.cells #[.slice Al nl cl, .slice Bl_ ml dl] 25) = w_277 at *
          clear hw
          have B_280 := Lib.hid hb_276
          clear hb_276
          have hk_281 : Keep (fun _ => False) _ w_277 := hq_278
          have B_282 := Lib.hid (B_266.out.keep hk_281 (fun h => h))
          have B_283 := Lib.hid (B_267.out.keep hk_281 (fun h => h))
          have B_284 := Lib.hid (B_268.out.keep hk_281 (fun h => h))
          have B_285 := Lib.hid (B_269.out.keep hk_281 (fun h => h))
          have B_286 := Lib.hid (B_270.out.keep hk_281 (fun h => h))
          have B_287 := Lib.hid (B_271.out.keep hk_281 (fun h => h))
          have F_288 := Lib.hid (fun W h => F_272.out W (keep0_trans _ _ _ hk_281 h))
          have F_289 := Lib.hid (fun W h => F_273.out W (keep0_trans _ _ _ hk_281 h))
          have F_290 := Lib.hid (fun W h => F_274.out W (keep0_trans _ _ _ hk_281 h))
          have F_291 := Lib.hid (fun W h => FL.out W (keep0_trans _ _ _ hk_281 h))
          have K_292 := Lib.hid (keep0_trans _ _ _ K_275.out hk_281)
          have An_293 := Lib.hid (keep0_trans _ _ _ AnR.out hk_281)
          clear hk_281 B_266 B_267 B_268 B_269 B_270 B_271 F_272 F_273 F_274 FL K_275 AnR
          clear hq_278
          have hml : ml ≤ 100 := by have h1 := HLB.out; have h2 := (rdI_of (F_291.out _ (Keep.refl _ _))).1; omega
          have hnl : nl ≤ 100 := by have h1 := HLB.out; have h2 := (rdM_of (F_291.out _ (Keep.refl _ _))).1; omega
          have hlf := Lib.hid (rdI_of (F_291.out _ (Keep.refl _ _))).1
          have hlm := Lib.hid (rdM_of (F_291.out _ (Keep.refl _ _))).1
          go_wp2_with fail
          go_loopw [12] (fun i wq => ∃ j : Nat, j ≤ ml ∧ i = .int .i64 (j : Int) ∧ Hid (Keep (fun _ => False) w_277 wq)) (fun i _ => ml - (intOf i).toNat)
          case atStart => exact ⟨0, by omega, rfl, Lib.hid (Keep.refl _ _)⟩
          case round =>
            obtain ⟨j, hj, rfl, HKQ⟩ := hrel
            by_cases hlt2 : j < ml
            · have AnQ := HKQ
              have hk_294 : Keep (fun _ => False) _ wr := HKQ.out
              have B_295 := Lib.hid (B_282.out.keep hk_294 (fun h => h))
              have B_296 := Lib.hid (B_283.out.keep hk_294 (fun h => h))
              have B_297 := Lib.hid (B_284.out.keep hk_294 (fun h => h))
              have B_298 := Lib.hid (B_285.out.keep hk_294 (fun h => h))
              have B_299 := Lib.hid (B_286.out.keep hk_294 (fun h => h))
              have B_300 := Lib.hid (B_287.out.keep hk_294 (fun h => h))
              have B_301 := Lib.hid (B_280.out.keep hk_294 (fun h => h))
              have F_302 := Lib.hid (fun W h => F_288.out W (keep0_trans _ _ _ hk_294 h))
              have F_303 := Lib.hid (fun W h => F_289.out W (keep0_trans _ _ _ hk_294 h))
              have F_304 := Lib.hid (fun W h => F_290.out W (keep0_trans _ _ _ hk_294 h))
              have F_305 := Lib.hid (fun W h => F_291.out W (keep0_trans _ _ _ hk_294 h))
              have K_306 := Lib.hid (keep0_trans _ _ _ K_292.out hk_294)
              clear hk_294 B_282 B_283 B_284 B_285 B_286 B_287 B_280 F_288 F_289 F_290 F_291 K_292
              have hjl : j < l.2.length := by rw [hlf.out]; exact hlt2
              obtain ⟨g, off, hBl, -⟩ := (rdI_of (F_305.out _ (Keep.refl _ _))).at_ hlt2
              have HE0 : Hid (∀ W, Keep (fun _ => False) wr W → W.cell? ⟨g, off + j * 2, none⟩ = some (.int .i64 (l.2.getD j (0, 0)).1)) := Lib.hid fun W h => by
                obtain ⟨g', off', e, h0, -⟩ := (rdI_of (F_305.out W h)).at_ hlt2
                rw [hBl] at e; injection e with e; injection e with e1 e2; subst e1 e2; exact h0
              have HE1 : Hid (∀ W, Keep (fun _ => False) wr W → W.cell? ⟨g, off + j * 2 + 1, none⟩ = some (.int .i64 (l.2.getD j (0, 0)).2)) := Lib.hid fun W h => by
                obtain ⟨g', off', e, -, h1⟩ := (rdI_of (F_305.out W h)).at_ hlt2
                rw [hBl] at e; injection e with e; injection e with e1 e2; subst e1 e2; exact h1
              have hnf := HNF.out (l.2.getD j (0, 0)) (HL0.out.1 _ (mem_getD hjl))
              subst hBl
              generalize l.2.getD j (0, 0) = q at *
              obtain ⟨qa, qi⟩ := q
              simp only at hnf
              obtain ⟨fv, hfv⟩ : ∃ fv, floorT J.2 qa = fv := ⟨_, rfl⟩
              rw [hfv] at hnf
              have HFV := Lib.hid hfv
              have HNFj := Lib.hid hnf
              clear hnf hfv hjl
              have hjI : (j : Int) < (ml : Int) := by omega
              have hjJ : (0 : Int) ≤ (j : Int) := by omega
              cases hmq : mayID (qa, qi)
              · have HMQ := Lib.hid hmq
                clear hmq
                have c0 := B_301.out.cell 0
                have c1 := B_301.out.cell 1
                simp at c0 c1
                have clt := B_301.out.lt
                go_wp2_with fail
                refine wp_region_krip (Keep (fun _ => False)) (Keep.refl _) keep0_trans 24 (by kernel_rfl) (by kernel_rfl) (Ts := [none, some (.inl (.slice (some ⟨g, off, none⟩) ml dl)), none, none, some (.inl (.agg #[.int .i64 qa, .int .i64 qi])), some (.inl (.bool false)), none, none, none, none, none, none, none, none, none, none, none, none, none, none, none, none, none, none]) ?_
                simp only [List.take, List.drop]
                refine kAll_p (fun K hK => ?_)
                go_simp
                generalize hZ : (Act.mk _ _) = Z
                refine hK Z ?_
                subst hZ
                clear hK K
                refine kAll_dn _ (fun W hW hF => kStep_of fun K Q hK => ?_) (fun K hK => ?_)
                · have e1 := (B_301.out.drew.keep hW (fun h => h)).cell 1
                  simp at e1
                  go_simp
                  exact hK _ _ (Keep.refl _ _) rfl
                go_simp
                generalize hZ : (Act.mk _ _) = Z
                refine hK Z ?_
                subst hZ
                clear hK K
                refine kAll_p (fun K hK => ?_)
                go_simp
                generalize hZ : (Act.mk _ _) = Z
                refine hK Z ?_
                subst hZ
                clear hK K
                refine kAll_p (fun K hK => ?_)
                go_simp
                generalize hZ : (Act.mk _ _) = Z
                refine hK Z ?_
                subst hZ
                clear hK K
                refine kAll_dn _ (fun W hW hF => kStep_of fun K Q hK => ?_) (fun K hK => ?_)
                · have hp0 := HE0.out W (keepD (Keep.refl _ _) hW)
                  have hp1 := HE1.out W (keepD (Keep.refl _ _) hW)
                  go_simp
                  exact hK _ _ (Keep.refl _ _) rfl
                go_simp
                generalize hZ : (Act.mk _ _) = Z
                refine hK Z ?_
                subst hZ
                clear hK K
                refine kAll_dn _ (fun W hW hF => kStep_of fun K Q hK => ?_) (fun K hK => ?_)
                · go_simp
                  refine (mayref_any (qa, qi) W).mono ?_
                  rintro e w' ⟨rfl, hk⟩
                  rw [HMQ.out]
                  exact hK _ _ hk rfl
                go_simp
                generalize hZ : (Act.mk _ _) = Z
                refine hK Z ?_
                subst hZ
                clear hK K
                refine kAll_p (fun K hK => ?_)
                go_simp
                generalize hZ : (Act.mk _ _) = Z
                refine hK Z ?_
                subst hZ
                clear hK K
                refine kAll_skip (by kernel_rfl) ?_
                refine kAll_skip (by kernel_rfl) ?_
                refine kAll_skip (by kernel_rfl) ?_
                refine kAll_skip (by kernel_rfl) ?_
                refine kAll_skip (by kernel_rfl) ?_
                refine kAll_skip (by kernel_rfl) ?_
                refine kAll_skip (by kernel_rfl) ?_
                refine kAll_skip (by kernel_rfl) ?_
                refine kAll_skip (by kernel_rfl) ?_
                refine kAll_skip (by kernel_rfl) ?_
                refine kAll_skip (by kernel_rfl) ?_
                refine kAll_skip (by kernel_rfl) ?_
                refine kAll_skip (by kernel_rfl) ?_
                refine kAll_skip (by kernel_rfl) ?_
                refine kAll_skip (by kernel_rfl) ?_
                refine kAll_skip (by kernel_rfl) ?_
                refine kAll_p (fun K hK => ?_)
                go_simp
                generalize hZ : (Act.mk _ _) = Z
                refine hK Z ?_
                subst hZ
                clear hK K
                refine kAll_nil (fun W307 hW hF => ?_)
                clear hF
                have hk_308 : Keep (fun _ => False) _ W307 := keepD (Keep.refl _ _) hW
                have B_309 := Lib.hid (B_295.out.keep hk_308 (fun h => h))
                have B_310 := Lib.hid (B_296.out.keep hk_308 (fun h => h))
                have B_311 := Lib.hid (B_297.out.keep hk_308 (fun h => h))
                have B_312 := Lib.hid (B_298.out.keep hk_308 (fun h => h))
                have B_313 := Lib.hid (B_299.out.keep hk_308 (fun h => h))
                have B_314 := Lib.hid (B_300.out.keep hk_308 (fun h => h))
                have B_315 := Lib.hid (B_301.out.keep hk_308 (fun h => h))
                have F_316 := Lib.hid (fun W h => F_302.out W (keep0_trans _ _ _ hk_308 h))
                have F_317 := Lib.hid (fun W h => F_303.out W (keep0_trans _ _ _ hk_308 h))
                have F_318 := Lib.hid (fun W h => F_304.out W (keep0_trans _ _ _ hk_308 h))
                have F_319 := Lib.hid (fun W h => F_305.out W (keep0_trans _ _ _ hk_308 h))
                have K_320 := Lib.hid (keep0_trans _ _ _ K_306.out hk_308)
                have An_321 := Lib.hid (keep0_trans _ _ _ AnQ.out hk_308)
                clear hk_308 B_295 B_296 B_297 B_298 B_299 B_300 B_301 F_302 F_303 F_304 F_305 K_306 AnQ
                clear hW
                go_wp2
                go_roundw
                case rel => exact ⟨j + 1, by omega, by go_num, An_321⟩
                case measure => simp [intOf]; omega
              · have HMQ := Lib.hid hmq
                have hd : decide (fv < qi) = false := decide_eq_false (by have := HNFj.out hmq; omega)
                clear hmq
                have c0 := B_301.out.cell 0
                have c1 := B_301.out.cell 1
                simp at c0 c1
                have clt := B_301.out.lt
                go_wp2_with fail
                refine wp_region_krip (Keep (fun _ => False)) (Keep.refl _) keep0_trans 24 (by kernel_rfl) (by kernel_rfl) (Ts := [none, some (.inl (.slice (some ⟨g, off, none⟩) ml dl)), none, none, some (.inl (.agg #[.int .i64 qa, .int .i64 qi])), some (.inl (.bool true)), none, none, some (.inl (.slice BJ mJ dJ)), none, some (.inl (.slice (some ⟨g, off, none⟩) ml dl)), none, none, none, some (.inl (.int .i64 qa)), some (.inl (.int .i64 fv)), none, some (.inl (.slice (some ⟨g, off, none⟩) ml dl)), none, none, none, some (.inl (.int .i64 qi)), none, none]) ?_
                simp only [List.take, List.drop]
                refine kAll_p (fun K hK => ?_)
                go_simp
                generalize hZ : (Act.mk _ _) = Z
                refine hK Z ?_
                subst hZ
                clear hK K
                refine kAll_dn _ (fun W hW hF => kStep_of fun K Q hK => ?_) (fun K hK => ?_)
                · have e1 := (B_301.out.drew.keep hW (fun h => h)).cell 1
                  simp at e1
                  go_simp
                  exact hK _ _ (Keep.refl _ _) rfl
                go_simp
                generalize hZ : (Act.mk _ _) = Z
                refine hK Z ?_
                subst hZ
                clear hK K
                refine kAll_p (fun K hK => ?_)
                go_simp
                generalize hZ : (Act.mk _ _) = Z
                refine hK Z ?_
                subst hZ
                clear hK K
                refine kAll_p (fun K hK => ?_)
                go_simp
                generalize hZ : (Act.mk _ _) = Z
                refine hK Z ?_
                subst hZ
                clear hK K
                refine kAll_dn _ (fun W hW hF => kStep_of fun K Q hK => ?_) (fun K hK => ?_)
                · have hp0 := HE0.out W (keepD (Keep.refl _ _) hW)
                  have hp1 := HE1.out W (keepD (Keep.refl _ _) hW)
                  go_simp
                  exact hK _ _ (Keep.refl _ _) rfl
                go_simp
                generalize hZ : (Act.mk _ _) = Z
                refine hK Z ?_
                subst hZ
                clear hK K
                refine kAll_dn _ (fun W hW hF => kStep_of fun K Q hK => ?_) (fun K hK => ?_)
                · go_simp
                  refine (mayref_any (qa, qi) W).mono ?_
                  rintro e w' ⟨rfl, hk⟩
                  rw [HMQ.out]
                  exact hK _ _ hk rfl
                go_simp
                generalize hZ : (Act.mk _ _) = Z
                refine hK Z ?_
                subst hZ
                clear hK K
                refine kAll_p (fun K hK => ?_)
                go_simp
                generalize hZ : (Act.mk _ _) = Z
                refine hK Z ?_
                subst hZ
                clear hK K
                refine kAll_pw (by kernel_rfl) (fun K hK => ?_)
                go_simp
                generalize hZ : (Act.mk _ _) = Z
                refine hK Z ?_
                subst hZ
                clear hK K
                refine kAll_dn _ (fun W hW hF => kStep_w (by kernel_rfl) fun K Q hK => ?_) (fun K hK => ?_)
                · have e1 := (B_298.out.drew.keep hW (fun h => h)).cell 1
                  simp at e1
                  go_simp
                  exact hK _ _ (Keep.refl _ _) rfl
                go_simp
                generalize hZ : (Act.mk _ _) = Z
                refine hK Z ?_
                subst hZ
                clear hK K
                refine kAll_pw (by kernel_rfl) (fun K hK => ?_)
                go_simp
                generalize hZ : (Act.mk _ _) = Z
                refine hK Z ?_
                subst hZ
                clear hK K
                refine kAll_dn _ (fun W hW hF => kStep_w (by kernel_rfl) fun K Q hK => ?_) (fun K hK => ?_)
                · have e1 := (B_301.out.drew.keep hW (fun h => h)).cell 1
                  simp at e1
                  go_simp
                  exact hK _ _ (Keep.refl _ _) rfl
                go_simp
                generalize hZ : (Act.mk _ _) = Z
                refine hK Z ?_
                subst hZ
                clear hK K
                refine kAll_pw (by kernel_rfl) (fun K hK => ?_)
                go_simp
                generalize hZ : (Act.mk _ _) = Z
                refine hK Z ?_
                subst hZ
                clear hK K
                refine kAll_pw (by kernel_rfl) (fun K hK => ?_)
                go_simp
                generalize hZ : (Act.mk _ _) = Z
                refine hK Z ?_
                subst hZ
                clear hK K
                refine kAll_pw (by kernel_rfl) (fun K hK => ?_)
                go_simp
                generalize hZ : (Act.mk _ _) = Z
                refine hK Z ?_
                subst hZ
                clear hK K
                refine kAll_dn _ (fun W hW hF => kStep_w (by kernel_rfl) fun K Q hK => ?_) (fun K hK => ?_)
                · have hp0 := HE0.out W (keepD (Keep.refl _ _) hW)
                  go_simp
                  exact hK _ _ (Keep.refl _ _) rfl
                go_simp
                generalize hZ : (Act.mk _ _) = Z
                refine hK Z ?_
                subst hZ
                clear hK K
                refine kAll_dn _ (fun W hW hF => kStep_w (by kernel_rfl) fun K Q hK => ?_) (fun K hK => ?_)
                · have h0 := F_304.out W (keepD (Keep.refl _ _) hW)
                  go_simp
                  refine (floor_is _ J.2 qa W fv (isF_of h0) LJ.out.2 HFV.out).mono ?_
                  rintro e w' ⟨rfl, hk⟩
                  exact hK _ _ hk rfl
                go_simp
                generalize hZ : (Act.mk _ _) = Z
                refine hK Z ?_
                subst hZ
                clear hK K
                refine kAll_pw (by kernel_rfl) (fun K hK => ?_)
                go_simp
                generalize hZ : (Act.mk _ _) = Z
                refine hK Z ?_
                subst hZ
                clear hK K
                refine kAll_dn _ (fun W hW hF => kStep_w (by kernel_rfl) fun K Q hK => ?_) (fun K hK => ?_)
                · have e1 := (B_301.out.drew.keep hW (fun h => h)).cell 1
                  simp at e1
                  go_simp
                  exact hK _ _ (Keep.refl _ _) rfl
                go_simp
                generalize hZ : (Act.mk _ _) = Z
                refine hK Z ?_
                subst hZ
                clear hK K
                refine kAll_pw (by kernel_rfl) (fun K hK => ?_)
                go_simp
                generalize hZ : (Act.mk _ _) = Z
                refine hK Z ?_
                subst hZ
                clear hK K
                refine kAll_pw (by kernel_rfl) (fun K hK => ?_)
                go_simp
                generalize hZ : (Act.mk _ _) = Z
                refine hK Z ?_
                subst hZ
                clear hK K
                refine kAll_pw (by kernel_rfl) (fun K hK => ?_)
                go_simp
                generalize hZ : (Act.mk _ _) = Z
                refine hK Z ?_
                subst hZ
                clear hK K
                refine kAll_dn _ (fun W hW hF => kStep_w (by kernel_rfl) fun K Q hK => ?_) (fun K hK => ?_)
                · have hp1 := HE1.out W (keepD (Keep.refl _ _) hW)
                  go_simp
                  exact hK _ _ (Keep.refl _ _) rfl
                go_simp
                generalize hZ : (Act.mk _ _) = Z
                refine hK Z ?_
                subst hZ
                clear hK K
                refine kAll_pw (by kernel_rfl) (fun K hK => ?_)
                go_simp
                generalize hZ : (Act.mk _ _) = Z
                refine hK Z ?_
                subst hZ
                clear hK K
                refine kAll_p (fun K hK => ?_)
                go_simp
                generalize hZ : (Act.mk _ _) = Z
                refine hK Z ?_
                subst hZ
                clear hK K
                refine kAll_nil (fun W322 hW hF => ?_)
                clear hF
                have hk_323 : Keep (fun _ => False) _ W322 := keepD (Keep.refl _ _) hW
                have B_324 := Lib.hid (B_295.out.keep hk_323 (fun h => h))
                have B_325 := Lib.hid (B_296.out.keep hk_323 (fun h => h))
                have B_326 := Lib.hid (B_297.out.keep hk_323 (fun h => h))
                have B_327 := Lib.hid (B_298.out.keep hk_323 (fun h => h))
                have B_328 := Lib.hid (B_299.out.keep hk_323 (fun h => h))
                have B_329 := Lib.hid (B_300.out.keep hk_323 (fun h => h))
                have B_330 := Lib.hid (B_301.out.keep hk_323 (fun h => h))
                have F_331 := Lib.hid (fun W h => F_302.out W (keep0_trans _ _ _ hk_323 h))
                have F_332 := Lib.hid (fun W h => F_303.out W (keep0_trans _ _ _ hk_323 h))
                have F_333 := Lib.hid (fun W h => F_304.out W (keep0_trans _ _ _ hk_323 h))
                have F_334 := Lib.hid (fun W h => F_305.out W (keep0_trans _ _ _ hk_323 h))
                have K_335 := Lib.hid (keep0_trans _ _ _ K_306.out hk_323)
                have An_336 := Lib.hid (keep0_trans _ _ _ AnQ.out hk_323)
                clear hk_323 B_295 B_296 B_297 B_298 B_299 B_300 B_301 F_302 F_303 F_304 F_305 K_306 AnQ
                clear hW
                go_wp2
                go_roundw
                case rel => exact ⟨j + 1, by omega, by go_num, An_336⟩
                case measure => simp [intOf]; omega
            · obtain rfl : j = ml := by omega
              have hk_337 : Keep (fun _ => False) _ wr := HKQ.out
              have B_338 := Lib.hid (B_282.out.keep hk_337 (fun h => h))
              have B_339 := Lib.hid (B_283.out.keep hk_337 (fun h => h))
              have B_340 := Lib.hid (B_284.out.keep hk_337 (fun h => h))
              have B_341 := Lib.hid (B_285.out.keep hk_337 (fun h => h))
              have B_342 := Lib.hid (B_286.out.keep hk_337 (fun h => h))
              have B_343 := Lib.hid (B_287.out.keep hk_337 (fun h => h))
              have B_344 := Lib.hid (B_280.out.keep hk_337 (fun h => h))
              have F_345 := Lib.hid (fun W h => F_288.out W (keep0_trans _ _ _ hk_337 h))
              have F_346 := Lib.hid (fun W h => F_289.out W (keep0_trans _ _ _ hk_337 h))
              have F_347 := Lib.hid (fun W h => F_290.out W (keep0_trans _ _ _ hk_337 h))
              have F_348 := Lib.hid (fun W h => F_291.out W (keep0_trans _ _ _ hk_337 h))
              have K_349 := Lib.hid (keep0_trans _ _ _ K_292.out hk_337)
              have An_350 := Lib.hid (keep0_trans _ _ _ An_293.out hk_337)
              clear hk_337 B_282 B_283 B_284 B_285 B_286 B_287 B_280 F_288 F_289 F_290 F_291 K_292 An_293
              have c0 := B_344.out.cell 0
              have c1 := B_344.out.cell 1
              simp at c0 c1
              have clt := B_344.out.lt
              go_wp2_with fail
              clear c0 c1 clt
              go_loopw [13] (fun i wz => ∃ z : Nat, z ≤ nl ∧ i = .int .i64 (z : Int) ∧ Hid (Keep (fun _ => False) wr wz)) (fun i _ => nl - (intOf i).toNat)
              case atStart => exact ⟨0, by omega, rfl, Lib.hid (Keep.refl _ _)⟩
              case round =>
                obtain ⟨z, hz, rfl, HKZ⟩ := hrel
                by_cases hlt3 : z < nl
                · have AnZ := HKZ
                  have hk_351 : Keep (fun _ => False) _ wr := HKZ.out
                  have B_352 := Lib.hid (B_338.out.keep hk_351 (fun h => h))
                  have B_353 := Lib.hid (B_339.out.keep hk_351 (fun h => h))
                  have B_354 := Lib.hid (B_340.out.keep hk_351 (fun h => h))
                  have B_355 := Lib.hid (B_341.out.keep hk_351 (fun h => h))
                  have B_356 := Lib.hid (B_342.out.keep hk_351 (fun h => h))
                  have B_357 := Lib.hid (B_343.out.keep hk_351 (fun h => h))
                  have B_358 := Lib.hid (B_344.out.keep hk_351 (fun h => h))
                  have F_359 := Lib.hid (fun W h => F_345.out W (keep0_trans _ _ _ hk_351 h))
                  have F_360 := Lib.hid (fun W h => F_346.out W (keep0_trans _ _ _ hk_351 h))
                  have F_361 := Lib.hid (fun W h => F_347.out W (keep0_trans _ _ _ hk_351 h))
                  have F_362 := Lib.hid (fun W h => F_348.out W (keep0_trans _ _ _ hk_351 h))
                  have K_363 := Lib.hid (keep0_trans _ _ _ K_349.out hk_351)
                  clear hk_351 B_338 B_339 B_340 B_341 B_342 B_343 B_344 F_345 F_346 F_347 F_348 K_349
                  have hzl : z < l.1.length := by rw [hlm.out]; exact hlt3
                  obtain ⟨g, off, hAl, q0, q1, q2, q3⟩ := (rdM_of (F_362.out _ (Keep.refl _ _))).at_ hlt3
                  have hnl2 := HNL.out (l.1.getD z zeroMem) (HL0.out.2 _ (mem_getD hzl))
                  subst hAl
                  generalize l.1.getD z zeroMem = y at *
                  obtain ⟨ya, yi, ys, yn⟩ := y
                  simp only at q0 q1 q2 q3
                  have HNLz := Lib.hid hnl2
                  clear hnl2 hzl
                  have hzI : (z : Int) < (nl : Int) := by omega
                  have hzJ : (0 : Int) ≤ (z : Int) := by omega
                  have c0 := B_358.out.cell 0
                  have c1 := B_358.out.cell 1
                  simp at c0 c1
                  have clt := B_358.out.lt
                  go_upto_region 19 with (fail)
                  clear c0 c1 clt q0 q1 q2 q3
                  have hb_364 := Blk.new wr 32 #[.int .i64 ya, .int .i64 yi, .int .u8 ys, .int .i64 yn]
                  have hq_366 : Keep (fun _ => False) wr (wr.alloc (.cells #[.int .i64 ya, .int .i64 yi, .int .u8 ys, .int .i64 yn] 32)) := (Keep.refl _ _).alloc _
                  generalize hw : wr.alloc (.cells #[.int .i64 ya, .int .i64 yi, .int .u8 ys, .int .i64 yn] 32) = w_365 at *
                  clear hw
                  have B_368 := Lib.hid hb_364
                  clear hb_364
                  have hk_369 : Keep (fun _ => False) _ w_365 := hq_366
                  have B_370 := Lib.hid (B_352.out.keep hk_369 (fun h => h))
                  have B_371 := Lib.hid (B_353.out.keep hk_369 (fun h => h))
                  have B_372 := Lib.hid (B_354.out.keep hk_369 (fun h => h))
                  have B_373 := Lib.hid (B_355.out.keep hk_369 (fun h => h))
                  have B_374 := Lib.hid (B_356.out.keep hk_369 (fun h => h))
                  have B_375 := Lib.hid (B_357.out.keep hk_369 (fun h => h))
                  have B_376 := Lib.hid (B_358.out.keep hk_369 (fun h => h))
                  have F_377 := Lib.hid (fun W h => F_359.out W (keep0_trans _ _ _ hk_369 h))
                  have F_378 := Lib.hid (fun W h => F_360.out W (keep0_trans _ _ _ hk_369 h))
                  have F_379 := Lib.hid (fun W h => F_361.out W (keep0_trans _ _ _ hk_369 h))
                  have F_380 := Lib.hid (fun W h => F_362.out W (keep0_trans _ _ _ hk_369 h))
                  have K_381 := Lib.hid (keep0_trans _ _ _ K_363.out hk_369)
                  have An_382 := Lib.hid (keep0_trans _ _ _ AnZ.out hk_369)
                  clear hk_369 B_352 B_353 B_354 B_355 B_356 B_357 B_358 F_359 F_360 F_361 F_362 K_363 AnZ
                  clear hq_366
                  have G := gID
                  by_cases hid : (ya, yi) = (pa, pi)
                  · have E : ∀ W, (binOp .neq 27 (idV (ya, yi)) (idV (pa, pi))).run Try.prog W = .ok (.bool false) W := fun W => by simpa [hid] using neq_ID (ya, yi) (pa, pi) W
                    have HID := Lib.hid hid
                    clear hid
                    have y0 := B_368.out.cell 0
                    have y1 := B_368.out.cell 1
                    have y2 := B_368.out.cell 2
                    have y3 := B_368.out.cell 3
                    simp at y0 y1 y2 y3
                    have ylt := B_368.out.lt
                    have p0 := B_372.out.cell 0
                    have p1 := B_372.out.cell 1
                    simp at p0 p1
                    have plt := B_372.out.lt
                    go_wp2_with fail
                    refine (mayref_any (pa, pi) _).mono ?_
                    rintro e v5 ⟨rfl, hk5⟩
                    clear y0 y1 y2 y3 ylt p0 p1 plt
                    have hk_383 : Keep (fun _ => False) _ v5 := hk5
                    have B_384 := Lib.hid (B_370.out.keep hk_383 (fun h => h))
                    have B_385 := Lib.hid (B_371.out.keep hk_383 (fun h => h))
                    have B_386 := Lib.hid (B_372.out.keep hk_383 (fun h => h))
                    have B_387 := Lib.hid (B_373.out.keep hk_383 (fun h => h))
                    have B_388 := Lib.hid (B_374.out.keep hk_383 (fun h => h))
                    have B_389 := Lib.hid (B_375.out.keep hk_383 (fun h => h))
                    have B_390 := Lib.hid (B_376.out.keep hk_383 (fun h => h))
                    have B_391 := Lib.hid (B_368.out.keep hk_383 (fun h => h))
                    have F_392 := Lib.hid (fun W h => F_377.out W (keep0_trans _ _ _ hk_383 h))
                    have F_393 := Lib.hid (fun W h => F_378.out W (keep0_trans _ _ _ hk_383 h))
                    have F_394 := Lib.hid (fun W h => F_379.out W (keep0_trans _ _ _ hk_383 h))
                    have F_395 := Lib.hid (fun W h => F_380.out W (keep0_trans _ _ _ hk_383 h))
                    have K_396 := Lib.hid (keep0_trans _ _ _ K_381.out hk_383)
                    have An_397 := Lib.hid (keep0_trans _ _ _ An_382.out hk_383)
                    clear hk_383 B_370 B_371 B_372 B_373 B_374 B_375 B_376 B_368 F_377 F_378 F_379 F_380 K_381 An_382
                    clear hk5
                    cases hmp : mayID (pa, pi)
                    · clear hmp
                      have y0 := B_391.out.cell 0
                      have y1 := B_391.out.cell 1
                      have y2 := B_391.out.cell 2
                      have y3 := B_391.out.cell 3
                      simp at y0 y1 y2 y3
                      have ylt := B_391.out.lt
                      have p0 := B_386.out.cell 0
                      have p1 := B_386.out.cell 1
                      simp at p0 p1
                      have plt := B_386.out.lt
                      go_wp2
                      go_roundw
                      case rel => exact ⟨z + 1, by omega, by go_num, An_397⟩
                      case measure => simp [intOf]; omega
                    · by_cases h1 : ys < 1
                      · have hd1 : decide (ys < 1) = true := decide_eq_true h1
                        clear hmp
                        have y0 := B_391.out.cell 0
                        have y1 := B_391.out.cell 1
                        have y2 := B_391.out.cell 2
                        have y3 := B_391.out.cell 3
                        simp at y0 y1 y2 y3
                        have ylt := B_391.out.lt
                        have p0 := B_386.out.cell 0
                        have p1 := B_386.out.cell 1
                        simp at p0 p1
                        have plt := B_386.out.lt
                        go_wp2
                        go_roundw
                        case rel => exact ⟨z + 1, by omega, by go_num, An_397⟩
                        case measure => simp [intOf]; omega
                      · by_cases h7 : 7 < ys
                        · have hd1 : decide (7 < ys) = true := decide_eq_true h7
                          clear hmp
                          have y0 := B_391.out.cell 0
                          have y1 := B_391.out.cell 1
                          have y2 := B_391.out.cell 2
                          have y3 := B_391.out.cell 3
                          simp at y0 y1 y2 y3
                          have ylt := B_391.out.lt
                          have p0 := B_386.out.cell 0
                          have p1 := B_386.out.cell 1
                          simp at p0 p1
                          have plt := B_386.out.lt
                          go_wp2
                          go_roundw
                          case rel => exact ⟨z + 1, by omega, by go_num, An_397⟩
                          case measure => simp [intOf]; omega
                        · have hok : okE ⟨ya, yi, ys, yn⟩ = true := by
                            simp only [okE, Bool.and_eq_true, decide_eq_true_eq]
                            exact ⟨by show mayID (ya, yi) = true; rw [HID.out, hmp], by omega⟩
                          have hn := HNLz.out hok
                          rw [show Mem.id ⟨ya, yi, ys, yn⟩ = (pa, pi) from HID.out] at hn
                          have hd1 : decide (ys < 1) = false := decide_eq_false h1
                          have hd7 : decide (7 < ys) = false := decide_eq_false h7
                          clear hmp hok
                          have hg0 : ys ≤ gs ∧ (0 < yn → gn ≤ yn ∧ gn ≠ 0) := hn.2 _ (HG1.out trivial)
                          have hd2 : decide (gs < ys) = false := decide_eq_false (by omega)
                          by_cases hy : 0 < yn
                          · have hg1 := hg0.2 hy
                            have hd3 : decide (0 < yn) = true := decide_eq_true hy
                            have hd4 : decide (yn < gn) = false := decide_eq_false (by omega)
                            have hd5 : (gn == 0) = false := by simpa using hg1.2
                            clear hg0 hg1 hn hy
                            have y0 := B_391.out.cell 0
                            have y1 := B_391.out.cell 1
                            have y2 := B_391.out.cell 2
                            have y3 := B_391.out.cell 3
                            simp at y0 y1 y2 y3
                            have ylt := B_391.out.lt
                            have p0 := B_386.out.cell 0
                            have p1 := B_386.out.cell 1
                            simp at p0 p1
                            have plt := B_386.out.lt
                            have c0 := B_387.out.cell 0
                            have c1 := B_387.out.cell 1
                            simp at c0 c1
                            have clt := B_387.out.lt
                            have g0 := B_388.out.cell 0
                            have g1 := B_388.out.cell 1
                            have g2 := B_388.out.cell 2
                            have g3 := B_388.out.cell 3
                            simp at g0 g1 g2 g3
                            have glt := B_388.out.lt
                            go_wp2
                            go_roundw
                            case rel => exact ⟨z + 1, by omega, by go_num, An_397⟩
                            case measure => simp [intOf]; omega
                          · have hd3 : decide (0 < yn) = false := decide_eq_false hy
                            clear hg0 hn hy
                            have y0 := B_391.out.cell 0
                            have y1 := B_391.out.cell 1
                            have y2 := B_391.out.cell 2
                            have y3 := B_391.out.cell 3
                            simp at y0 y1 y2 y3
                            have ylt := B_391.out.lt
                            have p0 := B_386.out.cell 0
                            have p1 := B_386.out.cell 1
                            simp at p0 p1
                            have plt := B_386.out.lt
                            have c0 := B_387.out.cell 0
                            have c1 := B_387.out.cell 1
                            simp at c0 c1
                            have clt := B_387.out.lt
                            have g0 := B_388.out.cell 0
                            have g1 := B_388.out.cell 1
                            have g2 := B_388.out.cell 2
                            have g3 := B_388.out.cell 3
                            simp at g0 g1 g2 g3
                            have glt := B_388.out.lt
                            go_wp2
                            go_roundw
                            case rel => exact ⟨z + 1, by omega, by go_num, An_397⟩
                            case measure => simp [intOf]; omega
                  · have E : ∀ W, (binOp .neq 27 (idV (ya, yi)) (idV (pa, pi))).run Try.prog W = .ok (.bool true) W := fun W => by simpa [hid] using neq_ID (ya, yi) (pa, pi) W
                    clear hid
                    have y0 := B_368.out.cell 0
                    have y1 := B_368.out.cell 1
                    have y2 := B_368.out.cell 2
                    have y3 := B_368.out.cell 3
                    simp at y0 y1 y2 y3
                    have ylt := B_368.out.lt
                    have p0 := B_372.out.cell 0
                    have p1 := B_372.out.cell 1
                    simp at p0 p1
                    have plt := B_372.out.lt
                    go_wp2
                    go_roundw
                    case rel => exact ⟨z + 1, by omega, by go_num, An_382⟩
                    case measure => simp [intOf]; omega
                · obtain rfl : z = nl := by omega
                  have hk_398 : Keep (fun _ => False) _ wr := HKZ.out
                  have B_399 := Lib.hid (B_338.out.keep hk_398 (fun h => h))
                  have B_400 := Lib.hid (B_339.out.keep hk_398 (fun h => h))
                  have B_401 := Lib.hid (B_340.out.keep hk_398 (fun h => h))
                  have B_402 := Lib.hid (B_341.out.keep hk_398 (fun h => h))
                  have B_403 := Lib.hid (B_342.out.keep hk_398 (fun h => h))
                  have B_404 := Lib.hid (B_343.out.keep hk_398 (fun h => h))
                  have B_405 := Lib.hid (B_344.out.keep hk_398 (fun h => h))
                  have F_406 := Lib.hid (fun W h => F_345.out W (keep0_trans _ _ _ hk_398 h))
                  have F_407 := Lib.hid (fun W h => F_346.out W (keep0_trans _ _ _ hk_398 h))
                  have F_408 := Lib.hid (fun W h => F_347.out W (keep0_trans _ _ _ hk_398 h))
                  have F_409 := Lib.hid (fun W h => F_348.out W (keep0_trans _ _ _ hk_398 h))
                  have K_410 := Lib.hid (keep0_trans _ _ _ K_349.out hk_398)
                  have An_411 := Lib.hid (keep0_trans _ _ _ An_350.out hk_398)
                  clear hk_398 B_338 B_339 B_340 B_341 B_342 B_343 B_344 F_345 F_346 F_347 F_348 K_349 An_350
                  have c0 := B_405.out.cell 0
                  have c1 := B_405.out.cell 1
                  simp at c0 c1
                  have clt := B_405.out.lt
                  go_wp2
                  go_roundw
                  case rel => exact ⟨k + 1, by omega, by go_num, An_411⟩
                  case measure => simp [intOf]; omega
        · obtain rfl : k = 2 := by omega
          have hk_412 : Keep (fun _ => False) _ wr := HKR.out
          have B_413 := Lib.hid (B_256.out.keep hk_412 (fun h => h))
          have B_414 := Lib.hid (B_257.out.keep hk_412 (fun h => h))
          have B_415 := Lib.hid (B_258.out.keep hk_412 (fun h => h))
          have B_416 := Lib.hid (B_259.out.keep hk_412 (fun h => h))
          have B_417 := Lib.hid (B_260.out.keep hk_412 (fun h => h))
          have B_418 := Lib.hid (B_254.out.keep hk_412 (fun h => h))
          have F_419 := Lib.hid (fun W h => F_261.out W (keep0_trans _ _ _ hk_412 h))
          have F_420 := Lib.hid (fun W h => F_262.out W (keep0_trans _ _ _ hk_412 h))
          have F_421 := Lib.hid (fun W h => F_263.out W (keep0_trans _ _ _ hk_412 h))
          have K_422 := Lib.hid (keep0_trans _ _ _ K_264.out hk_412)
          clear hk_412 B_256 B_257 B_258 B_259 B_260 B_254 F_261 F_262 F_263 K_264
          go_wp2
          go_ret
          exact ⟨rfl, K_422.out⟩
  · have HBig := Lib.hid hbig
    clear hbig
    refine wp_region_kord (Keep (fun _ => False)) (Keep.refl _) keep0_trans 8 (Ts := [some (.inl (.bool true)), none, none, some (.inl (.agg #[.slice Aa na ca, .slice Ba_ ma da])), some (.inl (.agg #[.slice Ab nb cb, .slice Bb_ mb db])), some (.inr (fun v W => IsLv W v [a, b])), some (.inl (.bool true)), none]) ?_
    simp only [List.take, List.drop]
    refine kAll_dn _ (fun W hW hF => kStep_of fun K Q hK => ?_) (fun K hK => ?_)
    · go_simp
      refine (works_any W).mono ?_
      rintro e w' ⟨rfl, hk⟩
      exact hK _ _ hk rfl
    go_simp
    generalize hZ : (Act.mk _ _) = Z
    refine hK Z ?_
    subst hZ
    clear hK K
    refine kAll_p (fun K hK => ?_)
    go_simp
    generalize hZ : (Act.mk _ _) = Z
    refine hK Z ?_
    subst hZ
    clear hK K
    refine kAll_p (fun K hK => ?_)
    go_simp
    generalize hZ : (Act.mk _ _) = Z
    refine hK Z ?_
    subst hZ
    clear hK K
    refine kAll_dn _ (fun W hW hF => kStep_w (by kernel_rfl) fun K Q hK => ?_) (fun K hK => ?_)
    · have e0 := (B3.out.keep hW (fun h => h)).cell 0
      have e1 := (B3.out.keep hW (fun h => h)).cell 1
      simp at e0 e1
      go_simp
      exact hK _ _ (Keep.refl _ _) rfl
    go_simp
    generalize hZ : (Act.mk _ _) = Z
    refine hK Z ?_
    subst hZ
    clear hK K
    refine kAll_dn _ (fun W hW hF => kStep_w (by kernel_rfl) fun K Q hK => ?_) (fun K hK => ?_)
    · have e0 := (B4.out.keep hW (fun h => h)).cell 0
      have e1 := (B4.out.keep hW (fun h => h)).cell 1
      simp at e0 e1
      go_simp
      exact hK _ _ (Keep.refl _ _) rfl
    go_simp
    generalize hZ : (Act.mk _ _) = Z
    refine hK Z ?_
    subst hZ
    clear hK K
    refine kAll_tn _ (fun v W W' hk h => h.keep0 hk) (fun W hW hF => kStep_w (by kernel_rfl) fun K Q hK => ?_) (fun u0 K hK => ?_)
    · have h0 := FA.out W (hW)
      have h1 := FB.out W (hW)
      go_simp
      exact hK _ _ ((Keep.refl _ _).alloc _) (isLv2 h0 h1)
    go_simp
    generalize hZ : (Act.mk _ _) = Z
    refine hK Z ?_
    subst hZ
    clear hK K
    refine kAll_dn _ (fun W hW hF => kStep_w (by kernel_rfl) fun K Q hK => ?_) (fun K hK => ?_)
    · have h0 : (fun v W => IsLv W v [a, b]) u0 W := kHas_at hF 0 rfl (by kernel_rfl)
      obtain ⟨A9, n9, c9, rfl, h9⟩ := h0
      go_simp
      refine (large_is _ [a, b] W true ⟨_, _, _, rfl, h9⟩ (by simp) HBig.out).mono ?_
      rintro e w' ⟨rfl, hk⟩
      exact hK _ _ hk rfl
    go_simp
    generalize hZ : (Act.mk _ _) = Z
    refine hK Z ?_
    subst hZ
    clear hK K
    refine kAll_p (fun K hK => ?_)
    go_simp
    generalize hZ : (Act.mk _ _) = Z
    refine hK Z ?_
    subst hZ
    clear hK K
    refine kAll_nil (fun W1 hW hF => ?_)
    clear hF
    have hk_2 : Keep (fun _ => False) _ W1 := hW
    have B_3 := Lib.hid (B3.out.keep hk_2 (fun h => h))
    have B_4 := Lib.hid (B4.out.keep hk_2 (fun h => h))
    have B_5 := Lib.hid (B5.out.keep hk_2 (fun h => h))
    have F_6 := Lib.hid (fun W h => FA.out W (keep0_trans _ _ _ hk_2 h))
    have F_7 := Lib.hid (fun W h => FB.out W (keep0_trans _ _ _ hk_2 h))
    have K_8 := Lib.hid (keep0_trans _ _ _ K0.out hk_2)
    clear hk_2 B3 B4 B5 FA FB K0
    clear hW
    go_wp2_with fail
    refine (works_any _).mono ?_
    rintro e w2 ⟨rfl, hk⟩
    have KZ := Lib.hid (keep0_trans _ _ _ K_8.out hk)
    clear hk
    go_wp2
    go_ret
    exact ⟨rfl, KZ.out⟩

theorem walkRosterNever {w : World} (v0 : Value) (w0 : InL w v0) (v1 : Value) (w1 : InL w v1) (v2 : Value) (w2 : InId w v2) :
    Calls Try.prog 3 #[v0, v1, v2] w fun e w' => e = .returned (.bool true) ∧ Below w.heap.size w w' := by
  obtain ⟨a, ha, _, _⟩ := w0
  obtain ⟨b, hb, _, _⟩ := w1
  obtain ⟨p, rfl⟩ := w2
  exact (rnever_any _ _ a b p w ha hb).mono fun e w' ⟨he, hk⟩ => ⟨he, hk.b⟩
end Go.Proofs.Ythlfgjlnjmjppaa
