/-
  Roster: RosterMay. Written by gen_rmay.py.
-/
import Derived.Test.YthlfgjlnjmjppaaRosV
namespace Go.Proofs.Ythlfgjlnjmjppaa
open Go.RowKit
attribute [local irreducible] kAll
attribute [local go_sem] kQuiet kQuietUpon


theorem mem_set_no : ∀ (L : List Mem) (k : Nat), k < L.length → ∀ v : Int, (L.flatMap cMem).set (k * 4 + 3) (.int .i64 v) = (L.set k { L.getD k zeroMem with no := v }).flatMap cMem
  | y :: l, 0, _, v => by simp [List.getD]
  | y :: l, i + 1, h, v => by
    have ih := mem_set_no l i (by simpa using h) v
    rw [List.set_cons_succ, List.flatMap_cons, List.flatMap_cons, List.getD_cons_succ, ← ih, show (i + 1) * 4 + 3 = (cMem y).length + (i * 4 + 3) by simp; omega, List.set_append_right _ _ (by omega), Nat.add_sub_cancel_left]
theorem set_fix {L M : List Mem} {k : Nat} (hk : k < L.length) (hg : ∀ j, j < M.length → L.getD j zeroMem = if j < k then fixNo (M.getD j zeroMem) else M.getD j zeroMem) (hl : L.length = M.length) :
    ∀ y, y = fixNo (M.getD k zeroMem) → (L.set k y).length = M.length ∧ ∀ j, j < M.length → (L.set k y).getD j zeroMem = if j < k + 1 then fixNo (M.getD j zeroMem) else M.getD j zeroMem := by
  rintro y rfl
  refine ⟨by simpa using hl, fun j hj => ?_⟩
  by_cases e : j = k
  · subst e
    rw [if_pos (by omega)]
    simp [List.getD, hk]
  · have := hg j hj
    rw [show (L.set k (fixNo (M.getD k zeroMem))).getD j zeroMem = L.getD j zeroMem by simp [List.getD, Ne.symm e], this]
    by_cases h2 : j < k
    · rw [if_pos h2, if_pos (by omega)]
    · rw [if_neg h2, if_neg (by omega)]
theorem fix_all {L M : List Mem} (hl : L.length = M.length) (hg : ∀ j, j < M.length → L.getD j zeroMem = if j < M.length then fixNo (M.getD j zeroMem) else M.getD j zeroMem) : L = M.map fixNo := by
  apply List.ext_getElem
  · simpa using hl
  · intro j h1 h2
    have hj : j < M.length := by omega
    have := hg j hj
    rw [if_pos hj] at this
    simpa [List.getD, h1, hj] using this
set_option maxRecDepth 100000 in
set_option maxHeartbeats 4000000 in
theorem rosmay_any (va vb : Value) (a b : LI) (w : World) (ha : IsL w va a.1 a.2) (hb : IsL w vb b.1 b.2) : Calls Try.prog 6 #[va, vb] w (Tell (.bool true) w) := by
  obtain ⟨Aa, na, ca, Ba_, ma, da, rfl, ha1, ha2⟩ := ha
  obtain ⟨Ab, nb, cb, Bb_, mb, db, rfl, hb1, hb2⟩ := hb
  have hk0 : Keep (fun _ => False) w ((w.alloc (.cells #[.slice Aa na ca, .slice Ba_ ma da] 25)).alloc (.cells #[.slice Ab nb cb, .slice Bb_ mb db] 25)) := ((Keep.refl _ w).alloc _).alloc _
  have b0 := (Blk.new w 25 #[.slice Aa na ca, .slice Ba_ ma da]).alloc (.cells #[.slice Ab nb cb, .slice Bb_ mb db] 25)
  have b1 := Blk.new_ (w := w.alloc (.cells #[.slice Aa na ca, .slice Ba_ ma da] 25)) (B := w.heap.size + 1) (by simp) 25 #[.slice Ab nb cb, .slice Bb_ mb db]
  generalize hw0 : (w.alloc (.cells #[.slice Aa na ca, .slice Ba_ ma da] 25)).alloc (.cells #[.slice Ab nb cb, .slice Bb_ mb db] 25) = w0 at *
  have HW0 := Lib.hid hw0
  have K0 := Lib.hid hk0
  have B2 := Lib.hid b0
  have B3 := Lib.hid b1
  have FA : Hid (∀ W, Keep (fun _ => False) w0 W → IsL W (.agg #[.slice Aa na ca, .slice Ba_ ma da]) a.1 a.2) := Lib.hid fun W h => ⟨_, _, _, _, _, _, rfl, ha1.keep0 (keep0_trans _ _ _ hk0 h), ha2.keep0 (keep0_trans _ _ _ hk0 h)⟩
  have FB : Hid (∀ W, Keep (fun _ => False) w0 W → IsL W (.agg #[.slice Ab nb cb, .slice Bb_ mb db]) b.1 b.2) := Lib.hid fun W h => ⟨_, _, _, _, _, _, rfl, hb1.keep0 (keep0_trans _ _ _ hk0 h), hb2.keep0 (keep0_trans _ _ _ hk0 h)⟩
  clear hk0 b0 b1 ha1 ha2 hb1 hb2 hw0
  go_enter Try.func6, Try.ntmps6
  go_upto_region 1 with (fail)
  rw [HW0.out]
  clear HW0
  cases hbig : [a, b].any bigL
  · have HBig := Lib.hid hbig
    have hs : bigL a = false ∧ bigL b = false := by simpa using hbig
    have LA := Lib.hid (len_small hs.1)
    have LB := Lib.hid (len_small hs.2)
    clear hs hbig
    refine wp_region_kord (Keep (fun _ => False)) (Keep.refl _) keep0_trans 8 (Ts := [some (.inl (.bool true)), none, none, some (.inl (.agg #[.slice Aa na ca, .slice Ba_ ma da])), some (.inl (.agg #[.slice Ab nb cb, .slice Bb_ mb db])), some (.inr (fun v W => IsLv W v [a, b])), some (.inl (.bool false)), none]) ?_
    simp only [List.take, List.drop]
    refine kAll_dn _ (fun W hW hF => kStep_of fun K Q hK => ?_) (fun K hK => ?_)
    · go_simp
      refine (works_any W).mono ?_
      rintro e w' ⟨rfl, hk⟩
      exact hK _ _ hk rfl
    go_simp
    generalize hZ : (Act.mk _ _) = Z
    refine hK Z ?_
    subst hZ
    clear hK K
    refine kAll_p (fun K hK => ?_)
    go_simp
    generalize hZ : (Act.mk _ _) = Z
    refine hK Z ?_
    subst hZ
    clear hK K
    refine kAll_p (fun K hK => ?_)
    go_simp
    generalize hZ : (Act.mk _ _) = Z
    refine hK Z ?_
    subst hZ
    clear hK K
    refine kAll_dn _ (fun W hW hF => kStep_w (by kernel_rfl) fun K Q hK => ?_) (fun K hK => ?_)
    · have e0 := (B2.out.keep hW (fun h => h)).cell 0
      have e1 := (B2.out.keep hW (fun h => h)).cell 1
      simp at e0 e1
      go_simp
      exact hK _ _ (Keep.refl _ _) rfl
    go_simp
    generalize hZ : (Act.mk _ _) = Z
    refine hK Z ?_
    subst hZ
    clear hK K
    refine kAll_dn _ (fun W hW hF => kStep_w (by kernel_rfl) fun K Q hK => ?_) (fun K hK => ?_)
    · have e0 := (B3.out.keep hW (fun h => h)).cell 0
      have e1 := (B3.out.keep hW (fun h => h)).cell 1
      simp at e0 e1
      go_simp
      exact hK _ _ (Keep.refl _ _) rfl
    go_simp
    generalize hZ : (Act.mk _ _) = Z
    refine hK Z ?_
    subst hZ
    clear hK K
    refine kAll_tn _ (fun v W W' hk h => h.keep0 hk) (fun W hW hF => kStep_w (by kernel_rfl) fun K Q hK => ?_) (fun u0 K hK => ?_)
    · have h0 := FA.out W (hW)
      have h1 := FB.out W (hW)
      go_simp
      exact hK _ _ ((Keep.refl _ _).alloc _) (isLv2 h0 h1)
    go_simp
    generalize hZ : (Act.mk _ _) = Z
    refine hK Z ?_
    subst hZ
    clear hK K
    refine kAll_dn _ (fun W hW hF => kStep_w (by kernel_rfl) fun K Q hK => ?_) (fun K hK => ?_)
    · have h0 : (fun v W => IsLv W v [a, b]) u0 W := kHas_at hF 0 rfl (by kernel_rfl)
      obtain ⟨A9, n9, c9, rfl, h9⟩ := h0
      go_simp
      refine (large_is _ [a, b] W false ⟨_, _, _, rfl, h9⟩ (by simp) HBig.out).mono ?_
      rintro e w' ⟨rfl, hk⟩
      exact hK _ _ hk rfl
    go_simp
    generalize hZ : (Act.mk _ _) = Z
    refine hK Z ?_
    subst hZ
    clear hK K
    refine kAll_p (fun K hK => ?_)
    go_simp
    generalize hZ : (Act.mk _ _) = Z
    refine hK Z ?_
    subst hZ
    clear hK K
    refine kAll_nil (fun W1 hW hF => ?_)
    clear hF
    have hk_2 : Keep (fun _ => False) w0 W1 := hW
    have B_3 := Lib.hid (B2.out.keep hk_2 (fun h => h))
    have B_4 := Lib.hid (B3.out.keep hk_2 (fun h => h))
    have F_5 := Lib.hid (fun W h => FA.out W (keep0_trans _ _ _ hk_2 h))
    have F_6 := Lib.hid (fun W h => FB.out W (keep0_trans _ _ _ hk_2 h))
    have K_7 := Lib.hid (keep0_trans _ _ _ K0.out hk_2)
    clear hk_2 B2 B3 FA FB K0
    clear hW
    have c0 := B_3.out.cell 0
    have c1 := B_3.out.cell 1
    simp at c0 c1
    have clt := B_3.out.lt
    have d0 := B_4.out.cell 0
    have d1 := B_4.out.cell 1
    simp at d0 d1
    have dlt := B_4.out.lt
    go_wp2_with fail
    refine (joinl_own2 _ _ a b _ (F_5.out _ (Keep.refl _ _)) (F_6.out _ (Keep.refl _ _)) LA.out LB.out).mono ?_
    rintro e v1 ⟨rM, rL, AJ, BJ, cJ, dJ, rfl, hj1, hj2, hoM, -, hk⟩
    clear c0 c1 clt d0 d1 dlt
    have LJ := Lib.hid (len_join a b)
    have HJM := Lib.hid (fun h1 h2 => mayT_iff.2 (join_mayS a b (mayT_iff.1 h1) (mayT_iff.1 h2)))
    have HJF := Lib.hid (show mayT ((joinL a b).1.map fixNo) (joinL a b).2 = true by rw [joinL_eq]; exact mayT_iff.2 (fix_may _ _))
    generalize joinL a b = J at *
    have HOWN := Lib.hid (fun g h => Nat.le_trans K_7.out.size (hoM g h))
    clear hoM
    have FJ : Hid (∀ W, Keep (fun _ => False) v1 W → IsLT W (.agg #[.slice AJ J.1.length cJ, .slice BJ J.2.length dJ]) J.1 J.2) := Lib.hid fun W h => IsLT.keep0 ⟨rM, rL, AJ, BJ, cJ, dJ, rfl, hj1, hj2⟩ h
    have hrM := hj1.lt
    have FM : Hid (∀ W, Keep (fun _ => False) v1 W → SlK W 32 4 rM AJ J.1.length cJ (J.1.flatMap cMem)) := Lib.hid fun W h => hj1.keep h (fun _ _ h => h)
    have FF : Hid (∀ W, Keep (fun _ => False) v1 W → SlK W 27 2 rL BJ J.2.length dJ (J.2.flatMap cID)) := Lib.hid fun W h => hj2.keep h (fun _ _ h => h)
    clear hj1 hj2 hrM
    have hk_8 : Keep (fun _ => False) W1 v1 := hk
    have B_9 := Lib.hid (B_3.out.keep hk_8 (fun h => h))
    have B_10 := Lib.hid (B_4.out.keep hk_8 (fun h => h))
    have F_11 := Lib.hid (fun W h => F_5.out W (keep0_trans _ _ _ hk_8 h))
    have F_12 := Lib.hid (fun W h => F_6.out W (keep0_trans _ _ _ hk_8 h))
    have K_13 := Lib.hid (keep0_trans _ _ _ K_7.out hk_8)
    clear hk_8 B_3 B_4 F_5 F_6 K_7
    clear hk
    go_upto_region 4 with (fail)
    have hb_14 := Blk.new v1 25 #[.slice AJ J.1.length cJ, .slice BJ J.2.length dJ]
    have hq_16 : Keep (fun _ => False) v1 (v1.alloc (.cells #[.slice AJ J.1.length cJ, .slice BJ J.2.length dJ] 25)) := (Keep.refl _ _).alloc _
    generalize hw : v1.alloc (.cells #[.slice AJ J.1.length cJ, .slice BJ J.2.length dJ] 25) = w_15 at *
    clear hw
    have B_18 := Lib.hid hb_14
    clear hb_14
    have hk_19 : Keep (fun _ => False) v1 w_15 := hq_16
    have B_20 := Lib.hid (B_9.out.keep hk_19 (fun h => h))
    have B_21 := Lib.hid (B_10.out.keep hk_19 (fun h => h))
    have F_22 := Lib.hid (fun W h => F_11.out W (keep0_trans _ _ _ hk_19 h))
    have F_23 := Lib.hid (fun W h => F_12.out W (keep0_trans _ _ _ hk_19 h))
    have F_24 := Lib.hid (fun W h => FJ.out W (keep0_trans _ _ _ hk_19 h))
    have F_25 := Lib.hid (fun W h => FM.out W (keep0_trans _ _ _ hk_19 h))
    have F_26 := Lib.hid (fun W h => FF.out W (keep0_trans _ _ _ hk_19 h))
    have K_27 := Lib.hid (keep0_trans _ _ _ K_13.out hk_19)
    clear hk_19 B_9 B_10 F_11 F_12 FJ FM FF K_13
    clear hq_16
    have FJL := Lib.hid (fun W h => (F_24.out W h).isL)
    cases hma : mayT a.1 a.2
    · have HMa := Lib.hid hma
      clear hma
      refine wp_region_kord (Keep (fun _ => False)) (Keep.refl _) keep0_trans 20 (Ts := [none, some (.inl (.slice Aa na ca)), none, some (.inl (.slice Ba_ ma da)), some (.inl (.bool false)), none, none, none, none, none, none, none, none, none, none, none, none, none, none, none]) ?_
      simp only [List.take, List.drop]
      refine kAll_p (fun K hK => ?_)
      go_simp
      generalize hZ : (Act.mk _ _) = Z
      refine hK Z ?_
      subst hZ
      clear hK K
      refine kAll_dn _ (fun W hW hF => kStep_of fun K Q hK => ?_) (fun K hK => ?_)
      · have e0 := (B_20.out.keep hW (fun h => h)).cell 0
        simp at e0
        go_simp
        exact hK _ _ (Keep.refl _ _) rfl
      go_simp
      generalize hZ : (Act.mk _ _) = Z
      refine hK Z ?_
      subst hZ
      clear hK K
      refine kAll_p (fun K hK => ?_)
      go_simp
      generalize hZ : (Act.mk _ _) = Z
      refine hK Z ?_
      subst hZ
      clear hK K
      refine kAll_dn _ (fun W hW hF => kStep_of fun K Q hK => ?_) (fun K hK => ?_)
      · have e1 := (B_20.out.keep hW (fun h => h)).cell 1
        simp at e1
        go_simp
        exact hK _ _ (Keep.refl _ _) rfl
      go_simp
      generalize hZ : (Act.mk _ _) = Z
      refine hK Z ?_
      subst hZ
      clear hK K
      refine kAll_dn _ (fun W hW hF => kStep_of fun K Q hK => ?_) (fun K hK => ?_)
      · have h0 := F_22.out W (hW)
        have hl := LA.out
        go_simp
        refine (rmay_is _ _ (a).1 (a).2 W false (isM_of h0) (isF_of h0) hl.1 hl.2 HMa.out).mono ?_
        rintro e w' ⟨rfl, hk⟩
        exact hK _ _ hk rfl
      go_simp
      generalize hZ : (Act.mk _ _) = Z
      refine hK Z ?_
      subst hZ
      clear hK K
      refine kAll_p (fun K hK => ?_)
      go_simp
      generalize hZ : (Act.mk _ _) = Z
      refine hK Z ?_
      subst hZ
      clear hK K
      refine kAll_skip (by kernel_rfl) ?_
      refine kAll_skip (by kernel_rfl) ?_
      refine kAll_skip (by kernel_rfl) ?_
      refine kAll_skip (by kernel_rfl) ?_
      refine kAll_skip (by kernel_rfl) ?_
      refine kAll_p (fun K hK => ?_)
      go_simp
      generalize hZ : (Act.mk _ _) = Z
      refine hK Z ?_
      subst hZ
      clear hK K
      refine kAll_p (fun K hK => ?_)
      go_simp
      generalize hZ : (Act.mk _ _) = Z
      refine hK Z ?_
      subst hZ
      clear hK K
      refine kAll_skip (by kernel_rfl) ?_
      refine kAll_skip (by kernel_rfl) ?_
      refine kAll_skip (by kernel_rfl) ?_
      refine kAll_skip (by kernel_rfl) ?_
      refine kAll_skip (by kernel_rfl) ?_
      refine kAll_skip (by kernel_rfl) ?_
      refine kAll_p (fun K hK => ?_)
      go_simp
      generalize hZ : (Act.mk _ _) = Z
      refine hK Z ?_
      subst hZ
      clear hK K
      refine kAll_nil (fun W28 hW hF => ?_)
      clear hF
      have hk_29 : Keep (fun _ => False) w_15 W28 := hW
      have B_30 := Lib.hid (B_20.out.keep hk_29 (fun h => h))
      have B_31 := Lib.hid (B_21.out.keep hk_29 (fun h => h))
      have B_32 := Lib.hid (B_18.out.keep hk_29 (fun h => h))
      have F_33 := Lib.hid (fun W h => F_22.out W (keep0_trans _ _ _ hk_29 h))
      have F_34 := Lib.hid (fun W h => F_23.out W (keep0_trans _ _ _ hk_29 h))
      have F_35 := Lib.hid (fun W h => F_24.out W (keep0_trans _ _ _ hk_29 h))
      have F_36 := Lib.hid (fun W h => F_25.out W (keep0_trans _ _ _ hk_29 h))
      have F_37 := Lib.hid (fun W h => F_26.out W (keep0_trans _ _ _ hk_29 h))
      have F_38 := Lib.hid (fun W h => FJL.out W (keep0_trans _ _ _ hk_29 h))
      have K_39 := Lib.hid (keep0_trans _ _ _ K_27.out hk_29)
      clear hk_29 B_20 B_21 B_18 F_22 F_23 F_24 F_25 F_26 FJL K_27
      clear hW
      go_wp2_with fail
      have hlj : J.1.length ≤ 10000 := LJ.out.1
      go_loopw [6] (fun i wr => ∃ (k : Nat) (L : List Mem), k ≤ J.1.length ∧ i = .int .i64 (k : Int) ∧ Hid (L.length = J.1.length) ∧ Hid (∀ j, j < J.1.length → L.getD j zeroMem = if j < k then fixNo (J.1.getD j zeroMem) else J.1.getD j zeroMem) ∧ Hid (Keep (fun g => rM = some g) W28 wr) ∧ Hid (SlK wr 32 4 rM AJ J.1.length cJ (L.flatMap cMem))) (fun i _ => J.1.length - (intOf i).toNat)
      case atStart => exact ⟨0, J.1, Nat.zero_le _, rfl, Lib.hid rfl, Lib.hid (fun j _ => by rw [if_neg (by omega)]), Lib.hid (Keep.refl _ _), Lib.hid (F_36.out _ (Keep.refl _ _))⟩
      case round =>
        obtain ⟨k, L, hk, rfl, HL, HG, HKR, HS⟩ := hrel
        have HB5 := Lib.hid (B_32.out.keep HKR.out ((F_36.out _ (Keep.refl _ _)).row_ne B_32.out (by decide)))
        have c0 := HB5.out.cell 0
        have c1 := HB5.out.cell 1
        simp at c0 c1
        have clt := HB5.out.lt
        by_cases hlt : k < J.1.length
        · obtain ⟨g, off, vv, hA, -, -⟩ := HS.out.rd.2 (k * 4) (by omega)
          subst hA
          have hgl : L.getD k zeroMem = J.1.getD k zeroMem := by rw [HG.out k hlt, if_neg (by omega)]
          have hkL : k < L.length := by rw [HL.out]; exact hlt
          obtain ⟨g', off', e, q0, q1, q2, q3⟩ := (show RdMem wr (some ⟨g, off, none⟩) J.1.length L from ⟨HL.out, HS.out.rd⟩).at_ hlt
          injection e with e; injection e with e1 e2; subst e1 e2
          have f2 : wr.frozen? ⟨g, off + k * 4 + 2, none⟩ = false := HS.out.cellAt (j := k * 4 + 2) (by omega)
          have f3 : wr.frozen? ⟨g, off + k * 4 + 3, none⟩ = false := HS.out.cellAt (j := k * 4 + 3) (by omega)
          have hrow := HS.out.row_of
          have hS0 := HS.out.setCell (j := k * 4 + 3) (by omega) (.int .i64 0)
          have hS1 := hS0.setCell (j := k * 4 + 3) (by omega) (.int .i64 1)
          rw [List.set_set] at hS1
          rw [mem_set_no L k hkL] at hS0 hS1
          have hK0 : Keep (fun g => rM = some g) wr (wr.setCell ⟨g, off + k * 4 + 3, none⟩ (.int .i64 0)) := (Keep.refl (fun g => rM = some g) wr).setCell (fun _ => hrow) _
          have hK1 : Keep (fun g => rM = some g) wr ((wr.setCell ⟨g, off + k * 4 + 3, none⟩ (.int .i64 0)).setCell ⟨g, off + k * 4 + 3, none⟩ (.int .i64 1)) := hK0.setCell (fun _ => hrow) _
          have hgn := fun e => HS.out.row_ne HB5.out (by decide) (hrow.trans e)
          rw [hgl] at q0 q1 q2 q3 hS0 hS1
          have HS0 := Lib.hid hS0
          have HS1 := Lib.hid hS1
          have HK0 := Lib.hid hK0
          have HK1 := Lib.hid hK1
          have HGL := Lib.hid hgl
          have HKL := Lib.hid hkL
          have HGS := Lib.hid (set_fix hkL HG.out HL.out)
          clear hS0 hS1 hK0 hK1 hrow hgl hkL HS
          generalize hx : J.1.getD k zeroMem = x at *
          obtain ⟨xa, xi, xs, xn⟩ := x
          simp only at q0 q1 q2 q3
          have hkI : (k : Int) < (J.1.length : Int) := by omega
          have hkJ : (0 : Int) ≤ (k : Int) := by omega
          by_cases h34 : xs = 3 ∨ xs = 4
          · have HF := Lib.hid (show fixNo ⟨xa, xi, xs, xn⟩ = ⟨xa, xi, xs, 1⟩ by simp [fixNo, h34])
            rcases h34 with h34 | h34
            · subst h34
              go_wp2
              go_roundw
              case rel => exact ⟨k + 1, L.set k ⟨xa, xi, 3, 1⟩, by omega, by go_num, Lib.hid (HGS.out _ HF.out.symm).1, Lib.hid (HGS.out _ HF.out.symm).2, Lib.hid (HKR.out.trans (HK1.out.mono fun _ _ h => .inl h)), HS1⟩
              case measure => simp [intOf]; omega
            · subst h34
              go_wp2
              go_roundw
              case rel => exact ⟨k + 1, L.set k ⟨xa, xi, 4, 1⟩, by omega, by go_num, Lib.hid (HGS.out _ HF.out.symm).1, Lib.hid (HGS.out _ HF.out.symm).2, Lib.hid (HKR.out.trans (HK1.out.mono fun _ _ h => .inl h)), HS1⟩
              case measure => simp [intOf]; omega
          · have HF := Lib.hid (show fixNo ⟨xa, xi, xs, xn⟩ = ⟨xa, xi, xs, 0⟩ by simp [fixNo, h34])
            have h3 : (xs == 3) = false := by simp; omega
            have h4 : (xs == 4) = false := by simp; omega
            clear h34
            go_wp2
            go_roundw
            case rel => exact ⟨k + 1, L.set k ⟨xa, xi, xs, 0⟩, by omega, by go_num, Lib.hid (HGS.out _ HF.out.symm).1, Lib.hid (HGS.out _ HF.out.symm).2, Lib.hid (HKR.out.trans (HK0.out.mono fun _ _ h => .inl h)), HS0⟩
            case measure => simp [intOf]; omega
        · obtain rfl : k = J.1.length := by omega
          have hL : L = J.1.map fixNo := fix_all HL.out HG.out
          subst hL
          have hnr := fun g h => (F_37.out _ (Keep.refl _ _)).rows_ne (F_36.out _ (Keep.refl _ _)) (by decide) g h
          have HFF := Lib.hid ((F_37.out _ (Keep.refl _ _)).keep HKR.out hnr)
          clear hnr
          go_wp2_with fail
          refine (rmay_is _ _ (J.1.map fixNo) J.2 _ true ⟨_, _, _, rfl, by simp, HS.out.rd⟩ ⟨_, _, _, rfl, rfl, HFF.out.rd⟩ (by simpa using LJ.out.1) LJ.out.2 HJF.out).mono ?_
          rintro e v9 ⟨rfl, hk9⟩
          have KZ := Lib.hid (keep0_trans _ _ _ (K_39.out.trans (HKR.out.mono fun g _ h => .inr (HOWN.out g h))) hk9)
          clear hk9 c0 c1
          go_wp2
          go_ret
          exact ⟨rfl, KZ.out⟩
    · have HMa := Lib.hid hma
      clear hma
      cases hmb : mayT b.1 b.2
      · have HMb := Lib.hid hmb
        clear hmb
        refine wp_region_kord (Keep (fun _ => False)) (Keep.refl _) keep0_trans 20 (Ts := [none, some (.inl (.slice Aa na ca)), none, some (.inl (.slice Ba_ ma da)), some (.inl (.bool true)), none, none, some (.inl (.slice Ab nb cb)), none, some (.inl (.slice Bb_ mb db)), some (.inl (.bool false)), none, none, none, none, none, none, none, none, none]) ?_
        simp only [List.take, List.drop]
        refine kAll_p (fun K hK => ?_)
        go_simp
        generalize hZ : (Act.mk _ _) = Z
        refine hK Z ?_
        subst hZ
        clear hK K
        refine kAll_dn _ (fun W hW hF => kStep_of fun K Q hK => ?_) (fun K hK => ?_)
        · have e0 := (B_20.out.keep hW (fun h => h)).cell 0
          simp at e0
          go_simp
          exact hK _ _ (Keep.refl _ _) rfl
        go_simp
        generalize hZ : (Act.mk _ _) = Z
        refine hK Z ?_
        subst hZ
        clear hK K
        refine kAll_p (fun K hK => ?_)
        go_simp
        generalize hZ : (Act.mk _ _) = Z
        refine hK Z ?_
        subst hZ
        clear hK K
        refine kAll_dn _ (fun W hW hF => kStep_of fun K Q hK => ?_) (fun K hK => ?_)
        · have e1 := (B_20.out.keep hW (fun h => h)).cell 1
          simp at e1
          go_simp
          exact hK _ _ (Keep.refl _ _) rfl
        go_simp
        generalize hZ : (Act.mk _ _) = Z
        refine hK Z ?_
        subst hZ
        clear hK K
        refine kAll_dn _ (fun W hW hF => kStep_of fun K Q hK => ?_) (fun K hK => ?_)
        · have h0 := F_22.out W (hW)
          have hl := LA.out
          go_simp
          refine (rmay_is _ _ (a).1 (a).2 W true (isM_of h0) (isF_of h0) hl.1 hl.2 HMa.out).mono ?_
          rintro e w' ⟨rfl, hk⟩
          exact hK _ _ hk rfl
        go_simp
        generalize hZ : (Act.mk _ _) = Z
        refine hK Z ?_
        subst hZ
        clear hK K
        refine kAll_p (fun K hK => ?_)
        go_simp
        generalize hZ : (Act.mk _ _) = Z
        refine hK Z ?_
        subst hZ
        clear hK K
        refine kAll_pw (by kernel_rfl) (fun K hK => ?_)
        go_simp
        generalize hZ : (Act.mk _ _) = Z
        refine hK Z ?_
        subst hZ
        clear hK K
        refine kAll_dn _ (fun W hW hF => kStep_w (by kernel_rfl) fun K Q hK => ?_) (fun K hK => ?_)
        · have e0 := (B_21.out.keep hW (fun h => h)).cell 0
          simp at e0
          go_simp
          exact hK _ _ (Keep.refl _ _) rfl
        go_simp
        generalize hZ : (Act.mk _ _) = Z
        refine hK Z ?_
        subst hZ
        clear hK K
        refine kAll_pw (by kernel_rfl) (fun K hK => ?_)
        go_simp
        generalize hZ : (Act.mk _ _) = Z
        refine hK Z ?_
        subst hZ
        clear hK K
        refine kAll_dn _ (fun W hW hF => kStep_w (by kernel_rfl) fun K Q hK => ?_) (fun K hK => ?_)
        · have e1 := (B_21.out.keep hW (fun h => h)).cell 1
          simp at e1
          go_simp
          exact hK _ _ (Keep.refl _ _) rfl
        go_simp
        generalize hZ : (Act.mk _ _) = Z
        refine hK Z ?_
        subst hZ
        clear hK K
        refine kAll_dn _ (fun W hW hF => kStep_w (by kernel_rfl) fun K Q hK => ?_) (fun K hK => ?_)
        · have h0 := F_23.out W (hW)
          have hl := LB.out
          go_simp
          refine (rmay_is _ _ (b).1 (b).2 W false (isM_of h0) (isF_of h0) hl.1 hl.2 HMb.out).mono ?_
          rintro e w' ⟨rfl, hk⟩
          exact hK _ _ hk rfl
        go_simp
        generalize hZ : (Act.mk _ _) = Z
        refine hK Z ?_
        subst hZ
        clear hK K
        refine kAll_p (fun K hK => ?_)
        go_simp
        generalize hZ : (Act.mk _ _) = Z
        refine hK Z ?_
        subst hZ
        clear hK K
        refine kAll_p (fun K hK => ?_)
        go_simp
        generalize hZ : (Act.mk _ _) = Z
        refine hK Z ?_
        subst hZ
        clear hK K
        refine kAll_skip (by kernel_rfl) ?_
        refine kAll_skip (by kernel_rfl) ?_
        refine kAll_skip (by kernel_rfl) ?_
        refine kAll_skip (by kernel_rfl) ?_
        refine kAll_skip (by kernel_rfl) ?_
        refine kAll_skip (by kernel_rfl) ?_
        refine kAll_p (fun K hK => ?_)
        go_simp
        generalize hZ : (Act.mk _ _) = Z
        refine hK Z ?_
        subst hZ
        clear hK K
        refine kAll_nil (fun W40 hW hF => ?_)
        clear hF
        have hk_41 : Keep (fun _ => False) w_15 W40 := hW
        have B_42 := Lib.hid (B_20.out.keep hk_41 (fun h => h))
        have B_43 := Lib.hid (B_21.out.keep hk_41 (fun h => h))
        have B_44 := Lib.hid (B_18.out.keep hk_41 (fun h => h))
        have F_45 := Lib.hid (fun W h => F_22.out W (keep0_trans _ _ _ hk_41 h))
        have F_46 := Lib.hid (fun W h => F_23.out W (keep0_trans _ _ _ hk_41 h))
        have F_47 := Lib.hid (fun W h => F_24.out W (keep0_trans _ _ _ hk_41 h))
        have F_48 := Lib.hid (fun W h => F_25.out W (keep0_trans _ _ _ hk_41 h))
        have F_49 := Lib.hid (fun W h => F_26.out W (keep0_trans _ _ _ hk_41 h))
        have F_50 := Lib.hid (fun W h => FJL.out W (keep0_trans _ _ _ hk_41 h))
        have K_51 := Lib.hid (keep0_trans _ _ _ K_27.out hk_41)
        clear hk_41 B_20 B_21 B_18 F_22 F_23 F_24 F_25 F_26 FJL K_27
        clear hW
        go_wp2_with fail
        have hlj : J.1.length ≤ 10000 := LJ.out.1
        go_loopw [6] (fun i wr => ∃ (k : Nat) (L : List Mem), k ≤ J.1.length ∧ i = .int .i64 (k : Int) ∧ Hid (L.length = J.1.length) ∧ Hid (∀ j, j < J.1.length → L.getD j zeroMem = if j < k then fixNo (J.1.getD j zeroMem) else J.1.getD j zeroMem) ∧ Hid (Keep (fun g => rM = some g) W40 wr) ∧ Hid (SlK wr 32 4 rM AJ J.1.length cJ (L.flatMap cMem))) (fun i _ => J.1.length - (intOf i).toNat)
        case atStart => exact ⟨0, J.1, Nat.zero_le _, rfl, Lib.hid rfl, Lib.hid (fun j _ => by rw [if_neg (by omega)]), Lib.hid (Keep.refl _ _), Lib.hid (F_48.out _ (Keep.refl _ _))⟩
        case round =>
          obtain ⟨k, L, hk, rfl, HL, HG, HKR, HS⟩ := hrel
          have HB5 := Lib.hid (B_44.out.keep HKR.out ((F_48.out _ (Keep.refl _ _)).row_ne B_44.out (by decide)))
          have c0 := HB5.out.cell 0
          have c1 := HB5.out.cell 1
          simp at c0 c1
          have clt := HB5.out.lt
          by_cases hlt : k < J.1.length
          · obtain ⟨g, off, vv, hA, -, -⟩ := HS.out.rd.2 (k * 4) (by omega)
            subst hA
            have hgl : L.getD k zeroMem = J.1.getD k zeroMem := by rw [HG.out k hlt, if_neg (by omega)]
            have hkL : k < L.length := by rw [HL.out]; exact hlt
            obtain ⟨g', off', e, q0, q1, q2, q3⟩ := (show RdMem wr (some ⟨g, off, none⟩) J.1.length L from ⟨HL.out, HS.out.rd⟩).at_ hlt
            injection e with e; injection e with e1 e2; subst e1 e2
            have f2 : wr.frozen? ⟨g, off + k * 4 + 2, none⟩ = false := HS.out.cellAt (j := k * 4 + 2) (by omega)
            have f3 : wr.frozen? ⟨g, off + k * 4 + 3, none⟩ = false := HS.out.cellAt (j := k * 4 + 3) (by omega)
            have hrow := HS.out.row_of
            have hS0 := HS.out.setCell (j := k * 4 + 3) (by omega) (.int .i64 0)
            have hS1 := hS0.setCell (j := k * 4 + 3) (by omega) (.int .i64 1)
            rw [List.set_set] at hS1
            rw [mem_set_no L k hkL] at hS0 hS1
            have hK0 : Keep (fun g => rM = some g) wr (wr.setCell ⟨g, off + k * 4 + 3, none⟩ (.int .i64 0)) := (Keep.refl (fun g => rM = some g) wr).setCell (fun _ => hrow) _
            have hK1 : Keep (fun g => rM = some g) wr ((wr.setCell ⟨g, off + k * 4 + 3, none⟩ (.int .i64 0)).setCell ⟨g, off + k * 4 + 3, none⟩ (.int .i64 1)) := hK0.setCell (fun _ => hrow) _
            have hgn := fun e => HS.out.row_ne HB5.out (by decide) (hrow.trans e)
            rw [hgl] at q0 q1 q2 q3 hS0 hS1
            have HS0 := Lib.hid hS0
            have HS1 := Lib.hid hS1
            have HK0 := Lib.hid hK0
            have HK1 := Lib.hid hK1
            have HGL := Lib.hid hgl
            have HKL := Lib.hid hkL
            have HGS := Lib.hid (set_fix hkL HG.out HL.out)
            clear hS0 hS1 hK0 hK1 hrow hgl hkL HS
            generalize hx : J.1.getD k zeroMem = x at *
            obtain ⟨xa, xi, xs, xn⟩ := x
            simp only at q0 q1 q2 q3
            have hkI : (k : Int) < (J.1.length : Int) := by omega
            have hkJ : (0 : Int) ≤ (k : Int) := by omega
            by_cases h34 : xs = 3 ∨ xs = 4
            · have HF := Lib.hid (show fixNo ⟨xa, xi, xs, xn⟩ = ⟨xa, xi, xs, 1⟩ by simp [fixNo, h34])
              rcases h34 with h34 | h34
              · subst h34
                go_wp2
                go_roundw
                case rel => exact ⟨k + 1, L.set k ⟨xa, xi, 3, 1⟩, by omega, by go_num, Lib.hid (HGS.out _ HF.out.symm).1, Lib.hid (HGS.out _ HF.out.symm).2, Lib.hid (HKR.out.trans (HK1.out.mono fun _ _ h => .inl h)), HS1⟩
                case measure => simp [intOf]; omega
              · subst h34
                go_wp2
                go_roundw
                case rel => exact ⟨k + 1, L.set k ⟨xa, xi, 4, 1⟩, by omega, by go_num, Lib.hid (HGS.out _ HF.out.symm).1, Lib.hid (HGS.out _ HF.out.symm).2, Lib.hid (HKR.out.trans (HK1.out.mono fun _ _ h => .inl h)), HS1⟩
                case measure => simp [intOf]; omega
            · have HF := Lib.hid (show fixNo ⟨xa, xi, xs, xn⟩ = ⟨xa, xi, xs, 0⟩ by simp [fixNo, h34])
              have h3 : (xs == 3) = false := by simp; omega
              have h4 : (xs == 4) = false := by simp; omega
              clear h34
              go_wp2
              go_roundw
              case rel => exact ⟨k + 1, L.set k ⟨xa, xi, xs, 0⟩, by omega, by go_num, Lib.hid (HGS.out _ HF.out.symm).1, Lib.hid (HGS.out _ HF.out.symm).2, Lib.hid (HKR.out.trans (HK0.out.mono fun _ _ h => .inl h)), HS0⟩
              case measure => simp [intOf]; omega
          · obtain rfl : k = J.1.length := by omega
            have hL : L = J.1.map fixNo := fix_all HL.out HG.out
            subst hL
            have hnr := fun g h => (F_49.out _ (Keep.refl _ _)).rows_ne (F_48.out _ (Keep.refl _ _)) (by decide) g h
            have HFF := Lib.hid ((F_49.out _ (Keep.refl _ _)).keep HKR.out hnr)
            clear hnr
            go_wp2_with fail
            refine (rmay_is _ _ (J.1.map fixNo) J.2 _ true ⟨_, _, _, rfl, by simp, HS.out.rd⟩ ⟨_, _, _, rfl, rfl, HFF.out.rd⟩ (by simpa using LJ.out.1) LJ.out.2 HJF.out).mono ?_
            rintro e v9 ⟨rfl, hk9⟩
            have KZ := Lib.hid (keep0_trans _ _ _ (K_51.out.trans (HKR.out.mono fun g _ h => .inr (HOWN.out g h))) hk9)
            clear hk9 c0 c1
            go_wp2
            go_ret
            exact ⟨rfl, KZ.out⟩
      · have HMb := Lib.hid hmb
        clear hmb
        refine wp_region_kord (Keep (fun _ => False)) (Keep.refl _) keep0_trans 20 (Ts := [none, some (.inl (.slice Aa na ca)), none, some (.inl (.slice Ba_ ma da)), some (.inl (.bool true)), none, none, some (.inl (.slice Ab nb cb)), none, some (.inl (.slice Bb_ mb db)), some (.inl (.bool true)), none, none, none, some (.inl (.slice AJ J.1.length cJ)), none, some (.inl (.slice BJ J.2.length dJ)), some (.inl (.bool true)), none, none]) ?_
        simp only [List.take, List.drop]
        refine kAll_p (fun K hK => ?_)
        go_simp
        generalize hZ : (Act.mk _ _) = Z
        refine hK Z ?_
        subst hZ
        clear hK K
        refine kAll_dn _ (fun W hW hF => kStep_of fun K Q hK => ?_) (fun K hK => ?_)
        · have e0 := (B_20.out.keep hW (fun h => h)).cell 0
          simp at e0
          go_simp
          exact hK _ _ (Keep.refl _ _) rfl
        go_simp
        generalize hZ : (Act.mk _ _) = Z
        refine hK Z ?_
        subst hZ
        clear hK K
        refine kAll_p (fun K hK => ?_)
        go_simp
        generalize hZ : (Act.mk _ _) = Z
        refine hK Z ?_
        subst hZ
        clear hK K
        refine kAll_dn _ (fun W hW hF => kStep_of fun K Q hK => ?_) (fun K hK => ?_)
        · have e1 := (B_20.out.keep hW (fun h => h)).cell 1
          simp at e1
          go_simp
          exact hK _ _ (Keep.refl _ _) rfl
        go_simp
        generalize hZ : (Act.mk _ _) = Z
        refine hK Z ?_
        subst hZ
        clear hK K
        refine kAll_dn _ (fun W hW hF => kStep_of fun K Q hK => ?_) (fun K hK => ?_)
        · have h0 := F_22.out W (hW)
          have hl := LA.out
          go_simp
          refine (rmay_is _ _ (a).1 (a).2 W true (isM_of h0) (isF_of h0) hl.1 hl.2 HMa.out).mono ?_
          rintro e w' ⟨rfl, hk⟩
          exact hK _ _ hk rfl
        go_simp
        generalize hZ : (Act.mk _ _) = Z
        refine hK Z ?_
        subst hZ
        clear hK K
        refine kAll_p (fun K hK => ?_)
        go_simp
        generalize hZ : (Act.mk _ _) = Z
        refine hK Z ?_
        subst hZ
        clear hK K
        refine kAll_pw (by kernel_rfl) (fun K hK => ?_)
        go_simp
        generalize hZ : (Act.mk _ _) = Z
        refine hK Z ?_
        subst hZ
        clear hK K
        refine kAll_dn _ (fun W hW hF => kStep_w (by kernel_rfl) fun K Q hK => ?_) (fun K hK => ?_)
        · have e0 := (B_21.out.keep hW (fun h => h)).cell 0
          simp at e0
          go_simp
          exact hK _ _ (Keep.refl _ _) rfl
        go_simp
        generalize hZ : (Act.mk _ _) = Z
        refine hK Z ?_
        subst hZ
        clear hK K
        refine kAll_pw (by kernel_rfl) (fun K hK => ?_)
        go_simp
        generalize hZ : (Act.mk _ _) = Z
        refine hK Z ?_
        subst hZ
        clear hK K
        refine kAll_dn _ (fun W hW hF => kStep_w (by kernel_rfl) fun K Q hK => ?_) (fun K hK => ?_)
        · have e1 := (B_21.out.keep hW (fun h => h)).cell 1
          simp at e1
          go_simp
          exact hK _ _ (Keep.refl _ _) rfl
        go_simp
        generalize hZ : (Act.mk _ _) = Z
        refine hK Z ?_
        subst hZ
        clear hK K
        refine kAll_dn _ (fun W hW hF => kStep_w (by kernel_rfl) fun K Q hK => ?_) (fun K hK => ?_)
        · have h0 := F_23.out W (hW)
          have hl := LB.out
          go_simp
          refine (rmay_is _ _ (b).1 (b).2 W true (isM_of h0) (isF_of h0) hl.1 hl.2 HMb.out).mono ?_
          rintro e w' ⟨rfl, hk⟩
          exact hK _ _ hk rfl
        go_simp
        generalize hZ : (Act.mk _ _) = Z
        refine hK Z ?_
        subst hZ
        clear hK K
        refine kAll_p (fun K hK => ?_)
        go_simp
        generalize hZ : (Act.mk _ _) = Z
        refine hK Z ?_
        subst hZ
        clear hK K
        refine kAll_p (fun K hK => ?_)
        go_simp
        generalize hZ : (Act.mk _ _) = Z
        refine hK Z ?_
        subst hZ
        clear hK K
        refine kAll_pw (by kernel_rfl) (fun K hK => ?_)
        go_simp
        generalize hZ : (Act.mk _ _) = Z
        refine hK Z ?_
        subst hZ
        clear hK K
        refine kAll_dn _ (fun W hW hF => kStep_w (by kernel_rfl) fun K Q hK => ?_) (fun K hK => ?_)
        · have e0 := (B_18.out.keep hW (fun h => h)).cell 0
          simp at e0
          go_simp
          exact hK _ _ (Keep.refl _ _) rfl
        go_simp
        generalize hZ : (Act.mk _ _) = Z
        refine hK Z ?_
        subst hZ
        clear hK K
        refine kAll_pw (by kernel_rfl) (fun K hK => ?_)
        go_simp
        generalize hZ : (Act.mk _ _) = Z
        refine hK Z ?_
        subst hZ
        clear hK K
        refine kAll_dn _ (fun W hW hF => kStep_w (by kernel_rfl) fun K Q hK => ?_) (fun K hK => ?_)
        · have e1 := (B_18.out.keep hW (fun h => h)).cell 1
          simp at e1
          go_simp
          exact hK _ _ (Keep.refl _ _) rfl
        go_simp
        generalize hZ : (Act.mk _ _) = Z
        refine hK Z ?_
        subst hZ
        clear hK K
        refine kAll_dn _ (fun W hW hF => kStep_w (by kernel_rfl) fun K Q hK => ?_) (fun K hK => ?_)
        · have h0 := FJL.out W (hW)
          have hl := LJ.out
          go_simp
          refine (rmay_is _ _ (J).1 (J).2 W true (isM_of h0) (isF_of h0) hl.1 hl.2 (HJM.out HMa.out HMb.out)).mono ?_
          rintro e w' ⟨rfl, hk⟩
          exact hK _ _ hk rfl
        go_simp
        generalize hZ : (Act.mk _ _) = Z
        refine hK Z ?_
        subst hZ
        clear hK K
        refine kAll_pw (by kernel_rfl) (fun K hK => ?_)
        go_simp
        generalize hZ : (Act.mk _ _) = Z
        refine hK Z ?_
        subst hZ
        clear hK K
        refine kAll_p (fun K hK => ?_)
        go_simp
        generalize hZ : (Act.mk _ _) = Z
        refine hK Z ?_
        subst hZ
        clear hK K
        refine kAll_nil (fun W52 hW hF => ?_)
        clear hF
        have hk_53 : Keep (fun _ => False) w_15 W52 := hW
        have B_54 := Lib.hid (B_20.out.keep hk_53 (fun h => h))
        have B_55 := Lib.hid (B_21.out.keep hk_53 (fun h => h))
        have B_56 := Lib.hid (B_18.out.keep hk_53 (fun h => h))
        have F_57 := Lib.hid (fun W h => F_22.out W (keep0_trans _ _ _ hk_53 h))
        have F_58 := Lib.hid (fun W h => F_23.out W (keep0_trans _ _ _ hk_53 h))
        have F_59 := Lib.hid (fun W h => F_24.out W (keep0_trans _ _ _ hk_53 h))
        have F_60 := Lib.hid (fun W h => F_25.out W (keep0_trans _ _ _ hk_53 h))
        have F_61 := Lib.hid (fun W h => F_26.out W (keep0_trans _ _ _ hk_53 h))
        have F_62 := Lib.hid (fun W h => FJL.out W (keep0_trans _ _ _ hk_53 h))
        have K_63 := Lib.hid (keep0_trans _ _ _ K_27.out hk_53)
        clear hk_53 B_20 B_21 B_18 F_22 F_23 F_24 F_25 F_26 FJL K_27
        clear hW
        go_wp2_with fail
        have hlj : J.1.length ≤ 10000 := LJ.out.1
        go_loopw [6] (fun i wr => ∃ (k : Nat) (L : List Mem), k ≤ J.1.length ∧ i = .int .i64 (k : Int) ∧ Hid (L.length = J.1.length) ∧ Hid (∀ j, j < J.1.length → L.getD j zeroMem = if j < k then fixNo (J.1.getD j zeroMem) else J.1.getD j zeroMem) ∧ Hid (Keep (fun g => rM = some g) W52 wr) ∧ Hid (SlK wr 32 4 rM AJ J.1.length cJ (L.flatMap cMem))) (fun i _ => J.1.length - (intOf i).toNat)
        case atStart => exact ⟨0, J.1, Nat.zero_le _, rfl, Lib.hid rfl, Lib.hid (fun j _ => by rw [if_neg (by omega)]), Lib.hid (Keep.refl _ _), Lib.hid (F_60.out _ (Keep.refl _ _))⟩
        case round =>
          obtain ⟨k, L, hk, rfl, HL, HG, HKR, HS⟩ := hrel
          have HB5 := Lib.hid (B_56.out.keep HKR.out ((F_60.out _ (Keep.refl _ _)).row_ne B_56.out (by decide)))
          have c0 := HB5.out.cell 0
          have c1 := HB5.out.cell 1
          simp at c0 c1
          have clt := HB5.out.lt
          by_cases hlt : k < J.1.length
          · obtain ⟨g, off, vv, hA, -, -⟩ := HS.out.rd.2 (k * 4) (by omega)
            subst hA
            have hgl : L.getD k zeroMem = J.1.getD k zeroMem := by rw [HG.out k hlt, if_neg (by omega)]
            have hkL : k < L.length := by rw [HL.out]; exact hlt
            obtain ⟨g', off', e, q0, q1, q2, q3⟩ := (show RdMem wr (some ⟨g, off, none⟩) J.1.length L from ⟨HL.out, HS.out.rd⟩).at_ hlt
            injection e with e; injection e with e1 e2; subst e1 e2
            have f2 : wr.frozen? ⟨g, off + k * 4 + 2, none⟩ = false := HS.out.cellAt (j := k * 4 + 2) (by omega)
            have f3 : wr.frozen? ⟨g, off + k * 4 + 3, none⟩ = false := HS.out.cellAt (j := k * 4 + 3) (by omega)
            have hrow := HS.out.row_of
            have hS0 := HS.out.setCell (j := k * 4 + 3) (by omega) (.int .i64 0)
            have hS1 := hS0.setCell (j := k * 4 + 3) (by omega) (.int .i64 1)
            rw [List.set_set] at hS1
            rw [mem_set_no L k hkL] at hS0 hS1
            have hK0 : Keep (fun g => rM = some g) wr (wr.setCell ⟨g, off + k * 4 + 3, none⟩ (.int .i64 0)) := (Keep.refl (fun g => rM = some g) wr).setCell (fun _ => hrow) _
            have hK1 : Keep (fun g => rM = some g) wr ((wr.setCell ⟨g, off + k * 4 + 3, none⟩ (.int .i64 0)).setCell ⟨g, off + k * 4 + 3, none⟩ (.int .i64 1)) := hK0.setCell (fun _ => hrow) _
            have hgn := fun e => HS.out.row_ne HB5.out (by decide) (hrow.trans e)
            rw [hgl] at q0 q1 q2 q3 hS0 hS1
            have HS0 := Lib.hid hS0
            have HS1 := Lib.hid hS1
            have HK0 := Lib.hid hK0
            have HK1 := Lib.hid hK1
            have HGL := Lib.hid hgl
            have HKL := Lib.hid hkL
            have HGS := Lib.hid (set_fix hkL HG.out HL.out)
            clear hS0 hS1 hK0 hK1 hrow hgl hkL HS
            generalize hx : J.1.getD k zeroMem = x at *
            obtain ⟨xa, xi, xs, xn⟩ := x
            simp only at q0 q1 q2 q3
            have hkI : (k : Int) < (J.1.length : Int) := by omega
            have hkJ : (0 : Int) ≤ (k : Int) := by omega
            by_cases h34 : xs = 3 ∨ xs = 4
            · have HF := Lib.hid (show fixNo ⟨xa, xi, xs, xn⟩ = ⟨xa, xi, xs, 1⟩ by simp [fixNo, h34])
              rcases h34 with h34 | h34
              · subst h34
                go_wp2
                go_roundw
                case rel => exact ⟨k + 1, L.set k ⟨xa, xi, 3, 1⟩, by omega, by go_num, Lib.hid (HGS.out _ HF.out.symm).1, Lib.hid (HGS.out _ HF.out.symm).2, Lib.hid (HKR.out.trans (HK1.out.mono fun _ _ h => .inl h)), HS1⟩
                case measure => simp [intOf]; omega
              · subst h34
                go_wp2
                go_roundw
                case rel => exact ⟨k + 1, L.set k ⟨xa, xi, 4, 1⟩, by omega, by go_num, Lib.hid (HGS.out _ HF.out.symm).1, Lib.hid (HGS.out _ HF.out.symm).2, Lib.hid (HKR.out.trans (HK1.out.mono fun _ _ h => .inl h)), HS1⟩
                case measure => simp [intOf]; omega
            · have HF := Lib.hid (show fixNo ⟨xa, xi, xs, xn⟩ = ⟨xa, xi, xs, 0⟩ by simp [fixNo, h34])
              have h3 : (xs == 3) = false := by simp; omega
              have h4 : (xs == 4) = false := by simp; omega
              clear h34
              go_wp2
              go_roundw
              case rel => exact ⟨k + 1, L.set k ⟨xa, xi, xs, 0⟩, by omega, by go_num, Lib.hid (HGS.out _ HF.out.symm).1, Lib.hid (HGS.out _ HF.out.symm).2, Lib.hid (HKR.out.trans (HK0.out.mono fun _ _ h => .inl h)), HS0⟩
              case measure => simp [intOf]; omega
          · obtain rfl : k = J.1.length := by omega
            have hL : L = J.1.map fixNo := fix_all HL.out HG.out
            subst hL
            have hnr := fun g h => (F_61.out _ (Keep.refl _ _)).rows_ne (F_60.out _ (Keep.refl _ _)) (by decide) g h
            have HFF := Lib.hid ((F_61.out _ (Keep.refl _ _)).keep HKR.out hnr)
            clear hnr
            go_wp2_with fail
            refine (rmay_is _ _ (J.1.map fixNo) J.2 _ true ⟨_, _, _, rfl, by simp, HS.out.rd⟩ ⟨_, _, _, rfl, rfl, HFF.out.rd⟩ (by simpa using LJ.out.1) LJ.out.2 HJF.out).mono ?_
            rintro e v9 ⟨rfl, hk9⟩
            have KZ := Lib.hid (keep0_trans _ _ _ (K_63.out.trans (HKR.out.mono fun g _ h => .inr (HOWN.out g h))) hk9)
            clear hk9 c0 c1
            go_wp2
            go_ret
            exact ⟨rfl, KZ.out⟩
  · have HBig := Lib.hid hbig
    clear hbig
    refine wp_region_kord (Keep (fun _ => False)) (Keep.refl _) keep0_trans 8 (Ts := [some (.inl (.bool true)), none, none, some (.inl (.agg #[.slice Aa na ca, .slice Ba_ ma da])), some (.inl (.agg #[.slice Ab nb cb, .slice Bb_ mb db])), some (.inr (fun v W => IsLv W v [a, b])), some (.inl (.bool true)), none]) ?_
    simp only [List.take, List.drop]
    refine kAll_dn _ (fun W hW hF => kStep_of fun K Q hK => ?_) (fun K hK => ?_)
    · go_simp
      refine (works_any W).mono ?_
      rintro e w' ⟨rfl, hk⟩
      exact hK _ _ hk rfl
    go_simp
    generalize hZ : (Act.mk _ _) = Z
    refine hK Z ?_
    subst hZ
    clear hK K
    refine kAll_p (fun K hK => ?_)
    go_simp
    generalize hZ : (Act.mk _ _) = Z
    refine hK Z ?_
    subst hZ
    clear hK K
    refine kAll_p (fun K hK => ?_)
    go_simp
    generalize hZ : (Act.mk _ _) = Z
    refine hK Z ?_
    subst hZ
    clear hK K
    refine kAll_dn _ (fun W hW hF => kStep_w (by kernel_rfl) fun K Q hK => ?_) (fun K hK => ?_)
    · have e0 := (B2.out.keep hW (fun h => h)).cell 0
      have e1 := (B2.out.keep hW (fun h => h)).cell 1
      simp at e0 e1
      go_simp
      exact hK _ _ (Keep.refl _ _) rfl
    go_simp
    generalize hZ : (Act.mk _ _) = Z
    refine hK Z ?_
    subst hZ
    clear hK K
    refine kAll_dn _ (fun W hW hF => kStep_w (by kernel_rfl) fun K Q hK => ?_) (fun K hK => ?_)
    · have e0 := (B3.out.keep hW (fun h => h)).cell 0
      have e1 := (B3.out.keep hW (fun h => h)).cell 1
      simp at e0 e1
      go_simp
      exact hK _ _ (Keep.refl _ _) rfl
    go_simp
    generalize hZ : (Act.mk _ _) = Z
    refine hK Z ?_
    subst hZ
    clear hK K
    refine kAll_tn _ (fun v W W' hk h => h.keep0 hk) (fun W hW hF => kStep_w (by kernel_rfl) fun K Q hK => ?_) (fun u0 K hK => ?_)
    · have h0 := FA.out W (hW)
      have h1 := FB.out W (hW)
      go_simp
      exact hK _ _ ((Keep.refl _ _).alloc _) (isLv2 h0 h1)
    go_simp
    generalize hZ : (Act.mk _ _) = Z
    refine hK Z ?_
    subst hZ
    clear hK K
    refine kAll_dn _ (fun W hW hF => kStep_w (by kernel_rfl) fun K Q hK => ?_) (fun K hK => ?_)
    · have h0 : (fun v W => IsLv W v [a, b]) u0 W := kHas_at hF 0 rfl (by kernel_rfl)
      obtain ⟨A9, n9, c9, rfl, h9⟩ := h0
      go_simp
      refine (large_is _ [a, b] W true ⟨_, _, _, rfl, h9⟩ (by simp) HBig.out).mono ?_
      rintro e w' ⟨rfl, hk⟩
      exact hK _ _ hk rfl
    go_simp
    generalize hZ : (Act.mk _ _) = Z
    refine hK Z ?_
    subst hZ
    clear hK K
    refine kAll_p (fun K hK => ?_)
    go_simp
    generalize hZ : (Act.mk _ _) = Z
    refine hK Z ?_
    subst hZ
    clear hK K
    refine kAll_nil (fun W1 hW hF => ?_)
    clear hF
    have hk_2 : Keep (fun _ => False) w0 W1 := hW
    have B_3 := Lib.hid (B2.out.keep hk_2 (fun h => h))
    have B_4 := Lib.hid (B3.out.keep hk_2 (fun h => h))
    have F_5 := Lib.hid (fun W h => FA.out W (keep0_trans _ _ _ hk_2 h))
    have F_6 := Lib.hid (fun W h => FB.out W (keep0_trans _ _ _ hk_2 h))
    have K_7 := Lib.hid (keep0_trans _ _ _ K0.out hk_2)
    clear hk_2 B2 B3 FA FB K0
    clear hW
    go_wp2_with fail
    refine (works_any _).mono ?_
    rintro e w2 ⟨rfl, hk⟩
    have KZ := Lib.hid (keep0_trans _ _ _ K_7.out hk)
    clear hk
    go_wp2
    go_ret
    exact ⟨rfl, KZ.out⟩

theorem walkRosterMay {w : World} (v0 : Value) (w0 : InL w v0) (v1 : Value) (w1 : InL w v1) :
    Calls Try.prog 6 #[v0, v1] w fun e w' => e = .returned (.bool true) ∧ Below w.heap.size w w' := by
  obtain ⟨a, ha, _, _⟩ := w0
  obtain ⟨b, hb, _, _⟩ := w1
  exact (rosmay_any _ _ a b w ha hb).mono fun e w' ⟨he, hk⟩ => ⟨he, hk.b⟩
end Go.Proofs.Ythlfgjlnjmjppaa
