/-
  Roster: Join.
-/
import Derived.Test.YthlfgjlnjmjppaaRosG2
import Derived.Test.YthlfgjlnjmjppaaKrip2
import Derived.StillTailTactics
namespace Go.Proofs.Ythlfgjlnjmjppaa
open Go.RowKit
attribute [local irreducible] kAll
attribute [local go_sem] kQuiet kQuietUpon

theorem id_one (l : List ID) : ∀ u ∈ l.flatMap cID, u.oneCell' = true := by
  intro u hu
  obtain ⟨x, _, hx⟩ := List.mem_flatMap.1 hu
  simp [cID] at hx
  rcases hx with rfl | rfl <;> rfl
theorem may_bd {p : ID} (h : mayID p = true) : 1 ≤ p.1 ∧ p.1 ≤ 12 ∧ 1 ≤ p.2 ∧ p.2 ≤ 1048576 := by simpa [mayID] using h

set_option maxRecDepth 100000 in
set_option maxHeartbeats 8000000 in
theorem join_any (A1 A2 A3 A4 : Option Addr) (n1 n2 n3 n4 c1 c2 c3 c4 : Nat) (m : List Mem) (f : List ID) (m' : List Mem) (f' : List ID) (w : World)
    (h1 : RdMem w A1 n1 m) (h2 : RdI w A2 n2 f) (h3 : RdMem w A3 n3 m') (h4 : RdI w A4 n4 f') (b1 : n1 ≤ 100000) (b2 : n2 ≤ 100000) (b3 : n3 ≤ 100000) (b4 : n4 ≤ 100000) :
    Calls Try.prog 27 #[.slice A1 n1 c1, .slice A2 n2 c2, .slice A3 n3 c3, .slice A4 n4 c4] w (JoinSays w (memT (allT m m') (flT (allT m m') (f ++ f')) 12) (lowT (flT (allT m m') (f ++ f')) 12)) := by
  have H1 := Lib.hid h1
  have H2 := Lib.hid h2
  have H3 := Lib.hid h3
  have H4 := Lib.hid h4
  clear h1 h2 h3 h4
  go_enter Try.func27, Try.ntmps27
  go_wp2_with fail
  have ka : Keep (fun _ => False) w (w.alloc (.cells #[.slice A1 n1 c1, .slice A3 n3 c3] 22)) := (Keep.refl _ w).alloc _
  refine (concatM_any w.heap.size A1 A3 n1 n3 c1 c3 (m.flatMap cMem) (m'.flatMap cMem) _ ((Blk.new w 22 #[.slice A1 n1 c1, .slice A3 n3 c3]).cell 0) ((Blk.new w 22 #[.slice A1 n1 c1, .slice A3 n3 c3]).cell 1) (H1.out.keep0 ka).2 (H3.out.keep0 ka).2 (mem_one m) (mem_one m') (by omega) (by omega)).mono ?_
  rintro e w1 ⟨row1, B1, d1, rfl, hs1, hr1, hk1⟩
  have k1 := keep0_trans _ _ _ ka hk1
  have K1 := Lib.hid k1
  have HS1 := Lib.hid hs1
  have HR1 := Lib.hid hr1
  clear hs1 hr1 hk1 k1 ka
  go_wp2_with fail
  have hcat : m.flatMap cMem ++ m'.flatMap cMem = (m ++ m').flatMap cMem := by rw [List.flatMap_append]
  rw [hcat] at HS1
  refine (delete_any row1 B1 (n1 + n3) d1 (m ++ m') w1 (by rw [List.length_append, H1.out.1, H3.out.1]) HS1.out (by omega)).mono ?_
  rintro e w2 ⟨na, rfl, hna, hs2, hk2⟩
  have k2 : Keep (fun _ => False) w w2 := K1.out.trans (hk2.mono fun g _ e => .inr (by have := HR1.out g e; simp at this; omega))
  have K2 := Lib.hid k2
  have hall : (m ++ m').filter okE = allT m m' := rfl
  rw [hall] at hna hs2
  have HA := Lib.hid (show RdMem w2 B1 na (allT m m') from ⟨hna.symm, hs2.rd⟩)
  have HOK := Lib.hid (all_ok m m')
  have hnb : na ≤ 200000 := by
    rw [hna]
    have := List.length_filter_le okE (m ++ m')
    have e1 := H1.out.1
    have e3 := H3.out.1
    simp only [List.length_append] at this
    unfold allT
    omega
  have HNA := Lib.hid hna
  clear hk2 k2 hall hna hs2 hcat
  generalize allT m m' = all at *
  go_wp2_with fail
  have hB : w.heap.size ≤ w2.heap.size := K2.out.size
  have HA2 : Hid (∀ W, Keep (fun _ => False) w2 W → RdMem W B1 na all) := Lib.hid fun W h => HA.out.keep0 h
  have Z0 : #[Value.int .i64 0, .int .i64 0, .int .i64 0, .int .i64 0, .int .i64 0, .int .i64 0, .int .i64 0, .int .i64 0, .int .i64 0, .int .i64 0, .int .i64 0, .int .i64 0, .int .i64 0] = arrV (fun _ => 0) := rfl
  rw [Z0]
  clear Z0
  have kk : Keep (fun _ => False) w2 ((w2.alloc (.cells (arrV fun _ => 0) 61)).alloc (.cells (arrV fun _ => 0) 61)) := ((Keep.refl _ _).alloc _).alloc _
  have bF := (Blk.new w2 61 (arrV fun _ => 0)).alloc (.cells (arrV fun _ => 0) 61)
  have bN := Blk.new_ (w := w2.alloc (.cells (arrV fun _ => 0) 61)) (B := w2.heap.size + 1) (by simp) 61 (arrV fun _ => 0)
  have KK := Lib.hid kk
  have BF := Lib.hid bF
  have BN := Lib.hid bN
  clear kk bF bN
  go_loopw [32] (fun i wr => ∃ k : Nat, k ≤ na ∧ i = .int .i64 (k : Int) ∧ Hid (Keep (fun _ => False) w2 wr) ∧ Hid (Blk wr w2.heap.size 61 (arrV fun _ => 0)) ∧ Hid (Blk wr (w2.heap.size + 1) 61 (arrV (nwT (all.take k))))) (fun i _ => na - (intOf i).toNat)
  case atStart => exact ⟨0, Nat.zero_le _, rfl, Lib.hid KK.out, Lib.hid BF.out, Lib.hid BN.out⟩
  case round =>
    obtain ⟨k, hk, rfl, HK, HBF, HBN⟩ := hrel
    by_cases hlt : k < na
    · obtain ⟨g, off, rfl, q0, q1, q2, q3⟩ := (HA2.out _ HK.out).at_ hlt
      have hkl : k < all.length := by have := HNA.out; omega
      have hokx := okE_bd (HOK.out (all.getD k zeroMem) (by simp [List.getD, hkl]))
      obtain ⟨ad, had⟩ := Int.eq_ofNat_of_zero_le (show 0 ≤ (all.getD k zeroMem).addr by omega)
      have hsu : arrV (nwT (all.take (k + 1))) = (arrV (nwT (all.take k))).setIfInBounds ad (.int .i64 (max (nwT (all.take k) ad) (all.getD k zeroMem).inc)) := by
        rw [arr_set]; exact arr_congr fun i _ => nwT_succ all k hkl ad had i
      have HSU := Lib.hid hsu
      have HBN' := HBN
      have pa := HBN.out.cell ad
      have pf := HBN.out.frozen ad
      have hB2 := HBN.out.lt
      rw [arr_get _ _ (by omega)] at pa
      clear hsu
      generalize nwT (all.take k) ad = nv at *
      generalize arrV (nwT (all.take k)) = arr at *
      generalize all.getD k zeroMem = x at *
      obtain ⟨a, ic, s, m⟩ := x
      simp only at q0 q1 q2 q3 had hokx HSU
      subst had
      have hmx : (if nv < ic then ic else nv) = max nv ic := by omega
      have had1 : ad < 13 := by omega
      have hadI : (ad : Int) < 13 := by omega
      have hadJ : (0 : Int) ≤ (ad : Int) := by omega
      have BX := Lib.hid (Blk.new wr 32 #[.int .i64 (ad : Int), .int .i64 ic, .int .u8 s, .int .i64 m])
      have PA := Lib.hid (((Keep.refl (fun _ => False) wr).alloc (.cells #[.int .i64 (ad : Int), .int .i64 ic, .int .u8 s, .int .i64 m] 32)).drew.cell pa (fun h => h))
      go_wp2_with fail
      refine wp_region_krip (Keep (fun _ => False)) (Keep.refl _) keep0_trans 13 (by kernel_rfl) (by kernel_rfl) (Ts := [none, none, some (.inl (.int .i64 (ad : Int))), none, none, some (.inl (.int .i64 (ad : Int))), none, some (.inl (.int .i64 nv)), none, none, some (.inl (.int .i64 ic)), some (.inl (.int .i64 (max nv ic))), none]) ?_
      simp only [List.take, List.drop]
      refine kAll_p (fun K hK => ?_)
      go_simp
      generalize hZ : (Act.mk _ _) = Z
      refine hK Z ?_
      subst hZ
      clear hK K
      refine kAll_p (fun K hK => ?_)
      go_simp
      generalize hZ : (Act.mk _ _) = Z
      refine hK Z ?_
      subst hZ
      clear hK K
      refine kAll_d _ (fun W hW hF => kStep_of fun K Q hK => ?_) ?_
      · have hcell := (BX.out.drew.keep hW (fun h => h)).cell 0
        go_simp
        exact hK _ _ (Keep.refl _ _) rfl
      refine kAll_p (fun K hK => ?_)
      go_simp
      generalize hZ : (Act.mk _ _) = Z
      refine hK Z ?_
      subst hZ
      clear hK K
      refine kAll_p (fun K hK => ?_)
      go_simp
      generalize hZ : (Act.mk _ _) = Z
      refine hK Z ?_
      subst hZ
      clear hK K
      refine kAll_d _ (fun W hW hF => kStep_of fun K Q hK => ?_) ?_
      · have hcell := (BX.out.drew.keep hW (fun h => h)).cell 0
        go_simp
        exact hK _ _ (Keep.refl _ _) rfl
      refine kAll_p (fun K hK => ?_)
      go_simp
      generalize hZ : (Act.mk _ _) = Z
      refine hK Z ?_
      subst hZ
      clear hK K
      refine kAll_d _ (fun W hW hF => kStep_of fun K Q hK => ?_) ?_
      · have hcell := hW.cell PA.out (fun h => h)
        go_simp
        exact hK _ _ (Keep.refl _ _) rfl
      refine kAll_p (fun K hK => ?_)
      go_simp
      generalize hZ : (Act.mk _ _) = Z
      refine hK Z ?_
      subst hZ
      clear hK K
      refine kAll_p (fun K hK => ?_)
      go_simp
      generalize hZ : (Act.mk _ _) = Z
      refine hK Z ?_
      subst hZ
      clear hK K
      refine kAll_d _ (fun W hW hF => kStep_of fun K Q hK => ?_) ?_
      · have hcell := (BX.out.drew.keep hW (fun h => h)).cell 1
        go_simp
        exact hK _ _ (Keep.refl _ _) rfl
      refine kAll_d _ (fun W hW hF => kStep_of fun K Q hK => ?_) ?_
      · go_simp
        exact hK _ _ (Keep.refl _ _) rfl
      refine kAll_p (fun K hK => ?_)
      go_simp
      generalize hZ : (Act.mk _ _) = Z
      refine hK Z ?_
      subst hZ
      clear hK K
      refine kAll_nil (fun W hW hF => ?_)
      clear hF
      have pW := hW.cell PA.out (fun h => h)
      have fW := ((HBN'.out.alloc (.cells #[.int .i64 (ad : Int), .int .i64 ic, .int .u8 s, .int .i64 m] 32)).drew.keep hW (fun h => h)).frozen ad
      have HW := Lib.hid (keepD ((Keep.refl (fun _ => False) wr).alloc (.cells #[.int .i64 (ad : Int), .int .i64 ic, .int .u8 s, .int .i64 m] 32)) hW)
      clear hW pa pf
      go_wp2
      go_roundw
      case rel =>
        refine ⟨k + 1, by omega, by go_num, Lib.hid ((keep0_trans _ _ _ HK.out HW.out).new (by simp) _), Lib.hid ((HBF.out.keep HW.out (fun h => h)).far (by simp) _), Lib.hid ?_⟩
        rw [HSU.out]
        exact (HBN'.out.keep HW.out (fun h => h)).set_ ad _
      case measure => simp [intOf]; omega
    · obtain rfl : na = k := by omega
      have hfull : all.take na = all := List.take_of_length_le (by rw [← HNA.out]; exact Nat.le_refl _)
      rw [hfull] at HBN
      clear hfull
      have HBN0 := HBN
      clear HBN
      go_wp2_with fail
      go_loopw [52] (fun i wr => ∃ k : Nat, k ≤ na ∧ i = .int .i64 (k : Int) ∧ Hid (Keep (fun _ => False) w2 wr) ∧ Hid (Blk wr w2.heap.size 61 (arrV (f1T (nwT all) (all.take k)))) ∧ Hid (Blk wr (w2.heap.size + 1) 61 (arrV (nwT all)))) (fun i _ => na - (intOf i).toNat)
      case atStart => exact ⟨0, Nat.zero_le _, rfl, HK, HBF, HBN0⟩
      case round =>
        obtain ⟨k, hk, rfl, HK, HBF, HBN⟩ := hrel
        by_cases hlt : k < na
        · obtain ⟨g, off, rfl, q0, q1, q2, q3⟩ := (HA2.out _ HK.out).at_ hlt
          have hkl : k < all.length := by have := HNA.out; omega
          have hokx := okE_bd (HOK.out (all.getD k zeroMem) (by simp [List.getD, hkl]))
          obtain ⟨ad, had⟩ := Int.eq_ofNat_of_zero_le (show 0 ≤ (all.getD k zeroMem).addr by omega)
          have had1 : ad < 13 := by omega
          have hsA : (all.getD k zeroMem).st = 7 ∨ (all.getD k zeroMem).inc < nwT all ad → arrV (f1T (nwT all) (all.take (k + 1))) = (arrV (f1T (nwT all) (all.take k))).setIfInBounds ad (.int .i64 (max (f1T (nwT all) (all.take k) ad) (all.getD k zeroMem).inc)) := fun hc => by
            rw [arr_set]; exact arr_congr fun i _ => by rw [f1T_succ _ all k hkl ad had i, if_pos hc]
          have hsC : ¬ ((all.getD k zeroMem).st = 7 ∨ (all.getD k zeroMem).inc < nwT all ad) → arrV (f1T (nwT all) (all.take (k + 1))) = arrV (f1T (nwT all) (all.take k)) := fun hc =>
            arr_congr fun i _ => by rw [f1T_succ _ all k hkl ad had i, if_neg hc]
          have HsA := Lib.hid hsA
          have HsC := Lib.hid hsC
          have pa := HBF.out.cell ad
          rw [arr_get _ _ (by omega)] at pa
          have pn := HBN.out.cell ad
          rw [arr_get _ _ (by omega)] at pn
          have hB2 := HBN.out.lt
          clear hsA hsC hkl
          generalize f1T (nwT all) (all.take k) ad = nv at *
          generalize arrV (f1T (nwT all) (all.take k)) = arr at *
          generalize nwT all ad = Na at *
          generalize all.getD k zeroMem = x at *
          obtain ⟨a, ic, s, m⟩ := x
          simp only at q0 q1 q2 q3 had hokx HsA HsC
          subst had
          have hmx : (if nv < ic then ic else nv) = max nv ic := by omega
          have hadI : (ad : Int) < 13 := by omega
          have hadJ : (0 : Int) ≤ (ad : Int) := by omega
          have BX := Lib.hid (Blk.new wr 32 #[.int .i64 (ad : Int), .int .i64 ic, .int .u8 s, .int .i64 m])
          have PA := Lib.hid pa
          have PN := Lib.hid (((Keep.refl (fun _ => False) wr).alloc (.cells #[.int .i64 (ad : Int), .int .i64 ic, .int .u8 s, .int .i64 m] 32)).drew.cell pn (fun h => h))
          clear pa pn
          by_cases h7 : s = 7
          · subst h7
            have HSA := Lib.hid (HsA.out (.inl rfl))
            go_wp2_with fail
            refine wp_region_krip (Keep (fun _ => False)) (Keep.refl _) keep0_trans 14 (by kernel_rfl) (by kernel_rfl) (Ts := [none, some (.inl (.int .u8 7)), none, none, none, none, none, none, none, none, none, none, none, none]) ?_
            simp only [List.take, List.drop]
            refine kAll_p (fun K hK => ?_)
            go_simp
            generalize hZ : (Act.mk _ _) = Z
            refine hK Z ?_
            subst hZ
            clear hK K
            refine kAll_d _ (fun W hW hF => kStep_of fun K Q hK => ?_) ?_
            · have hcell := (BX.out.drew.keep hW (fun h => h)).cell 2
              go_simp
              exact hK _ _ (Keep.refl _ _) rfl
            refine kAll_p (fun K hK => ?_)
            go_simp
            generalize hZ : (Act.mk _ _) = Z
            refine hK Z ?_
            subst hZ
            clear hK K
            refine kAll_p (fun K hK => ?_)
            go_simp
            generalize hZ : (Act.mk _ _) = Z
            refine hK Z ?_
            subst hZ
            clear hK K
            refine kAll_skip (by kernel_rfl) ?_
            refine kAll_skip (by kernel_rfl) ?_
            refine kAll_skip (by kernel_rfl) ?_
            refine kAll_skip (by kernel_rfl) ?_
            refine kAll_skip (by kernel_rfl) ?_
            refine kAll_skip (by kernel_rfl) ?_
            refine kAll_skip (by kernel_rfl) ?_
            refine kAll_skip (by kernel_rfl) ?_
            refine kAll_skip (by kernel_rfl) ?_
            refine kAll_p (fun K hK => ?_)
            go_simp
            generalize hZ : (Act.mk _ _) = Z
            refine hK Z ?_
            subst hZ
            clear hK K
            refine kAll_nil (fun W hW hF => ?_)
            clear hF
            have HW := Lib.hid (keepD ((Keep.refl (fun _ => False) wr).alloc (.cells #[.int .i64 (ad : Int), .int .i64 ic, .int .u8 7, .int .i64 m] 32)) hW)
            have BXW := Lib.hid (BX.out.drew.keep hW (fun h => h))
            have hB3 := (HBF.out.keep HW.out (fun h => h)).lt
            clear hW
            have PA2 := Lib.hid ((Keep.refl (fun _ => False) W).drew.cell (HW.out.cell PA.out (fun h => h)) (fun h => h))
            go_wp2_with fail
            refine wp_region_krip (Keep (fun _ => False)) (Keep.refl _) keep0_trans 13 (by kernel_rfl) (by kernel_rfl) (Ts := [none, none, some (.inl (.int .i64 (ad : Int))), none, none, some (.inl (.int .i64 (ad : Int))), none, some (.inl (.int .i64 nv)), none, none, some (.inl (.int .i64 ic)), some (.inl (.int .i64 (max nv ic))), none]) ?_
            simp only [List.take, List.drop]
            refine kAll_p (fun K hK => ?_)
            go_simp
            generalize hZ : (Act.mk _ _) = Z
            refine hK Z ?_
            subst hZ
            clear hK K
            refine kAll_p (fun K hK => ?_)
            go_simp
            generalize hZ : (Act.mk _ _) = Z
            refine hK Z ?_
            subst hZ
            clear hK K
            refine kAll_d _ (fun W hW hF => kStep_of fun K Q hK => ?_) ?_
            · have hcell := (BXW.out.drew.keep hW (fun h => h)).cell 0
              go_simp
              exact hK _ _ (Keep.refl _ _) rfl
            refine kAll_p (fun K hK => ?_)
            go_simp
            generalize hZ : (Act.mk _ _) = Z
            refine hK Z ?_
            subst hZ
            clear hK K
            refine kAll_p (fun K hK => ?_)
            go_simp
            generalize hZ : (Act.mk _ _) = Z
            refine hK Z ?_
            subst hZ
            clear hK K
            refine kAll_d _ (fun W hW hF => kStep_of fun K Q hK => ?_) ?_
            · have hcell := (BXW.out.drew.keep hW (fun h => h)).cell 0
              go_simp
              exact hK _ _ (Keep.refl _ _) rfl
            refine kAll_p (fun K hK => ?_)
            go_simp
            generalize hZ : (Act.mk _ _) = Z
            refine hK Z ?_
            subst hZ
            clear hK K
            refine kAll_d _ (fun W hW hF => kStep_of fun K Q hK => ?_) ?_
            · have hcell := hW.cell PA2.out (fun h => h)
              go_simp
              exact hK _ _ (Keep.refl _ _) rfl
            refine kAll_p (fun K hK => ?_)
            go_simp
            generalize hZ : (Act.mk _ _) = Z
            refine hK Z ?_
            subst hZ
            clear hK K
            refine kAll_p (fun K hK => ?_)
            go_simp
            generalize hZ : (Act.mk _ _) = Z
            refine hK Z ?_
            subst hZ
            clear hK K
            refine kAll_d _ (fun W hW hF => kStep_of fun K Q hK => ?_) ?_
            · have hcell := (BXW.out.drew.keep hW (fun h => h)).cell 1
              go_simp
              exact hK _ _ (Keep.refl _ _) rfl
            refine kAll_d _ (fun W hW hF => kStep_of fun K Q hK => ?_) ?_
            · go_simp
              exact hK _ _ (Keep.refl _ _) rfl
            refine kAll_p (fun K hK => ?_)
            go_simp
            generalize hZ : (Act.mk _ _) = Z
            refine hK Z ?_
            subst hZ
            clear hK K
            refine kAll_nil (fun W2 hW2 hF => ?_)
            clear hF
            have HW2 := Lib.hid (keepD (Keep.refl (fun _ => False) W) hW2)
            have HW3 := Lib.hid (keep0_trans _ _ _ HW.out HW2.out)
            have pW := HW3.out.cell PA.out (fun h => h)
            have fW := (HBF.out.keep HW3.out (fun h => h)).frozen ad
            clear hW2
            go_wp2
            go_roundw
            case rel =>
              refine ⟨k + 1, by omega, by go_num, Lib.hid ((keep0_trans _ _ _ HK.out HW3.out).new (by simp) _), Lib.hid ?_, Lib.hid ((HBN.out.keep HW3.out (fun h => h)).far (by simp) _)⟩
              rw [HSA.out]
              exact (HBF.out.keep HW3.out (fun h => h)).set_ ad _
            case measure => simp [intOf]; omega
          · have e7 : (s == 7) = false := by simpa using h7
            by_cases hlt2 : ic < Na
            · have HSA := Lib.hid (HsA.out (.inr hlt2))
              clear h7
              go_wp2_with fail
              refine wp_region_krip (Keep (fun _ => False)) (Keep.refl _) keep0_trans 14 (by kernel_rfl) (by kernel_rfl) (Ts := [none, some (.inl (.int .u8 s)), none, none, none, none, some (.inl (.int .i64 ic)), none, none, some (.inl (.int .i64 (ad : Int))), none, some (.inl (.int .i64 Na)), none, none]) ?_
              simp only [List.take, List.drop]
              refine kAll_p (fun K hK => ?_)
              go_simp
              generalize hZ : (Act.mk _ _) = Z
              refine hK Z ?_
              subst hZ
              clear hK K
              refine kAll_d _ (fun W hW hF => kStep_of fun K Q hK => ?_) ?_
              · have hcell := (BX.out.drew.keep hW (fun h => h)).cell 2
                go_simp
                exact hK _ _ (Keep.refl _ _) rfl
              refine kAll_p (fun K hK => ?_)
              go_simp
              generalize hZ : (Act.mk _ _) = Z
              refine hK Z ?_
              subst hZ
              clear hK K
              refine kAll_p (fun K hK => ?_)
              go_simp
              generalize hZ : (Act.mk _ _) = Z
              refine hK Z ?_
              subst hZ
              clear hK K
              refine kAll_pw (by kernel_rfl) (fun K hK => ?_)
              go_simp
              generalize hZ : (Act.mk _ _) = Z
              refine hK Z ?_
              subst hZ
              clear hK K
              refine kAll_pw (by kernel_rfl) (fun K hK => ?_)
              go_simp
              generalize hZ : (Act.mk _ _) = Z
              refine hK Z ?_
              subst hZ
              clear hK K
              refine kAll_d _ (fun W hW hF => kStep_w (by kernel_rfl) fun K Q hK => ?_) ?_
              · have hcell := (BX.out.drew.keep hW (fun h => h)).cell 1
                go_simp
                exact hK _ _ (Keep.refl _ _) rfl
              refine kAll_pw (by kernel_rfl) (fun K hK => ?_)
              go_simp
              generalize hZ : (Act.mk _ _) = Z
              refine hK Z ?_
              subst hZ
              clear hK K
              refine kAll_pw (by kernel_rfl) (fun K hK => ?_)
              go_simp
              generalize hZ : (Act.mk _ _) = Z
              refine hK Z ?_
              subst hZ
              clear hK K
              refine kAll_d _ (fun W hW hF => kStep_w (by kernel_rfl) fun K Q hK => ?_) ?_
              · have hcell := (BX.out.drew.keep hW (fun h => h)).cell 0
                go_simp
                exact hK _ _ (Keep.refl _ _) rfl
              refine kAll_pw (by kernel_rfl) (fun K hK => ?_)
              go_simp
              generalize hZ : (Act.mk _ _) = Z
              refine hK Z ?_
              subst hZ
              clear hK K
              refine kAll_d _ (fun W hW hF => kStep_w (by kernel_rfl) fun K Q hK => ?_) ?_
              · have hcell := hW.cell PN.out (fun h => h)
                go_simp
                exact hK _ _ (Keep.refl _ _) rfl
              refine kAll_pw (by kernel_rfl) (fun K hK => ?_)
              go_simp
              generalize hZ : (Act.mk _ _) = Z
              refine hK Z ?_
              subst hZ
              clear hK K
              refine kAll_p (fun K hK => ?_)
              go_simp
              generalize hZ : (Act.mk _ _) = Z
              refine hK Z ?_
              subst hZ
              clear hK K
              refine kAll_nil (fun W hW hF => ?_)
              clear hF
              have HW := Lib.hid (keepD ((Keep.refl (fun _ => False) wr).alloc (.cells #[.int .i64 (ad : Int), .int .i64 ic, .int .u8 s, .int .i64 m] 32)) hW)
              have BXW := Lib.hid (BX.out.drew.keep hW (fun h => h))
              have hB3 := (HBF.out.keep HW.out (fun h => h)).lt
              clear hW
              have PA2 := Lib.hid ((Keep.refl (fun _ => False) W).drew.cell (HW.out.cell PA.out (fun h => h)) (fun h => h))
              go_wp2_with fail
              refine wp_region_krip (Keep (fun _ => False)) (Keep.refl _) keep0_trans 13 (by kernel_rfl) (by kernel_rfl) (Ts := [none, none, some (.inl (.int .i64 (ad : Int))), none, none, some (.inl (.int .i64 (ad : Int))), none, some (.inl (.int .i64 nv)), none, none, some (.inl (.int .i64 ic)), some (.inl (.int .i64 (max nv ic))), none]) ?_
              simp only [List.take, List.drop]
              refine kAll_p (fun K hK => ?_)
              go_simp
              generalize hZ : (Act.mk _ _) = Z
              refine hK Z ?_
              subst hZ
              clear hK K
              refine kAll_p (fun K hK => ?_)
              go_simp
              generalize hZ : (Act.mk _ _) = Z
              refine hK Z ?_
              subst hZ
              clear hK K
              refine kAll_d _ (fun W hW hF => kStep_of fun K Q hK => ?_) ?_
              · have hcell := (BXW.out.drew.keep hW (fun h => h)).cell 0
                go_simp
                exact hK _ _ (Keep.refl _ _) rfl
              refine kAll_p (fun K hK => ?_)
              go_simp
              generalize hZ : (Act.mk _ _) = Z
              refine hK Z ?_
              subst hZ
              clear hK K
              refine kAll_p (fun K hK => ?_)
              go_simp
              generalize hZ : (Act.mk _ _) = Z
              refine hK Z ?_
              subst hZ
              clear hK K
              refine kAll_d _ (fun W hW hF => kStep_of fun K Q hK => ?_) ?_
              · have hcell := (BXW.out.drew.keep hW (fun h => h)).cell 0
                go_simp
                exact hK _ _ (Keep.refl _ _) rfl
              refine kAll_p (fun K hK => ?_)
              go_simp
              generalize hZ : (Act.mk _ _) = Z
              refine hK Z ?_
              subst hZ
              clear hK K
              refine kAll_d _ (fun W hW hF => kStep_of fun K Q hK => ?_) ?_
              · have hcell := hW.cell PA2.out (fun h => h)
                go_simp
                exact hK _ _ (Keep.refl _ _) rfl
              refine kAll_p (fun K hK => ?_)
              go_simp
              generalize hZ : (Act.mk _ _) = Z
              refine hK Z ?_
              subst hZ
              clear hK K
              refine kAll_p (fun K hK => ?_)
              go_simp
              generalize hZ : (Act.mk _ _) = Z
              refine hK Z ?_
              subst hZ
              clear hK K
              refine kAll_d _ (fun W hW hF => kStep_of fun K Q hK => ?_) ?_
              · have hcell := (BXW.out.drew.keep hW (fun h => h)).cell 1
                go_simp
                exact hK _ _ (Keep.refl _ _) rfl
              refine kAll_d _ (fun W hW hF => kStep_of fun K Q hK => ?_) ?_
              · go_simp
                exact hK _ _ (Keep.refl _ _) rfl
              refine kAll_p (fun K hK => ?_)
              go_simp
              generalize hZ : (Act.mk _ _) = Z
              refine hK Z ?_
              subst hZ
              clear hK K
              refine kAll_nil (fun W2 hW2 hF => ?_)
              clear hF
              have HW2 := Lib.hid (keepD (Keep.refl (fun _ => False) W) hW2)
              have HW3 := Lib.hid (keep0_trans _ _ _ HW.out HW2.out)
              have pW := HW3.out.cell PA.out (fun h => h)
              have fW := (HBF.out.keep HW3.out (fun h => h)).frozen ad
              clear hW2
              go_wp2
              go_roundw
              case rel =>
                refine ⟨k + 1, by omega, by go_num, Lib.hid ((keep0_trans _ _ _ HK.out HW3.out).new (by simp) _), Lib.hid ?_, Lib.hid ((HBN.out.keep HW3.out (fun h => h)).far (by simp) _)⟩
                rw [HSA.out]
                exact (HBF.out.keep HW3.out (fun h => h)).set_ ad _
              case measure => simp [intOf]; omega
            · have HSC := Lib.hid (HsC.out (fun q => q.elim h7 hlt2))
              clear h7
              go_wp2_with fail
              refine wp_region_krip (Keep (fun _ => False)) (Keep.refl _) keep0_trans 14 (by kernel_rfl) (by kernel_rfl) (Ts := [none, some (.inl (.int .u8 s)), none, none, none, none, some (.inl (.int .i64 ic)), none, none, some (.inl (.int .i64 (ad : Int))), none, some (.inl (.int .i64 Na)), none, none]) ?_
              simp only [List.take, List.drop]
              refine kAll_p (fun K hK => ?_)
              go_simp
              generalize hZ : (Act.mk _ _) = Z
              refine hK Z ?_
              subst hZ
              clear hK K
              refine kAll_d _ (fun W hW hF => kStep_of fun K Q hK => ?_) ?_
              · have hcell := (BX.out.drew.keep hW (fun h => h)).cell 2
                go_simp
                exact hK _ _ (Keep.refl _ _) rfl
              refine kAll_p (fun K hK => ?_)
              go_simp
              generalize hZ : (Act.mk _ _) = Z
              refine hK Z ?_
              subst hZ
              clear hK K
              refine kAll_p (fun K hK => ?_)
              go_simp
              generalize hZ : (Act.mk _ _) = Z
              refine hK Z ?_
              subst hZ
              clear hK K
              refine kAll_pw (by kernel_rfl) (fun K hK => ?_)
              go_simp
              generalize hZ : (Act.mk _ _) = Z
              refine hK Z ?_
              subst hZ
              clear hK K
              refine kAll_pw (by kernel_rfl) (fun K hK => ?_)
              go_simp
              generalize hZ : (Act.mk _ _) = Z
              refine hK Z ?_
              subst hZ
              clear hK K
              refine kAll_d _ (fun W hW hF => kStep_w (by kernel_rfl) fun K Q hK => ?_) ?_
              · have hcell := (BX.out.drew.keep hW (fun h => h)).cell 1
                go_simp
                exact hK _ _ (Keep.refl _ _) rfl
              refine kAll_pw (by kernel_rfl) (fun K hK => ?_)
              go_simp
              generalize hZ : (Act.mk _ _) = Z
              refine hK Z ?_
              subst hZ
              clear hK K
              refine kAll_pw (by kernel_rfl) (fun K hK => ?_)
              go_simp
              generalize hZ : (Act.mk _ _) = Z
              refine hK Z ?_
              subst hZ
              clear hK K
              refine kAll_d _ (fun W hW hF => kStep_w (by kernel_rfl) fun K Q hK => ?_) ?_
              · have hcell := (BX.out.drew.keep hW (fun h => h)).cell 0
                go_simp
                exact hK _ _ (Keep.refl _ _) rfl
              refine kAll_pw (by kernel_rfl) (fun K hK => ?_)
              go_simp
              generalize hZ : (Act.mk _ _) = Z
              refine hK Z ?_
              subst hZ
              clear hK K
              refine kAll_d _ (fun W hW hF => kStep_w (by kernel_rfl) fun K Q hK => ?_) ?_
              · have hcell := hW.cell PN.out (fun h => h)
                go_simp
                exact hK _ _ (Keep.refl _ _) rfl
              refine kAll_pw (by kernel_rfl) (fun K hK => ?_)
              go_simp
              generalize hZ : (Act.mk _ _) = Z
              refine hK Z ?_
              subst hZ
              clear hK K
              refine kAll_p (fun K hK => ?_)
              go_simp
              generalize hZ : (Act.mk _ _) = Z
              refine hK Z ?_
              subst hZ
              clear hK K
              refine kAll_nil (fun W hW hF => ?_)
              clear hF
              have HW := Lib.hid (keepD ((Keep.refl (fun _ => False) wr).alloc (.cells #[.int .i64 (ad : Int), .int .i64 ic, .int .u8 s, .int .i64 m] 32)) hW)
              have BXW := Lib.hid (BX.out.drew.keep hW (fun h => h))
              have hB3 := (HBF.out.keep HW.out (fun h => h)).lt
              clear hW
              go_wp2
              go_roundw
              case rel => exact ⟨k + 1, by omega, by go_num, Lib.hid (keep0_trans _ _ _ HK.out HW.out), Lib.hid (by rw [HSC.out]; exact HBF.out.keep HW.out (fun h => h)), Lib.hid (HBN.out.keep HW.out (fun h => h))⟩
              case measure => simp [intOf]; omega
        · obtain rfl : na = k := by omega
          have hfull : all.take na = all := List.take_of_length_le (by rw [← HNA.out]; exact Nat.le_refl _)
          rw [hfull] at HBF
          clear hfull
          have hw4 : Keep (fun _ => False) w wr := keep0_trans _ _ _ K2.out HK.out
          have ka3 : Keep (fun _ => False) wr (wr.alloc (.cells #[.slice A2 n2 c2, .slice A4 n4 c4] 23)) := (Keep.refl _ wr).alloc _
          have hw5 := keep0_trans _ _ _ hw4 ka3
          go_wp2_with fail
          refine (concatI_any wr.heap.size A2 A4 n2 n4 c2 c4 (f.flatMap cID) (f'.flatMap cID) _ ((Blk.new wr 23 #[.slice A2 n2 c2, .slice A4 n4 c4]).cell 0) ((Blk.new wr 23 #[.slice A2 n2 c2, .slice A4 n4 c4]).cell 1) (H2.out.keep0 hw5).2 (H4.out.keep0 hw5).2 (id_one f) (id_one f') (by omega) (by omega)).mono ?_
          rintro e w3 ⟨row3, B3, d3, rfl, hs3, hr3, hk3⟩
          have k3 := keep0_trans _ _ _ ka3 hk3
          have K3 := Lib.hid (keep0_trans _ _ _ HK.out k3)
          have HBF3 := Lib.hid (HBF.out.keep k3 (fun h => h))
          have HBN3 := Lib.hid (HBN.out.keep k3 (fun h => h))
          have hcat3 : f.flatMap cID ++ f'.flatMap cID = (f ++ f').flatMap cID := by rw [List.flatMap_append]
          rw [hcat3] at hs3
          have HS3 := Lib.hid hs3
          have HFL := Lib.hid (show (f ++ f').length = n2 + n4 by rw [List.length_append, H2.out.1, H4.out.1])
          have HR3 := Lib.hid (show ∀ g, row3 = some g → ¬ g = w2.heap.size from fun g e => by have h1 := hr3 g e; have h2 := HBF.out.lt; simp at h1; omega)
          clear hcat3 hs3 hr3 hk3 k3 ka3 hw5 hw4 HBF HBN HK
          generalize f ++ f' = fs at *
          have HF1 : Hid (Blk w3 w2.heap.size 61 (arrV (f2T (f1T (nwT all) all) []))) := HBF3
          go_wp2_with fail
          go_loopw [89] (fun i wr => ∃ k : Nat, k ≤ n2 + n4 ∧ i = .int .i64 (k : Int) ∧ Hid (Keep (fun g => g = w2.heap.size) w3 wr) ∧ Hid (Blk wr w2.heap.size 61 (arrV (f2T (f1T (nwT all) all) (fs.take k)))) ∧ Hid (Blk wr (w2.heap.size + 1) 61 (arrV (nwT all)))) (fun i _ => n2 + n4 - (intOf i).toNat)
          case atStart => exact ⟨0, Nat.zero_le _, rfl, Lib.hid (Keep.refl _ _), HF1, HBN3⟩
          case round =>
            obtain ⟨k, hk, rfl, HK, HBF, HBN⟩ := hrel
            by_cases hlt : k < n2 + n4
            · have hsr := HS3.out.keep HK.out HR3.out
              obtain ⟨g, off, rfl, q0, q1⟩ := (show RdI _ B3 (n2 + n4) fs from ⟨HFL.out, hsr.rd⟩).at_ hlt
              have hkl : k < fs.length := by have := HFL.out; omega
              clear hsr
              by_cases hm : mayID (fs.getD k (0, 0)) = true
              · have hb := may_bd hm
                obtain ⟨ad, had⟩ := Int.eq_ofNat_of_zero_le (show 0 ≤ (fs.getD k (0, 0)).1 by omega)
                have had1 : ad < 13 := by omega
                have hsA : arrV (f2T (f1T (nwT all) all) (fs.take (k + 1))) = (arrV (f2T (f1T (nwT all) all) (fs.take k))).setIfInBounds ad (.int .i64 (max (f2T (f1T (nwT all) all) (fs.take k) ad) (fs.getD k (0, 0)).2)) := by
                  rw [arr_set]; exact arr_congr fun i _ => f2T_succ _ fs k hkl ad had hm i
                have HSA := Lib.hid hsA
                have pa := HBF.out.cell ad
                rw [arr_get _ _ (by omega)] at pa
                have hB2 := HBF.out.lt
                clear hsA hkl hb
                generalize f2T (f1T (nwT all) all) (fs.take k) ad = nv at *
                generalize arrV (f2T (f1T (nwT all) all) (fs.take k)) = arr at *
                generalize fs.getD k (0, 0) = x at *
                obtain ⟨a, ic⟩ := x
                simp only at q0 q1 had HSA
                subst had
                have hmx : (if nv < ic then ic else nv) = max nv ic := by omega
                have hadI : (ad : Int) < 13 := by omega
                have hadJ : (0 : Int) ≤ (ad : Int) := by omega
                have BX := Lib.hid (Blk.new wr 27 #[.int .i64 (ad : Int), .int .i64 ic])
                have PA := Lib.hid pa
                have HM := Lib.hid hm
                clear pa hm
                go_wp2_with fail
                refine (may_any ((ad : Int), ic) _).mono ?_
                rintro e w5 ⟨rfl, hk5⟩
                rw [HM.out]
                have k5 := keep0_trans _ _ _ ((Keep.refl (fun _ => False) wr).alloc (.cells #[.int .i64 (ad : Int), .int .i64 ic] 27)) hk5
                have BX5 := Lib.hid (BX.out.keep hk5 (fun h => h))
                have PA5 := Lib.hid (k5.drew.cell PA.out (fun h => h))
                have K5 := Lib.hid k5
                clear k5 hk5
                go_wp2_with fail
                refine wp_region_krip (Keep (fun _ => False)) (Keep.refl _) keep0_trans 10 (by kernel_rfl) (by kernel_rfl) (Ts := [none, some (.inl (.int .i64 (ad : Int))), none, some (.inl (.int .i64 (ad : Int))), none, some (.inl (.int .i64 nv)), none, some (.inl (.int .i64 ic)), some (.inl (.int .i64 (max nv ic))), none]) ?_
                simp only [List.take, List.drop]
                refine kAll_p (fun K hK => ?_)
                go_simp
                generalize hZ : (Act.mk _ _) = Z
                refine hK Z ?_
                subst hZ
                clear hK K
                refine kAll_d _ (fun W hW hF => kStep_of fun K Q hK => ?_) ?_
                · have hcell := (BX5.out.drew.keep hW (fun h => h)).cell 0
                  go_simp
                  exact hK _ _ (Keep.refl _ _) rfl
                refine kAll_p (fun K hK => ?_)
                go_simp
                generalize hZ : (Act.mk _ _) = Z
                refine hK Z ?_
                subst hZ
                clear hK K
                refine kAll_d _ (fun W hW hF => kStep_of fun K Q hK => ?_) ?_
                · have hcell := (BX5.out.drew.keep hW (fun h => h)).cell 0
                  go_simp
                  exact hK _ _ (Keep.refl _ _) rfl
                refine kAll_p (fun K hK => ?_)
                go_simp
                generalize hZ : (Act.mk _ _) = Z
                refine hK Z ?_
                subst hZ
                clear hK K
                refine kAll_d _ (fun W hW hF => kStep_of fun K Q hK => ?_) ?_
                · have hcell := hW.cell PA5.out (fun h => h)
                  go_simp
                  exact hK _ _ (Keep.refl _ _) rfl
                refine kAll_p (fun K hK => ?_)
                go_simp
                generalize hZ : (Act.mk _ _) = Z
                refine hK Z ?_
                subst hZ
                clear hK K
                refine kAll_d _ (fun W hW hF => kStep_of fun K Q hK => ?_) ?_
                · have hcell := (BX5.out.drew.keep hW (fun h => h)).cell 1
                  go_simp
                  exact hK _ _ (Keep.refl _ _) rfl
                refine kAll_d _ (fun W hW hF => kStep_of fun K Q hK => ?_) ?_
                · go_simp
                  exact hK _ _ (Keep.refl _ _) rfl
                refine kAll_p (fun K hK => ?_)
                go_simp
                generalize hZ : (Act.mk _ _) = Z
                refine hK Z ?_
                subst hZ
                clear hK K
                refine kAll_nil (fun W hW hF => ?_)
                clear hF
                have HW := Lib.hid (keepD K5.out hW)
                have pW := HW.out.cell PA.out (fun h => h)
                have fW := (HBF.out.keep HW.out (fun h => h)).frozen ad
                clear hW
                go_wp2
                go_roundw
                case rel =>
                  refine ⟨k + 1, by omega, by go_num, Lib.hid ((HK.out.trans (HW.out.mono fun _ _ h => h.elim)).setCell (fun _ => rfl) _), Lib.hid ?_, Lib.hid ((HBN.out.keep HW.out (fun h => h)).far (by simp) _)⟩
                  rw [HSA.out]
                  exact (HBF.out.keep HW.out (fun h => h)).set_ ad _
                case measure => simp [intOf]; omega
              · have hm' : mayID (fs.getD k (0, 0)) = false := by simpa using hm
                have HSC := Lib.hid (show arrV (f2T (f1T (nwT all) all) (fs.take (k + 1))) = arrV (f2T (f1T (nwT all) all) (fs.take k)) from arr_congr fun i _ => f2T_skip _ fs k hkl hm' i)
                clear hm hkl
                generalize arrV (f2T (f1T (nwT all) all) (fs.take k)) = arr at *
                generalize fs.getD k (0, 0) = x at *
                obtain ⟨a, ic⟩ := x
                simp only at q0 q1
                have HM := Lib.hid hm'
                clear hm'
                go_wp2_with fail
                refine (may_any (a, ic) _).mono ?_
                rintro e w5 ⟨rfl, hk5⟩
                rw [HM.out]
                have HW := Lib.hid (keep0_trans _ _ _ ((Keep.refl (fun _ => False) wr).alloc (.cells #[.int .i64 a, .int .i64 ic] 27)) hk5)
                clear hk5
                go_wp2
                go_roundw
                case rel => exact ⟨k + 1, by omega, by go_num, Lib.hid (HK.out.trans (HW.out.mono fun _ _ h => h.elim)), Lib.hid (by rw [HSC.out]; exact HBF.out.keep HW.out (fun h => h)), Lib.hid (HBN.out.keep HW.out (fun h => h))⟩
                case measure => simp [intOf]; omega
            · obtain rfl : n2 + n4 = k := by omega
              have hfull : fs.take (n2 + n4) = fs := List.take_of_length_le (by rw [← HFL.out]; exact Nat.le_refl _)
              rw [hfull] at HBF
              clear hfull
              have K4 := Lib.hid (K3.out.trans (HK.out.mono fun g _ e => .inr (by omega)))
              have HA4 : Hid (∀ W, Keep (fun _ => False) wr W → RdMem W B1 na all) := Lib.hid fun W h => HA2.out W (keep0_trans _ _ _ K4.out h)
              have HF4 : Hid (Blk wr w2.heap.size 61 (arrV (flT all fs))) := HBF
              have HN4 := HBN
              have HW0 := Lib.hid (show w.heap.size ≤ wr.heap.size from Nat.le_trans hB K4.out.size)
              clear HBF HBN HK
              generalize flT all fs = F at *
              obtain ⟨i0, hi, hz0, hz1, hz2⟩ := info_parts infoI
              have HI := Lib.hid hi
              have HZ0 := Lib.hid hz0
              have HZ1 := Lib.hid hz1
              have HZ2 := Lib.hid hz2
              clear hi hz0 hz1 hz2
              generalize hwb : wr = wb at *
              clear hwb
              go_wp2_with fail
              go_loopw [19, 20, 21] (fun ms ls i wl => L4 all F wb ms ls i wl) (fun _ _ i _ => 13 - (intOf i).toNat)
              case atStart => exact ⟨⟨1, none, none, none, none, 0, 0, by omega, by omega, rfl, rfl, rfl, Lib.hid (Keep.refl _ _), Lib.hid (SlK.nil_ _ _ _), Lib.hid (SlK.nil_ _ _ _), Lib.hid (fun _ h => by cases h), Lib.hid (fun _ h => by cases h)⟩⟩
              case round =>
                obtain ⟨ad, rM, rL, AM, AL, cM, cL, hd1, hd2, rfl, rfl, rfl, HK, HM, HL, HRM, HRL⟩ := hrel.out
                by_cases hlt : ad ≤ 12
                · have pf := ((HF4.out.keep HK.out (fun h => h)).cell ad).trans (arr_get _ _ (by omega))
                  have hadI : (ad : Int) < 13 := by omega
                  have hadJ : (0 : Int) ≤ (ad : Int) := by omega
                  have hadK : (ad : Int) ≤ 12 := by omega
                  have HSL := Lib.hid (lowT_succ F ad hd1)
                  have HSM := Lib.hid (memT_succ all F ad hd1)
                  have hll := Nat.le_trans (lowT_len F (ad - 1)) (by omega : ad - 1 ≤ 12)
                  have HML := Lib.hid (Nat.le_trans (memT_len all F (ad - 1)) (by omega : ad - 1 ≤ 12))
                  generalize lowT F (ad - 1) = lt at *
                  generalize memT all F (ad - 1) = mt at *
                  generalize hFa : F ad = Fa at *
                  generalize hNa : nwT all ad = Na at *
                  have HFa := Lib.hid hFa
                  have HNa := Lib.hid hNa
                  clear hFa hNa
                  by_cases h0 : 0 < Fa
                  · have HSL6 := Lib.hid (HSL.out.trans (by rw [if_pos h0]))
                    have ka := HK.out.alloc (.cells #[.int .i64 (ad : Int), .int .i64 Fa] 27)
                    have HLA := Lib.hid (HL.out.keep ((Keep.refl (fun _ => False) wr).alloc (.cells #[.int .i64 (ad : Int), .int .i64 Fa] 27)) (fun _ _ h => h))
                    have RB := Lib.hid (RdK.of_blk (Blk.new wr 27 #[.int .i64 (ad : Int), .int .i64 Fa]) 1 2 rfl)
                    go_wp2_with (at_builtin; refine wpList_append_slK rfl _ _ _ rfl i0 _ 16 Try.underlying23 HI.out HZ0.out HZ1.out HZ2.out rfl (by omega) HLA.out rfl rfl RB.out (by intro u hu; simp at hu; rcases hu with rfl | rfl <;> rfl) (by unfold maxLen; omega) (by omega) ?_; intro row2 A6 c6 w6 hs6 hr6)
                    have hg : Grew rL AL cL (wr.alloc (.cells #[.int .i64 (ad : Int), .int .i64 Fa] 27)) row2 A6 c6 w6 := by
                      rcases hr6 with ⟨q, _⟩ | hg
                      · cases q
                      · exact hg
                    have K6 := Lib.hid (hg.keep0 ka HRL.out)
                    have HRL6 := Lib.hid (hg.own ka.size HRL.out)
                    have HM6 := Lib.hid ((HM.out.keep ((Keep.refl (fun _ => False) wr).alloc (.cells #[.int .i64 (ad : Int), .int .i64 Fa] 27)) (fun _ _ h => h)).keep hg.keep (fun g e e2 => HM.out.rows_ne HL.out (by decide) g e e2))
                    have HL6 : Hid (SlK w6 27 2 row2 A6 (lt.length + 1) c6 ((lt ++ [((ad : Int), Fa)]).flatMap cID)) := Lib.hid (by rw [List.flatMap_append]; exact hs6)
                    clear hs6 hr6 hg ka
                    have PF6 := Lib.hid (((HF4.out.keep K6.out (fun h => h)).drew.cell ad).trans (arr_get _ _ (by omega)))
                    have PN6 := Lib.hid (((HN4.out.keep K6.out (fun h => h)).drew.cell ad).trans (arr_get _ _ (by omega)))
                    rw [HFa.out] at PF6
                    rw [HNa.out] at PN6
                    by_cases h1 : Na ≤ Fa
                    · have HSM6 := Lib.hid (HSM.out.trans (by rw [if_pos h1, List.append_nil]))
                      go_wp2_with fail
                      refine wp_region_krip (Keep (fun _ => False)) (Keep.refl _) keep0_trans 7 (by kernel_rfl) (by kernel_rfl) (Ts := [none, none, some (.inl (.int .i64 Na)), none, none, some (.inl (.int .i64 Fa)), none]) ?_
                      simp only [List.take, List.drop]
                      refine kAll_p (fun K hK => ?_)
                      go_simp
                      generalize hZ : (Act.mk _ _) = Z
                      refine hK Z ?_
                      subst hZ
                      clear hK K
                      refine kAll_p (fun K hK => ?_)
                      go_simp
                      generalize hZ : (Act.mk _ _) = Z
                      refine hK Z ?_
                      subst hZ
                      clear hK K
                      refine kAll_d _ (fun W hW hF => kStep_of fun K Q hK => ?_) ?_
                      · have hcell := hW.cell PN6.out (fun h => h)
                        go_simp
                        exact hK _ _ (Keep.refl _ _) rfl
                      refine kAll_p (fun K hK => ?_)
                      go_simp
                      generalize hZ : (Act.mk _ _) = Z
                      refine hK Z ?_
                      subst hZ
                      clear hK K
                      refine kAll_p (fun K hK => ?_)
                      go_simp
                      generalize hZ : (Act.mk _ _) = Z
                      refine hK Z ?_
                      subst hZ
                      clear hK K
                      refine kAll_d _ (fun W hW hF => kStep_of fun K Q hK => ?_) ?_
                      · have hcell := hW.cell PF6.out (fun h => h)
                        go_simp
                        exact hK _ _ (Keep.refl _ _) rfl
                      refine kAll_p (fun K hK => ?_)
                      go_simp
                      generalize hZ : (Act.mk _ _) = Z
                      refine hK Z ?_
                      subst hZ
                      clear hK K
                      refine kAll_nil (fun W7 hW hF => ?_)
                      clear hF
                      have HW := Lib.hid (keepD (Keep.refl _ w6) hW)
                      clear hW
                      go_wp2
                      go_roundw
                      case rel =>
                        have hgoal : L4 all F wb (.slice AM mt.length cM) (.slice A6 (lt.length + 1) c6) (.int .i64 ((ad : Int) + 1)) W7 := by
                          refine ⟨⟨ad + 1, rM, row2, AM, A6, cM, c6, by omega, by omega, by go_num, ?_, ?_, Lib.hid (keep0_trans _ _ _ K6.out HW.out), Lib.hid ?_, Lib.hid ?_, HRM, HRL6⟩⟩
                          · rw [Nat.add_sub_cancel, HSM6.out]
                          · rw [Nat.add_sub_cancel, HSL6.out]; try simp
                          · rw [Nat.add_sub_cancel, HSM6.out]; exact HM6.out.keep HW.out (fun _ _ h => h)
                          · rw [Nat.add_sub_cancel, HSL6.out]; have := HL6.out.keep HW.out (fun _ _ h => h); simpa using this
                        first | exact hgoal | ((repeat apply Exists.intro); first | exact ⟨hgoal, rfl⟩ | exact ⟨hgoal, rfl, rfl, rfl⟩)
                      case measure => simp [intOf]; omega
                    · have h1' : Fa < Na := by omega
                      go_wp2_with fail
                      refine wp_region_krip (Keep (fun _ => False)) (Keep.refl _) keep0_trans 7 (by kernel_rfl) (by kernel_rfl) (Ts := [none, none, some (.inl (.int .i64 Na)), none, none, some (.inl (.int .i64 Fa)), none]) ?_
                      simp only [List.take, List.drop]
                      refine kAll_p (fun K hK => ?_)
                      go_simp
                      generalize hZ : (Act.mk _ _) = Z
                      refine hK Z ?_
                      subst hZ
                      clear hK K
                      refine kAll_p (fun K hK => ?_)
                      go_simp
                      generalize hZ : (Act.mk _ _) = Z
                      refine hK Z ?_
                      subst hZ
                      clear hK K
                      refine kAll_d _ (fun W hW hF => kStep_of fun K Q hK => ?_) ?_
                      · have hcell := hW.cell PN6.out (fun h => h)
                        go_simp
                        exact hK _ _ (Keep.refl _ _) rfl
                      refine kAll_p (fun K hK => ?_)
                      go_simp
                      generalize hZ : (Act.mk _ _) = Z
                      refine hK Z ?_
                      subst hZ
                      clear hK K
                      refine kAll_p (fun K hK => ?_)
                      go_simp
                      generalize hZ : (Act.mk _ _) = Z
                      refine hK Z ?_
                      subst hZ
                      clear hK K
                      refine kAll_d _ (fun W hW hF => kStep_of fun K Q hK => ?_) ?_
                      · have hcell := hW.cell PF6.out (fun h => h)
                        go_simp
                        exact hK _ _ (Keep.refl _ _) rfl
                      refine kAll_p (fun K hK => ?_)
                      go_simp
                      generalize hZ : (Act.mk _ _) = Z
                      refine hK Z ?_
                      subst hZ
                      clear hK K
                      refine kAll_nil (fun W7 hW hF => ?_)
                      clear hF
                      have HW := Lib.hid (keepD (Keep.refl _ w6) hW)
                      clear hW
                      have pN7 := ((HN4.out.keep (keep0_trans _ _ _ K6.out HW.out) (fun h => h)).cell ad).trans (arr_get _ _ (by omega))
                      rw [HNa.out] at pN7
                      have BX0 := Lib.hid (Blk.new W7 32 #[.int .i64 (ad : Int), .int .i64 Na, .int .u8 0, .int .i64 0])
                      have KX0 := Lib.hid ((Keep.refl (fun _ => False) W7).alloc (.cells #[.int .i64 (ad : Int), .int .i64 Na, .int .u8 0, .int .i64 0] 32))
                      have K7 := Lib.hid (keep0_trans _ _ _ K6.out HW.out)
                      go_wp2_with fail
                      generalize hw7 : W7 = wx at *
                      clear hw7
                      go_loopw [137] (fun i wr => ∃ j : Nat, j ≤ na ∧ i = .int .i64 (j : Int) ∧ Hid (Keep (fun _ => False) wx wr) ∧ Hid (Blk wr wx.heap.size 32 #[.int .i64 (ad : Int), .int .i64 Na, .int .u8 (snT ((ad : Int), Na) (all.take j)).1, .int .i64 (snT ((ad : Int), Na) (all.take j)).2])) (fun i _ => na - (intOf i).toNat)
                      case atStart => exact ⟨0, Nat.zero_le _, rfl, KX0, BX0⟩
                      case round =>
                        obtain ⟨j, hj, rfl, HK, HB⟩ := hrel
                        by_cases hlt5 : j < na
                        · obtain ⟨g, off, rfl, q0, q1, q2, q3⟩ := (HA4.out _ (keep0_trans _ _ _ K7.out HK.out)).at_ hlt5
                          have hjl : j < all.length := by have := HNA.out; omega
                          have HSN := Lib.hid (snT_succ ((ad : Int), Na) all j hjl)
                          generalize (snT ((ad : Int), Na) (all.take j)) = sn at *
                          generalize all.getD j zeroMem = x at *
                          obtain ⟨a, ic, s, m⟩ := x
                          obtain ⟨s0, m0⟩ := sn
                          simp only at q0 q1 q2 q3
                          obtain ⟨x0, x1, x2, x3, -, -, -, -⟩ := blk_mem HB.out
                          have hB5 := HB.out.lt
                          have G := gID
                          clear hjl
                          by_cases hid : (a, ic) = ((ad : Int), Na)
                          · have E : ∀ W, (binOp .eql 27 (idV (a, ic)) (idV ((ad : Int), Na))).run Try.prog W = .ok (.bool true) W := fun W => by rw [eql_ID, decide_eq_true hid]
                            injection hid with hid1 hid2
                            subst hid1 hid2
                            have HSN2 := Lib.hid (HSN.out.trans (if_pos rfl))
                            have hms : (if s0 < s then s else s0) = max s0 s := by omega
                            have BY := Lib.hid (Blk.new wr 32 #[.int .i64 (ad : Int), .int .i64 ic, .int .u8 s, .int .i64 m])
                            have BX := Lib.hid (HB.out.alloc (.cells #[.int .i64 (ad : Int), .int .i64 ic, .int .u8 s, .int .i64 m] 32))
                            go_wp2_with fail
                            refine wp_region_krip (Keep (fun _ => False)) (Keep.refl _) keep0_trans 11 (by kernel_rfl) (by kernel_rfl) (Ts := [none, some (.inl (.int .u8 s0)), none, some (.inl (.int .u8 s)), some (.inl (.int .u8 (max s0 s))), none, some (.inl (.int .i64 m0)), none, some (.inl (.int .i64 m)), some (.inl (.int .i64 (lessT m0 m))), none]) ?_
                            simp only [List.take, List.drop]
                            refine kAll_p (fun K hK => ?_)
                            go_simp
                            generalize hZ : (Act.mk _ _) = Z
                            refine hK Z ?_
                            subst hZ
                            clear hK K
                            refine kAll_d _ (fun W hW hF => kStep_of fun K Q hK => ?_) ?_
                            · have hcell := (BX.out.drew.keep hW (fun h => h)).cell 2
                              go_simp
                              exact hK _ _ (Keep.refl _ _) rfl
                            refine kAll_p (fun K hK => ?_)
                            go_simp
                            generalize hZ : (Act.mk _ _) = Z
                            refine hK Z ?_
                            subst hZ
                            clear hK K
                            refine kAll_d _ (fun W hW hF => kStep_of fun K Q hK => ?_) ?_
                            · have hcell := (BY.out.drew.keep hW (fun h => h)).cell 2
                              go_simp
                              exact hK _ _ (Keep.refl _ _) rfl
                            refine kAll_d _ (fun W hW hF => kStep_of fun K Q hK => ?_) ?_
                            · go_simp
                              exact hK _ _ (Keep.refl _ _) rfl
                            refine kAll_p (fun K hK => ?_)
                            go_simp
                            generalize hZ : (Act.mk _ _) = Z
                            refine hK Z ?_
                            subst hZ
                            clear hK K
                            refine kAll_d _ (fun W hW hF => kStep_of fun K Q hK => ?_) ?_
                            · have hcell := (BX.out.drew.keep hW (fun h => h)).cell 3
                              go_simp
                              exact hK _ _ (Keep.refl _ _) rfl
                            refine kAll_p (fun K hK => ?_)
                            go_simp
                            generalize hZ : (Act.mk _ _) = Z
                            refine hK Z ?_
                            subst hZ
                            clear hK K
                            refine kAll_d _ (fun W hW hF => kStep_of fun K Q hK => ?_) ?_
                            · have hcell := (BY.out.drew.keep hW (fun h => h)).cell 3
                              go_simp
                              exact hK _ _ (Keep.refl _ _) rfl
                            refine kAll_d _ (fun W hW hF => kStep_of fun K Q hK => ?_) ?_
                            · go_simp
                              refine (less_any m0 m W).mono ?_
                              rintro e w' ⟨rfl, rfl⟩
                              exact hK _ _ (Keep.refl _ _) rfl
                            refine kAll_p (fun K hK => ?_)
                            go_simp
                            generalize hZ : (Act.mk _ _) = Z
                            refine hK Z ?_
                            subst hZ
                            clear hK K
                            refine kAll_nil (fun W8 hW hF => ?_)
                            clear hF
                            have HW8 := Lib.hid (keepD ((Keep.refl (fun _ => False) wr).alloc (.cells #[.int .i64 (ad : Int), .int .i64 ic, .int .u8 s, .int .i64 m] 32)) hW)
                            have BX8 := Lib.hid (BX.out.drew.keep hW (fun h => h))
                            clear hW x0 x1 x2 x3
                            obtain ⟨x0, x1, x2, x3, f0, f1, f2, f3⟩ := blk_mem BX8.out
                            have hB8 := BX8.out.lt
                            go_wp2
                            go_roundw
                            case rel =>
                              refine ⟨j + 1, by omega, by go_num, Lib.hid (((keep0_trans _ _ _ HK.out HW8.out).new (by simp) _).new (by simp) _), Lib.hid ?_⟩
                              rw [HSN2.out]
                              simpa using (BX8.out.set_ 2 (.int .u8 (max s0 s))).set_ 3 (.int .i64 (lessT m0 m))
                            case measure => simp [intOf]; omega
                          · have E : ∀ W, (binOp .eql 27 (idV (a, ic)) (idV ((ad : Int), Na))).run Try.prog W = .ok (.bool false) W := fun W => by rw [eql_ID, decide_eq_false hid]
                            have HSN2 := Lib.hid (HSN.out.trans (if_neg hid))
                            clear hid
                            go_wp2
                            go_roundw
                            case rel =>
                              refine ⟨j + 1, by omega, by go_num, Lib.hid (HK.out.alloc _), Lib.hid ?_⟩
                              rw [HSN2.out]
                              exact HB.out.alloc _
                            case measure => simp [intOf]; omega
                        · obtain rfl : na = j := by omega
                          have hfull : all.take na = all := List.take_of_length_le (by rw [← HNA.out]; exact Nat.le_refl _)
                          rw [hfull] at HB
                          clear hfull
                          have HSM6 := Lib.hid (HSM.out.trans (by rw [if_neg (by omega)]))
                          generalize (snT ((ad : Int), Na) all) = sn at *
                          obtain ⟨s0, m0⟩ := sn
                          obtain ⟨x0, x1, x2, x3, -, -, -, -⟩ := blk_mem HB.out
                          obtain ⟨j0, hj0, hy0, hy1, hy2⟩ := info_parts infoM
                          have HJ := Lib.hid hj0
                          have HY0 := Lib.hid hy0
                          have HY1 := Lib.hid hy1
                          have HY2 := Lib.hid hy2
                          clear hj0 hy0 hy1 hy2
                          have ka8 := (keep0_trans _ _ _ K7.out HK.out).alloc (.cells #[.int .i64 (ad : Int), .int .i64 Na, .int .u8 s0, .int .i64 m0] 32)
                          have HMA := Lib.hid (HM6.out.keep (keep0_trans _ _ _ HW.out (HK.out.alloc (.cells #[.int .i64 (ad : Int), .int .i64 Na, .int .u8 s0, .int .i64 m0] 32))) (fun _ _ h => h))
                          have HLA8 := Lib.hid (HL6.out.keep (keep0_trans _ _ _ HW.out (HK.out.alloc (.cells #[.int .i64 (ad : Int), .int .i64 Na, .int .u8 s0, .int .i64 m0] 32))) (fun _ _ h => h))
                          have RB8 := Lib.hid (RdK.of_blk (Blk.new wr 32 #[.int .i64 (ad : Int), .int .i64 Na, .int .u8 s0, .int .i64 m0]) 1 4 rfl)
                          have KA8 := Lib.hid ka8
                          clear ka8
                          have hml := HML.out
                          go_wp2_with (at_builtin; refine wpList_append_slK rfl _ _ _ rfl j0 _ 32 Try.underlying22 HJ.out HY0.out HY1.out HY2.out rfl (by omega) HMA.out rfl rfl RB8.out (by intro u hu; simp at hu; rcases hu with rfl | rfl | rfl | rfl <;> rfl) (by unfold maxLen; omega) (by omega) ?_; intro row9 A9 c9 w9 hs9 hr9)
                          have hg9 : Grew rM AM cM (wr.alloc (.cells #[.int .i64 (ad : Int), .int .i64 Na, .int .u8 s0, .int .i64 m0] 32)) row9 A9 c9 w9 := by
                            exact hr9.resolve_left (fun q => by cases q.1)
                          have K9 := Lib.hid (hg9.keep0 KA8.out HRM.out)
                          have HR9 := Lib.hid (hg9.own KA8.out.size HRM.out)
                          have HL9 := Lib.hid (HLA8.out.keep hg9.keep (fun g e e2 => HMA.out.rows_ne HLA8.out (by decide) g e2 e))
                          have HM9 : Hid (SlK w9 32 4 row9 A9 (mt.length + 1) c9 ((mt ++ [(⟨(ad : Int), Na, s0, m0⟩ : Mem)]).flatMap cMem)) := Lib.hid (by rw [List.flatMap_append]; exact hs9)
                          clear hs9 hr9 hg9 x0 x1 x2 x3
                          go_wp2
                          go_roundw
                          case rel =>
                            have hgoal : L4 all F wb (.slice A9 (mt.length + 1) c9) (.slice A6 (lt.length + 1) c6) (.int .i64 ((ad : Int) + 1)) w9 := by
                              refine ⟨⟨ad + 1, row9, row2, A9, A6, c9, c6, by omega, by omega, by go_num, ?_, ?_, K9, Lib.hid ?_, Lib.hid ?_, HR9, HRL6⟩⟩
                              · rw [Nat.add_sub_cancel, HSM6.out]; simp
                              · rw [Nat.add_sub_cancel, HSL6.out]; try simp
                              · rw [Nat.add_sub_cancel, HSM6.out]; have := HM9.out; simpa using this
                              · rw [Nat.add_sub_cancel, HSL6.out]; have := HL9.out; simpa using this
                            first | exact hgoal | ((repeat apply Exists.intro); first | exact ⟨hgoal, rfl⟩ | exact ⟨hgoal, rfl, rfl, rfl⟩)
                          case measure => simp [intOf]; omega
                  · have HSL6 := Lib.hid (HSL.out.trans (by rw [if_neg h0, List.append_nil]))
                    have h0' : Fa ≤ 0 := by omega
                    have K6 := HK
                    have HM6 := HM
                    have HL6 := HL
                    have HRL6 := HRL
                    have PF6 := Lib.hid (((HF4.out.keep K6.out (fun h => h)).drew.cell ad).trans (arr_get _ _ (by omega)))
                    have PN6 := Lib.hid (((HN4.out.keep K6.out (fun h => h)).drew.cell ad).trans (arr_get _ _ (by omega)))
                    rw [HFa.out] at PF6
                    rw [HNa.out] at PN6
                    by_cases h1 : Na ≤ Fa
                    · have HSM6 := Lib.hid (HSM.out.trans (by rw [if_pos h1, List.append_nil]))
                      go_wp2_with fail
                      refine wp_region_krip (Keep (fun _ => False)) (Keep.refl _) keep0_trans 7 (by kernel_rfl) (by kernel_rfl) (Ts := [none, none, some (.inl (.int .i64 Na)), none, none, some (.inl (.int .i64 Fa)), none]) ?_
                      simp only [List.take, List.drop]
                      refine kAll_p (fun K hK => ?_)
                      go_simp
                      generalize hZ : (Act.mk _ _) = Z
                      refine hK Z ?_
                      subst hZ
                      clear hK K
                      refine kAll_p (fun K hK => ?_)
                      go_simp
                      generalize hZ : (Act.mk _ _) = Z
                      refine hK Z ?_
                      subst hZ
                      clear hK K
                      refine kAll_d _ (fun W hW hF => kStep_of fun K Q hK => ?_) ?_
                      · have hcell := hW.cell PN6.out (fun h => h)
                        go_simp
                        exact hK _ _ (Keep.refl _ _) rfl
                      refine kAll_p (fun K hK => ?_)
                      go_simp
                      generalize hZ : (Act.mk _ _) = Z
                      refine hK Z ?_
                      subst hZ
                      clear hK K
                      refine kAll_p (fun K hK => ?_)
                      go_simp
                      generalize hZ : (Act.mk _ _) = Z
                      refine hK Z ?_
                      subst hZ
                      clear hK K
                      refine kAll_d _ (fun W hW hF => kStep_of fun K Q hK => ?_) ?_
                      · have hcell := hW.cell PF6.out (fun h => h)
                        go_simp
                        exact hK _ _ (Keep.refl _ _) rfl
                      refine kAll_p (fun K hK => ?_)
                      go_simp
                      generalize hZ : (Act.mk _ _) = Z
                      refine hK Z ?_
                      subst hZ
                      clear hK K
                      refine kAll_nil (fun W7 hW hF => ?_)
                      clear hF
                      have HW := Lib.hid (keepD (Keep.refl _ wr) hW)
                      clear hW
                      go_wp2
                      go_roundw
                      case rel =>
                        have hgoal : L4 all F wb (.slice AM mt.length cM) (.slice AL lt.length cL) (.int .i64 ((ad : Int) + 1)) W7 := by
                          refine ⟨⟨ad + 1, rM, rL, AM, AL, cM, cL, by omega, by omega, by go_num, ?_, ?_, Lib.hid (keep0_trans _ _ _ K6.out HW.out), Lib.hid ?_, Lib.hid ?_, HRM, HRL6⟩⟩
                          · rw [Nat.add_sub_cancel, HSM6.out]
                          · rw [Nat.add_sub_cancel, HSL6.out]; try simp
                          · rw [Nat.add_sub_cancel, HSM6.out]; exact HM6.out.keep HW.out (fun _ _ h => h)
                          · rw [Nat.add_sub_cancel, HSL6.out]; have := HL6.out.keep HW.out (fun _ _ h => h); simpa using this
                        first | exact hgoal | ((repeat apply Exists.intro); first | exact ⟨hgoal, rfl⟩ | exact ⟨hgoal, rfl, rfl, rfl⟩)
                      case measure => simp [intOf]; omega
                    · have h1' : Fa < Na := by omega
                      go_wp2_with fail
                      refine wp_region_krip (Keep (fun _ => False)) (Keep.refl _) keep0_trans 7 (by kernel_rfl) (by kernel_rfl) (Ts := [none, none, some (.inl (.int .i64 Na)), none, none, some (.inl (.int .i64 Fa)), none]) ?_
                      simp only [List.take, List.drop]
                      refine kAll_p (fun K hK => ?_)
                      go_simp
                      generalize hZ : (Act.mk _ _) = Z
                      refine hK Z ?_
                      subst hZ
                      clear hK K
                      refine kAll_p (fun K hK => ?_)
                      go_simp
                      generalize hZ : (Act.mk _ _) = Z
                      refine hK Z ?_
                      subst hZ
                      clear hK K
                      refine kAll_d _ (fun W hW hF => kStep_of fun K Q hK => ?_) ?_
                      · have hcell := hW.cell PN6.out (fun h => h)
                        go_simp
                        exact hK _ _ (Keep.refl _ _) rfl
                      refine kAll_p (fun K hK => ?_)
                      go_simp
                      generalize hZ : (Act.mk _ _) = Z
                      refine hK Z ?_
                      subst hZ
                      clear hK K
                      refine kAll_p (fun K hK => ?_)
                      go_simp
                      generalize hZ : (Act.mk _ _) = Z
                      refine hK Z ?_
                      subst hZ
                      clear hK K
                      refine kAll_d _ (fun W hW hF => kStep_of fun K Q hK => ?_) ?_
                      · have hcell := hW.cell PF6.out (fun h => h)
                        go_simp
                        exact hK _ _ (Keep.refl _ _) rfl
                      refine kAll_p (fun K hK => ?_)
                      go_simp
                      generalize hZ : (Act.mk _ _) = Z
                      refine hK Z ?_
                      subst hZ
                      clear hK K
                      refine kAll_nil (fun W7 hW hF => ?_)
                      clear hF
                      have HW := Lib.hid (keepD (Keep.refl _ wr) hW)
                      clear hW
                      have pN7 := ((HN4.out.keep (keep0_trans _ _ _ K6.out HW.out) (fun h => h)).cell ad).trans (arr_get _ _ (by omega))
                      rw [HNa.out] at pN7
                      have BX0 := Lib.hid (Blk.new W7 32 #[.int .i64 (ad : Int), .int .i64 Na, .int .u8 0, .int .i64 0])
                      have KX0 := Lib.hid ((Keep.refl (fun _ => False) W7).alloc (.cells #[.int .i64 (ad : Int), .int .i64 Na, .int .u8 0, .int .i64 0] 32))
                      have K7 := Lib.hid (keep0_trans _ _ _ K6.out HW.out)
                      go_wp2_with fail
                      generalize hw7 : W7 = wx at *
                      clear hw7
                      go_loopw [137] (fun i wr => ∃ j : Nat, j ≤ na ∧ i = .int .i64 (j : Int) ∧ Hid (Keep (fun _ => False) wx wr) ∧ Hid (Blk wr wx.heap.size 32 #[.int .i64 (ad : Int), .int .i64 Na, .int .u8 (snT ((ad : Int), Na) (all.take j)).1, .int .i64 (snT ((ad : Int), Na) (all.take j)).2])) (fun i _ => na - (intOf i).toNat)
                      case atStart => exact ⟨0, Nat.zero_le _, rfl, KX0, BX0⟩
                      case round =>
                        obtain ⟨j, hj, rfl, HK, HB⟩ := hrel
                        by_cases hlt5 : j < na
                        · obtain ⟨g, off, rfl, q0, q1, q2, q3⟩ := (HA4.out _ (keep0_trans _ _ _ K7.out HK.out)).at_ hlt5
                          have hjl : j < all.length := by have := HNA.out; omega
                          have HSN := Lib.hid (snT_succ ((ad : Int), Na) all j hjl)
                          generalize (snT ((ad : Int), Na) (all.take j)) = sn at *
                          generalize all.getD j zeroMem = x at *
                          obtain ⟨a, ic, s, m⟩ := x
                          obtain ⟨s0, m0⟩ := sn
                          simp only at q0 q1 q2 q3
                          obtain ⟨x0, x1, x2, x3, -, -, -, -⟩ := blk_mem HB.out
                          have hB5 := HB.out.lt
                          have G := gID
                          clear hjl
                          by_cases hid : (a, ic) = ((ad : Int), Na)
                          · have E : ∀ W, (binOp .eql 27 (idV (a, ic)) (idV ((ad : Int), Na))).run Try.prog W = .ok (.bool true) W := fun W => by rw [eql_ID, decide_eq_true hid]
                            injection hid with hid1 hid2
                            subst hid1 hid2
                            have HSN2 := Lib.hid (HSN.out.trans (if_pos rfl))
                            have hms : (if s0 < s then s else s0) = max s0 s := by omega
                            have BY := Lib.hid (Blk.new wr 32 #[.int .i64 (ad : Int), .int .i64 ic, .int .u8 s, .int .i64 m])
                            have BX := Lib.hid (HB.out.alloc (.cells #[.int .i64 (ad : Int), .int .i64 ic, .int .u8 s, .int .i64 m] 32))
                            go_wp2_with fail
                            refine wp_region_krip (Keep (fun _ => False)) (Keep.refl _) keep0_trans 11 (by kernel_rfl) (by kernel_rfl) (Ts := [none, some (.inl (.int .u8 s0)), none, some (.inl (.int .u8 s)), some (.inl (.int .u8 (max s0 s))), none, some (.inl (.int .i64 m0)), none, some (.inl (.int .i64 m)), some (.inl (.int .i64 (lessT m0 m))), none]) ?_
                            simp only [List.take, List.drop]
                            refine kAll_p (fun K hK => ?_)
                            go_simp
                            generalize hZ : (Act.mk _ _) = Z
                            refine hK Z ?_
                            subst hZ
                            clear hK K
                            refine kAll_d _ (fun W hW hF => kStep_of fun K Q hK => ?_) ?_
                            · have hcell := (BX.out.drew.keep hW (fun h => h)).cell 2
                              go_simp
                              exact hK _ _ (Keep.refl _ _) rfl
                            refine kAll_p (fun K hK => ?_)
                            go_simp
                            generalize hZ : (Act.mk _ _) = Z
                            refine hK Z ?_
                            subst hZ
                            clear hK K
                            refine kAll_d _ (fun W hW hF => kStep_of fun K Q hK => ?_) ?_
                            · have hcell := (BY.out.drew.keep hW (fun h => h)).cell 2
                              go_simp
                              exact hK _ _ (Keep.refl _ _) rfl
                            refine kAll_d _ (fun W hW hF => kStep_of fun K Q hK => ?_) ?_
                            · go_simp
                              exact hK _ _ (Keep.refl _ _) rfl
                            refine kAll_p (fun K hK => ?_)
                            go_simp
                            generalize hZ : (Act.mk _ _) = Z
                            refine hK Z ?_
                            subst hZ
                            clear hK K
                            refine kAll_d _ (fun W hW hF => kStep_of fun K Q hK => ?_) ?_
                            · have hcell := (BX.out.drew.keep hW (fun h => h)).cell 3
                              go_simp
                              exact hK _ _ (Keep.refl _ _) rfl
                            refine kAll_p (fun K hK => ?_)
                            go_simp
                            generalize hZ : (Act.mk _ _) = Z
                            refine hK Z ?_
                            subst hZ
                            clear hK K
                            refine kAll_d _ (fun W hW hF => kStep_of fun K Q hK => ?_) ?_
                            · have hcell := (BY.out.drew.keep hW (fun h => h)).cell 3
                              go_simp
                              exact hK _ _ (Keep.refl _ _) rfl
                            refine kAll_d _ (fun W hW hF => kStep_of fun K Q hK => ?_) ?_
                            · go_simp
                              refine (less_any m0 m W).mono ?_
                              rintro e w' ⟨rfl, rfl⟩
                              exact hK _ _ (Keep.refl _ _) rfl
                            refine kAll_p (fun K hK => ?_)
                            go_simp
                            generalize hZ : (Act.mk _ _) = Z
                            refine hK Z ?_
                            subst hZ
                            clear hK K
                            refine kAll_nil (fun W8 hW hF => ?_)
                            clear hF
                            have HW8 := Lib.hid (keepD ((Keep.refl (fun _ => False) wr).alloc (.cells #[.int .i64 (ad : Int), .int .i64 ic, .int .u8 s, .int .i64 m] 32)) hW)
                            have BX8 := Lib.hid (BX.out.drew.keep hW (fun h => h))
                            clear hW x0 x1 x2 x3
                            obtain ⟨x0, x1, x2, x3, f0, f1, f2, f3⟩ := blk_mem BX8.out
                            have hB8 := BX8.out.lt
                            go_wp2
                            go_roundw
                            case rel =>
                              refine ⟨j + 1, by omega, by go_num, Lib.hid (((keep0_trans _ _ _ HK.out HW8.out).new (by simp) _).new (by simp) _), Lib.hid ?_⟩
                              rw [HSN2.out]
                              simpa using (BX8.out.set_ 2 (.int .u8 (max s0 s))).set_ 3 (.int .i64 (lessT m0 m))
                            case measure => simp [intOf]; omega
                          · have E : ∀ W, (binOp .eql 27 (idV (a, ic)) (idV ((ad : Int), Na))).run Try.prog W = .ok (.bool false) W := fun W => by rw [eql_ID, decide_eq_false hid]
                            have HSN2 := Lib.hid (HSN.out.trans (if_neg hid))
                            clear hid
                            go_wp2
                            go_roundw
                            case rel =>
                              refine ⟨j + 1, by omega, by go_num, Lib.hid (HK.out.alloc _), Lib.hid ?_⟩
                              rw [HSN2.out]
                              exact HB.out.alloc _
                            case measure => simp [intOf]; omega
                        · obtain rfl : na = j := by omega
                          have hfull : all.take na = all := List.take_of_length_le (by rw [← HNA.out]; exact Nat.le_refl _)
                          rw [hfull] at HB
                          clear hfull
                          have HSM6 := Lib.hid (HSM.out.trans (by rw [if_neg (by omega)]))
                          generalize (snT ((ad : Int), Na) all) = sn at *
                          obtain ⟨s0, m0⟩ := sn
                          obtain ⟨x0, x1, x2, x3, -, -, -, -⟩ := blk_mem HB.out
                          obtain ⟨j0, hj0, hy0, hy1, hy2⟩ := info_parts infoM
                          have HJ := Lib.hid hj0
                          have HY0 := Lib.hid hy0
                          have HY1 := Lib.hid hy1
                          have HY2 := Lib.hid hy2
                          clear hj0 hy0 hy1 hy2
                          have ka8 := (keep0_trans _ _ _ K7.out HK.out).alloc (.cells #[.int .i64 (ad : Int), .int .i64 Na, .int .u8 s0, .int .i64 m0] 32)
                          have HMA := Lib.hid (HM6.out.keep (keep0_trans _ _ _ HW.out (HK.out.alloc (.cells #[.int .i64 (ad : Int), .int .i64 Na, .int .u8 s0, .int .i64 m0] 32))) (fun _ _ h => h))
                          have HLA8 := Lib.hid (HL6.out.keep (keep0_trans _ _ _ HW.out (HK.out.alloc (.cells #[.int .i64 (ad : Int), .int .i64 Na, .int .u8 s0, .int .i64 m0] 32))) (fun _ _ h => h))
                          have RB8 := Lib.hid (RdK.of_blk (Blk.new wr 32 #[.int .i64 (ad : Int), .int .i64 Na, .int .u8 s0, .int .i64 m0]) 1 4 rfl)
                          have KA8 := Lib.hid ka8
                          clear ka8
                          have hml := HML.out
                          go_wp2_with (at_builtin; refine wpList_append_slK rfl _ _ _ rfl j0 _ 32 Try.underlying22 HJ.out HY0.out HY1.out HY2.out rfl (by omega) HMA.out rfl rfl RB8.out (by intro u hu; simp at hu; rcases hu with rfl | rfl | rfl | rfl <;> rfl) (by unfold maxLen; omega) (by omega) ?_; intro row9 A9 c9 w9 hs9 hr9)
                          have hg9 : Grew rM AM cM (wr.alloc (.cells #[.int .i64 (ad : Int), .int .i64 Na, .int .u8 s0, .int .i64 m0] 32)) row9 A9 c9 w9 := by
                            exact hr9.resolve_left (fun q => by cases q.1)
                          have K9 := Lib.hid (hg9.keep0 KA8.out HRM.out)
                          have HR9 := Lib.hid (hg9.own KA8.out.size HRM.out)
                          have HL9 := Lib.hid (HLA8.out.keep hg9.keep (fun g e e2 => HMA.out.rows_ne HLA8.out (by decide) g e2 e))
                          have HM9 : Hid (SlK w9 32 4 row9 A9 (mt.length + 1) c9 ((mt ++ [(⟨(ad : Int), Na, s0, m0⟩ : Mem)]).flatMap cMem)) := Lib.hid (by rw [List.flatMap_append]; exact hs9)
                          clear hs9 hr9 hg9 x0 x1 x2 x3
                          go_wp2
                          go_roundw
                          case rel =>
                            have hgoal : L4 all F wb (.slice A9 (mt.length + 1) c9) (.slice AL lt.length cL) (.int .i64 ((ad : Int) + 1)) w9 := by
                              refine ⟨⟨ad + 1, row9, rL, A9, AL, c9, cL, by omega, by omega, by go_num, ?_, ?_, K9, Lib.hid ?_, Lib.hid ?_, HR9, HRL6⟩⟩
                              · rw [Nat.add_sub_cancel, HSM6.out]; simp
                              · rw [Nat.add_sub_cancel, HSL6.out]; try simp
                              · rw [Nat.add_sub_cancel, HSM6.out]; have := HM9.out; simpa using this
                              · rw [Nat.add_sub_cancel, HSL6.out]; have := HL9.out; simpa using this
                            first | exact hgoal | ((repeat apply Exists.intro); first | exact ⟨hgoal, rfl⟩ | exact ⟨hgoal, rfl, rfl, rfl⟩)
                          case measure => simp [intOf]; omega
                · obtain rfl : ad = 13 := by omega
                  go_wp2
                  go_ret2
                  exact ⟨rM, rL, AM, AL, cM, cL, rfl, HM.out, HL.out, (fun g hg => Nat.le_trans HW0.out (HRM.out g hg)), (fun g hg => Nat.le_trans HW0.out (HRL.out g hg)), keep0_trans _ _ _ K2.out (keep0_trans _ _ _ K4.out HK.out)⟩
end Go.Proofs.Ythlfgjlnjmjppaa
