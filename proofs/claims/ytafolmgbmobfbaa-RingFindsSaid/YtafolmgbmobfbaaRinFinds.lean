/-
  RingFinds: it returns true. Written by gen_finds.py.
-/
import Derived.Test.YtafolmgbmobfbaaRinG
import Derived.Test.YtafolmgbmobfbaaKv
namespace Go.Proofs.Ytafolmgbmobfbaa
open Go.RowKit
attribute [local irreducible] kAll
attribute [local go_sem] kQuiet kQuietUpon

theorem sel_cell {W : World} {A : Option Addr} {n : Nat} {l : List Int} (hl : l.length = n) (h : RdK W 1 A n (l.flatMap cU)) {k : Nat} (hk : k < n) : ∃ g off, A = some ⟨g, off, none⟩ ∧ W.cell? ⟨g, off + k, none⟩ = some (.int .u8 (l.getD k 0)) := by
  obtain ⟨g, off, v, h1, h2, h3⟩ := h.2 k (by omega)
  refine ⟨g, off, h1, ?_⟩
  have hf := flat_get cU 1 (fun _ => rfl) l k 0 (by omega) (by omega)
  rw [Nat.mul_one, Nat.add_zero, h2] at hf
  simp at hf
  rw [h3, hf]
  simp [List.getD, (by omega : k < l.length)]
theorem infoS : (Try.prog.info? 25).map (fun i => (i.zero, i.size, i.bytes)) = some (some (.slice none 0 0), 1, 24) := by kernel_rfl
set_option maxRecDepth 100000 in
set_option maxHeartbeats 2500000 in
theorem finds_tell (A0 : Option Addr) (n0 c0' : Nat) (ids : List ID) (A1 : Option Addr) (n1 c1' : Nat) (nodes : List Int) (a2 : Int) (w : World) (h0 : RdI w A0 n0 ids) (h1 : RdK w 1 A1 n1 (nodes.flatMap cU)) (hl1 : nodes.length = n1)
    (hn0 : n0 ≤ 9223372036854775807) (hn2 : -9223372036854775808 ≤ a2 ∧ a2 ≤ 9223372036854775807) :
    Calls Try.prog 5 #[.slice A0 n0 c0', .slice A1 n1 c1', .int .i64 a2] w (Tell (.bool true) w) := by
  obtain ⟨i0, hi, hz0, hz1, hz2⟩ := info_parts infoR
  have HI := Lib.hid hi
  have HZ0 := Lib.hid hz0
  have HZ1 := Lib.hid hz1
  have HZ2 := Lib.hid hz2
  have HR0 := Lib.hid h0
  have HL0 := Lib.hid h0.1
  have HR1 := Lib.hid h1
  have HL1 := Lib.hid hl1
  have HN2 := Lib.hid hn2
  clear h0 h1 hl1 hn2 hi hz0 hz1 hz2
  have hk0 := ((Keep.refl (fun _ => False) w).alloc (.cells #[.slice A0 n0 c0'] 25))
  have hb1 := Blk.new w 25 #[.slice A0 n0 c0']
  have HK0 := Lib.hid hk0
  have HB1 := Lib.hid hb1
  clear hk0 hb1
  go_enter Try.func5, Try.ntmps5
  go_wp2_with fail
  refine (rises_any w.heap.size 1 1 [ids] _ rfl (by omega) (fun i hi => ?_)).mono ?_
  · obtain rfl : i = 0 := by omega
    exact ⟨A0, n0, c0', HB1.out.cell 0, HR0.out.keep0 HK0.out, hn0⟩
  rintro e w1 ⟨he, hk1⟩
  have HK1 := Lib.hid (keep0_trans _ _ _ HK0.out hk1)
  have hre : ([ids].all okL) = okL ids := by simp
  rw [hre] at he
  clear hk1 hre
  cases hC : okL ids with
  | true =>
    have hC1 := okL_len hC
    rw [hC] at he
    subst he
    have HRis := Lib.hid hC1.2
    clear hC hC1
    by_cases h20 : n0 ≤ 20
    · by_cases h3 : a2 < 1
      · go_wp2_with fail
        refine (awake_any _).mono ?_
        rintro e w9 ⟨rfl, hk9⟩
        have HK9 := Lib.hid (keep0_trans _ _ _ HK1.out hk9)
        clear hk9
        go_wp2
        go_ret
        exact ⟨rfl, HK9.out⟩
        
      · go_wp2_with fail
        refine (awake_any _).mono ?_
        rintro e w2 ⟨rfl, hk2⟩
        have HK2 := Lib.hid (keep0_trans _ _ _ HK1.out hk2)
        clear hk2
        go_wp2_with fail
        go_loopw [8, 7] (fun j v wr => ∃ (k : Nat) (row : Option Nat) (A : Option Addr) (n c : Nat), k ≤ n0 ∧ j = .int .i64 (k : Int) ∧ v = .slice A n c ∧ Hid (SlK wr 23 2 row A n c ((hereK ids nodes k).flatMap cID)) ∧ Hid (∀ g, row = some g → w.heap.size ≤ g) ∧ Hid (Keep (fun _ => False) w wr)) (fun j _ _ => n0 - (intOf j).toNat)
        case atStart => exact ⟨0, none, none, 0, 0, by omega, rfl, rfl, Lib.hid (SlK.nil_ _ _ _), Lib.hid (fun g hg => by cases hg), HK2⟩
        case round =>
          obtain ⟨k, row, A, n, c, hk, rfl, rfl, HS, HRw, HK⟩ := hrel
          have hnn : n ≤ 20 := by have h1 := HS.out.1; rw [flat_len cID 2 (fun _ => rfl)] at h1; have := hereK_len ids nodes k; omega
          have e2 : IntKind.i64.wrap (k : Int) = (k : Int) := IntWalk.i64_in _ (by omega)
          have hkJ : (0 : Int) ≤ (k : Int) := by omega
          by_cases hlt : k < n0
          · have hkI : (k : Int) < (n0 : Int) := by omega
            have hSucc : ∀ b : Bool, decide (selP nodes k) = b → hereK ids nodes (k + 1) = if b = true then hereK ids nodes k ++ [ids.getD k (0, 0)] else hereK ids nodes k := by
              intro b hb
              rw [hereK]
              by_cases hs : selP nodes k
              · simp [hs] at hb; simp [hs, ← hb]
              · simp [hs] at hb; simp [hs, ← hb]
            have HSucc := Lib.hid hSucc
            clear hSucc
            by_cases hk1 : k < n1
            · have hk1I : (k : Int) < (n1 : Int) := by omega
              obtain ⟨g, off, hA, q0⟩ := sel_cell HL1.out HR1.out hk1
              have q0 := HK.out.cell q0 (fun h => h)
              have HSel : Hid (selP nodes k ↔ (nodes.getD k 0).tmod 2 = 1) := Lib.hid ⟨fun h => h.2, fun h => ⟨by rw [HL1.out]; exact hk1, h⟩⟩
              subst hA
              generalize nodes.getD k 0 = y at q0 HSel
              by_cases hy : y.tmod 2 = 1
              · have hyb : (y.tmod 2 == 1) = true := by simpa using hy
                have HStep := Lib.hid (HSucc.out true (by simp [HSel.out, hy]))
                obtain ⟨g', off', hA0, p0, p1⟩ := HR0.out.at_ hlt
                have p0 := HK.out.cell p0 (fun h => h)
                have p1 := HK.out.cell p1 (fun h => h)
                subst hA0
                clear hy
                generalize ids.getD k (0, 0) = x at p0 p1 HStep
                obtain ⟨a, i⟩ := x
                simp only at p0 p1
                go_wp2_with (at_builtin; refine wpList_append_slK rfl _ _ _ rfl i0 _ 16 Try.underlying25 HI.out HZ0.out HZ1.out HZ2.out rfl (by omega) (HS.out.keep0 ((Keep.refl _ _).alloc _)) rfl rfl (RdI.one_ (x := (a, i)) (Blk.new _ _ _)).2 (one_flat' _) (by unfold maxLen; omega) (by omega) ?_; intro row2 A2 c2 w3 hs2 hr2
                             obtain ⟨hk3, hw3⟩ := grew_new hr2 (HK.out.alloc _) HRw.out
                             have HS2 := Lib.hid hs2
                             have HK3 := Lib.hid hk3
                             have HR3 := Lib.hid hw3
                             clear hs2 hr2 hk3 hw3)
                go_roundw
                case rel => exact ⟨k + 1, row2, A2, n + 1, c2, by omega, by go_num, rfl, Lib.hid (by rw [HStep.out, if_pos rfl, List.flatMap_append]; exact HS2.out), HR3, HK3⟩
                case measure => simp [intOf]; omega
              · have hyb : (y.tmod 2 == 1) = false := by simpa using hy
                have HStep := Lib.hid (HSucc.out false (by simp [HSel.out, hy]))
                clear hy
                go_wp2
                go_roundw
                case rel => exact ⟨k + 1, row, A, n, c, by omega, by go_num, rfl, Lib.hid (by rw [HStep.out, if_neg (by simp)]; exact HS.out), HRw, HK⟩
                case measure => simp [intOf]; omega
            · have hk1I : ¬ (k : Int) < (n1 : Int) := by omega
              have HStep := Lib.hid (HSucc.out false (by have : ¬ selP nodes k := fun h => hk1 (by rw [← HL1.out]; exact h.1)
                                                         simp [this]))
              go_wp2
              go_roundw
              case rel => exact ⟨k + 1, row, A, n, c, by omega, by go_num, rfl, Lib.hid (by rw [HStep.out, if_neg (by simp)]; exact HS.out), HRw, HK⟩
              case measure => simp [intOf]; omega
          · obtain rfl : k = n0 := by omega
            have hhl : (hereK ids nodes k).length = n := by have h1 := HS.out.1; rw [flat_len cID 2 (fun _ => rfl)] at h1; omega
            have hhs := hereK_sub ids nodes k (by rw [HL0.out]; exact Nat.le_refl _)
            generalize hereK ids nodes k = here at *
            have HHl := Lib.hid hhl
            have HHs := Lib.hid hhs
            clear hhl hhs
            by_cases hn : n = 0
            · subst hn
              go_wp2
              go_ret
              exact ⟨rfl, HK.out⟩
            · have hnI : ((n : Int) == 0) = false := by simp; omega
              have hnJ : ¬ (n : Int) = 0 := by omega
              obtain ⟨j0, hj, hj0, hj1, hj2⟩ := info_parts infoS
              have hmk := run_makeSlice (P := Try.prog) (w := wr) 35 25 j0 _ Try.underlying35 hj hj0 .i64 .i64 (n : Int) (n : Int) (by omega) (by omega) (by rw [hj1]; simp; omega) (by rw [hj2]; omega) (by omega)
              rw [hj1, Int.toNat_natCast] at hmk
              obtain ⟨W1, hW1⟩ : ∃ W1, wr.alloc (.cells (madeCells (Value.slice none 0 0).cells (n * 1)) 25) = W1 := ⟨_, rfl⟩
              rw [hW1] at hmk
              have hna : NotAt W1 wr.heap.size n (fun _ => []) := by
                rw [← hW1]
                refine ⟨_, Blk.new _ _ _, by simp [madeCells], fun j hj => ⟨none, 0, 0, ?_, ISl.nil_ _⟩⟩
                simp [madeCells, Value.cells, hj, Nat.mod_one]
              have HNa := Lib.hid hna
              have HK1' := Lib.hid (show Keep (fun _ => False) w W1 by rw [← hW1]; exact HK.out.alloc _)
              have HSh := Lib.hid (show SlK W1 23 2 row A n c (here.flatMap cID) by rw [← hW1]; exact HS.out.keep0 ((Keep.refl _ _).alloc _))
              have hrow : ∀ g, row = some g → g ≠ wr.heap.size := fun g hg => by have := HS.out.lt g hg; omega
              have HRow := Lib.hid hrow
              have hGw : w.heap.size ≤ wr.heap.size := HK.out.size
              clear hj hj0 hj1 hj2 hna hW1 hrow
              generalize hG : wr.heap.size = G at *
              go_wp2_with fail
              clear hmk
              go_loopw [10] (fun i wr => ∃ r : Nat, r ≤ k ∧ i = .int .i64 (r : Int) ∧ Hid (NotAt wr G n (fun j => nkM ids here a2 (here.getD j (0, 0)) r)) ∧ Hid (Keep (fun g => g = G) W1 wr)) (fun i _ => k - (intOf i).toNat)
              case atStart => exact ⟨0, by omega, rfl, HNa, Lib.hid (Keep.refl _ _)⟩
              case round =>
                obtain ⟨r, hr, rfl, HN, HKr⟩ := hrel
                by_cases hltr : r < k
                · have hrI : (r : Int) < (k : Int) := by omega
                  go_wp2_with fail
                  go_loopw [11] (fun i wr => ∃ kk : Nat, kk ≤ n ∧ i = .int .i64 (kk : Int) ∧ Hid (NotAt wr G n (fun j => nkM ids here a2 (here.getD j (0, 0)) (if j < kk then r + 1 else r))) ∧ Hid (Keep (fun g => g = G) W1 wr)) (fun i _ => n - (intOf i).toNat)
                  case atStart => exact ⟨0, by omega, rfl, Lib.hid (HN.out.congr (fun j _ => by simp)), HKr⟩
                  case round =>
                    clear HN HKr
                    obtain ⟨kk, hkk, rfl, HN, HKr⟩ := hrel
                    by_cases hltk : kk < n
                    · have HKw := Lib.hid (HK1'.out.trans (HKr.out.mono fun g _ e => .inr (by omega)))
                      have HSi := Lib.hid ((HSh.out.keep HKr.out HRow.out).isl)
                      have hkl : kk < here.length := by rw [HHl.out]; exact hltk
                      obtain ⟨g, off, hA, p0, p1⟩ := HSi.out.1.at_ hltk
                      obtain ⟨Ak, nk, ck, qk, hik, _⟩ := HN.out.at_ hltk
                      have hnkl := nkM_len ids here a2 (here.getD kk (0, 0)) r
                      rw [if_neg (Nat.lt_irrefl kk)] at hik
                      have hnk : nk ≤ 400 := by
                        have h1 := hik.1.1
                        rw [HL0.out] at hnkl
                        have h2 : r * k ≤ 20 * 20 := Nat.mul_le_mul (by omega) (by omega)
                        omega
                      subst hA
                      have HMe : Hid (∀ f : Nat → Nat, (fun j => nkM ids here a2 (here.getD j (0, 0)) (f j)) kk = nkM ids here a2 (here.getD kk (0, 0)) (f kk)) := Lib.hid (fun _ => rfl)
                      generalize hme : here.getD kk (0, 0) = me at *
                      obtain ⟨ma, mi⟩ := me
                      simp only at p0 p1
                      have HMe2 := Lib.hid hme
                      clear hme
                      have HIk := Lib.hid hik
                      clear hik hnkl
                      have hkI : (kk : Int) < (n : Int) := by omega
                      have hkJ : (0 : Int) ≤ (kk : Int) := by omega
                      have e2k : IntKind.i64.wrap (kk : Int) = (kk : Int) := IntWalk.i64_in _ (by omega)
                      go_wp2_with fail
                      refine wp_region_krip (Keep (fun _ => False)) (Keep.refl _) keep0_trans 10 (by kernel_rfl) (by kernel_rfl) (Ts := [none, none, none, none, some (.inl (idV (ma, mi))), none, none, none, some (.inl (.slice Ak nk ck)), none]) ?_
                      simp only [List.take, List.drop]
                      refine kAll_p (fun K hK => ?_)
                      go_simp
                      generalize hZ : (Act.mk _ _) = Z
                      refine hK Z ?_
                      subst hZ
                      clear hK K
                      refine kAll_p (fun K hK => ?_)
                      go_simp
                      generalize hZ : (Act.mk _ _) = Z
                      refine hK Z ?_
                      subst hZ
                      clear hK K
                      refine kAll_p (fun K hK => ?_)
                      go_simp
                      generalize hZ : (Act.mk _ _) = Z
                      refine hK Z ?_
                      subst hZ
                      clear hK K
                      refine kAll_p (fun K hK => ?_)
                      go_simp
                      generalize hZ : (Act.mk _ _) = Z
                      refine hK Z ?_
                      subst hZ
                      clear hK K
                      refine kAll_dn _ (fun W hW hF => kStep_of fun K Q hK => ?_) (fun K hK => ?_)
                      · have c0 := Keep.cell hW (show World.cell? (World.drew _) _ = some (.int .i64 ma) from p0) (fun h => h)
                        have c1 := Keep.cell hW (show World.cell? (World.drew _) _ = some (.int .i64 mi) from p1) (fun h => h)
                        go_simp
                        exact hK _ _ (Keep.refl _ _) rfl
                      go_simp
                      generalize hZ : (Act.mk _ _) = Z
                      refine hK Z ?_
                      subst hZ
                      clear hK K
                      refine kAll_p (fun K hK => ?_)
                      go_simp
                      generalize hZ : (Act.mk _ _) = Z
                      refine hK Z ?_
                      subst hZ
                      clear hK K
                      refine kAll_p (fun K hK => ?_)
                      go_simp
                      generalize hZ : (Act.mk _ _) = Z
                      refine hK Z ?_
                      subst hZ
                      clear hK K
                      refine kAll_p (fun K hK => ?_)
                      go_simp
                      generalize hZ : (Act.mk _ _) = Z
                      refine hK Z ?_
                      subst hZ
                      clear hK K
                      refine kAll_dn _ (fun W hW hF => kStep_of fun K Q hK => ?_) (fun K hK => ?_)
                      · have c0 := Keep.cell hW (show World.cell? (World.drew _) _ = some (.slice Ak nk ck) from qk) (fun h => h)
                        go_simp
                        exact hK _ _ (Keep.refl _ _) rfl
                      go_simp
                      generalize hZ : (Act.mk _ _) = Z
                      refine hK Z ?_
                      subst hZ
                      clear hK K
                      refine kAll_p (fun K hK => ?_)
                      go_simp
                      generalize hZ : (Act.mk _ _) = Z
                      refine hK Z ?_
                      subst hZ
                      clear hK K
                      refine kAll_nil (fun W hW hF => ?_)
                      clear hF
                      have HKW := Lib.hid (keepD HKw.out hW)
                      have HkW := Lib.hid (keepD (Keep.refl _ wr) hW)
                      go_wp2_with fail
                      refine (watched_any A0 k c0' ids (ma, mi) Ak nk ck _ a2 _ (HR0.out.keep0 HKW.out) (HIk.out.1.keep0 HkW.out) (by omega) (by omega) HN2.out).mono ?_
                      rintro e w4 ⟨Aw, nw, cw, rfl, hs4, hk4⟩
                      have hnw : nw ≤ 20 := by have := hs4.1.1; have := watM_bound (nkM ids here a2 (ma, mi) r) ids (ma, mi) a2; have := HL0.out; omega
                      have hwl := hs4.1.1
                      have HS4 := Lib.hid hs4
                      have HN4 := Lib.hid ((HN.out.keep0 HkW.out).keep0 hk4)
                      have HK4 := Lib.hid (keep0_trans _ _ _ HkW.out hk4)
                      have HKw4 := Lib.hid (keep0_trans _ _ _ HKW.out hk4)
                      have HSi4 := Lib.hid ((HSi.out.keep0 HkW.out).keep0 hk4)
                      have hnext : finK here (nkM ids here a2 (ma, mi) r) (watM (nkM ids here a2 (ma, mi) r) ids (ma, mi) a2) = nkM ids here a2 (ma, mi) (r + 1) := rfl
                      have hfl := fun i => finK_len here ((watM (nkM ids here a2 (ma, mi) r) ids (ma, mi) a2).take i) (nkM ids here a2 (ma, mi) r)
                      have hnk0 : (nkM ids here a2 (ma, mi) r).length = nk := HIk.out.1.1
                      rw [hnk0] at hfl
                      generalize watM (nkM ids here a2 (ma, mi) r) ids (ma, mi) a2 = wl at *
                      have HWl := Lib.hid hwl
                      have HNext := Lib.hid hnext
                      have HFl := Lib.hid hfl
                      clear hs4 hk4 hwl hnext hfl hnk0 hW qk p0 p1
                      go_wp2_with fail
                      go_loopw [13] (fun i wr2 => ∃ i' : Nat, i' ≤ nw ∧ i = .int .i64 (i' : Int) ∧ Hid (NotAt wr2 G n (fun j => if j = kk then finK here (nkM ids here a2 (ma, mi) r) (wl.take i') else nkM ids here a2 (here.getD j (0, 0)) (if j < kk then r + 1 else r))) ∧ Hid (Keep (fun g => g = G) w4 wr2)) (fun i _ => nw - (intOf i).toNat)
                      case atStart =>
                        refine ⟨0, by omega, rfl, Lib.hid (HN4.out.congr (fun j _ => ?_)), Lib.hid (Keep.refl _ _)⟩
                        by_cases e : j = kk
                        · subst e
                          rw [if_pos rfl, if_neg (Nat.lt_irrefl j), HMe2.out]; rfl
                        · rw [if_neg e]
                      case round =>
                        obtain ⟨i', hi', rfl, HN5, HK5⟩ := hrel
                        by_cases hlt5 : i' < nw
                        · have HS5 := Lib.hid (HS4.out.keepG HN4.out HK5.out)
                          have HSi5 := Lib.hid (HSi4.out.keepG HN4.out HK5.out)
                          have hil : i' < wl.length := by rw [HWl.out]; exact hlt5
                          obtain ⟨g5, off5, hA5, p0, p1⟩ := HS5.out.1.at_ hlt5
                          have HFn := Lib.hid (finK_next (here := here) (not := nkM ids here a2 (ma, mi) r) (w := wl) (i := i') hil)
                          obtain ⟨Ak, nk2, ck, qk, hik, hfz⟩ := HN5.out.at_ hltk
                          rw [if_pos rfl] at hik
                          have hnk2 : nk2 ≤ 500 := by have h1 := hik.1.1; have h2 := HFl.out i'; rw [List.length_take] at h2; omega
                          subst hA5
                          generalize wl.getD i' (0, 0) = x at p0 p1 HFn
                          generalize hfk : finK here (nkM ids here a2 (ma, mi) r) (wl.take i') = fk at hik HFn
                          obtain ⟨xa, xi⟩ := x
                          simp only at p0 p1
                          have HIk5 := Lib.hid hik
                          have HFk := Lib.hid hfk
                          have HFz := Lib.hid hfz
                          clear hik hfk hfz
                          have hiI : (i' : Int) < (nw : Int) := by omega
                          have hiJ : (0 : Int) ≤ (i' : Int) := by omega
                          have e2i : IntKind.i64.wrap (i' : Int) = (i' : Int) := IntWalk.i64_in _ (by omega)
                          go_wp2_with fail
                          refine (hasR_any _ n c here (xa, xi) _ HSi5.out.1 (by omega)).mono ?_
                          rintro e w6 ⟨he6, hk6⟩
                          have HN6 := Lib.hid (HN5.out.keep0 hk6)
                          have HK6 := Lib.hid hk6
                          by_cases hm : (xa, xi) ∈ here
                          · rw [decide_eq_true hm] at he6
                            subst he6
                            have HF2 : Hid (finK here (nkM ids here a2 (ma, mi) r) (wl.take (i' + 1)) = finK here (nkM ids here a2 (ma, mi) r) (wl.take i')) := Lib.hid (by rw [HFn.out, if_pos hm, HFk.out])
                            clear hm hk6 p0 p1 qk
                            go_wp2
                            go_roundw
                            case rel => exact ⟨i' + 1, by omega, by go_num, Lib.hid (HN6.out.congr (fun j _ => by rw [HF2.out])), Lib.hid (HK5.out.trans (HK6.out.mono fun _ _ h => h.elim))⟩
                            case measure => simp [intOf]; omega
                          · rw [decide_eq_false hm] at he6
                            subst he6
                            have HF2 : Hid (finK here (nkM ids here a2 (ma, mi) r) (wl.take (i' + 1)) = setM (fk ++ [(xa, xi)])) := Lib.hid (by rw [HFn.out, if_neg hm])
                            have p0 := hk6.cell p0 (fun h => h)
                            have p1 := hk6.cell p1 (fun h => h)
                            have qk := hk6.cell qk (fun h => h)
                            have HIk := Lib.hid (HIk5.out.keep0 hk6)
                            clear hm hk6
                            go_wp2_with fail
                            refine wp_region_krip (Keep (fun _ => False)) (Keep.refl _) keep0_trans 11 (by kernel_rfl) (by kernel_rfl) (Ts := [none, none, none, none, none, some (.inl (.slice Ak nk2 ck)), none, none, none, some (.inl (idV (xa, xi))), some (.inr (fun v W => IsI W v (setM (fk ++ [(xa, xi)]))))]) ?_
                            simp only [List.take, List.drop]
                            refine kAll_p (fun K hK => ?_)
                            go_simp
                            generalize hZ : (Act.mk _ _) = Z
                            refine hK Z ?_
                            subst hZ
                            clear hK K
                            refine kAll_p (fun K hK => ?_)
                            go_simp
                            generalize hZ : (Act.mk _ _) = Z
                            refine hK Z ?_
                            subst hZ
                            clear hK K
                            refine kAll_p (fun K hK => ?_)
                            go_simp
                            generalize hZ : (Act.mk _ _) = Z
                            refine hK Z ?_
                            subst hZ
                            clear hK K
                            refine kAll_p (fun K hK => ?_)
                            go_simp
                            generalize hZ : (Act.mk _ _) = Z
                            refine hK Z ?_
                            subst hZ
                            clear hK K
                            refine kAll_p (fun K hK => ?_)
                            go_simp
                            generalize hZ : (Act.mk _ _) = Z
                            refine hK Z ?_
                            subst hZ
                            clear hK K
                            refine kAll_dn _ (fun W hW hF => kStep_of fun K Q hK => ?_) (fun K hK => ?_)
                            · have c0 := Keep.cell hW (show World.cell? (World.drew _) _ = some (.slice Ak nk2 ck) from qk) (fun h => h)
                              go_simp
                              exact hK _ _ (Keep.refl _ _) rfl
                            go_simp
                            generalize hZ : (Act.mk _ _) = Z
                            refine hK Z ?_
                            subst hZ
                            clear hK K
                            refine kAll_p (fun K hK => ?_)
                            go_simp
                            generalize hZ : (Act.mk _ _) = Z
                            refine hK Z ?_
                            subst hZ
                            clear hK K
                            refine kAll_p (fun K hK => ?_)
                            go_simp
                            generalize hZ : (Act.mk _ _) = Z
                            refine hK Z ?_
                            subst hZ
                            clear hK K
                            refine kAll_p (fun K hK => ?_)
                            go_simp
                            generalize hZ : (Act.mk _ _) = Z
                            refine hK Z ?_
                            subst hZ
                            clear hK K
                            refine kAll_dn _ (fun W hW hF => kStep_of fun K Q hK => ?_) (fun K hK => ?_)
                            · have c0 := Keep.cell hW (show World.cell? (World.drew _) _ = some (.int .i64 xa) from p0) (fun h => h)
                              have c1 := Keep.cell hW (show World.cell? (World.drew _) _ = some (.int .i64 xi) from p1) (fun h => h)
                              go_simp
                              exact hK _ _ (Keep.refl _ _) rfl
                            go_simp
                            generalize hZ : (Act.mk _ _) = Z
                            refine hK Z ?_
                            subst hZ
                            clear hK K
                            refine kAll_tn _ (fun v W W' hk h => h.keep0 hk) (fun W hW hF => kStep_of fun K Q hK => ?_) (fun u0 K hK => ?_)
                            · go_simp
                              refine (putSR_any Ak nk2 ck fk (xa, xi) W (HIk.out.1.keep0 (keep0_trans _ _ _ ((Keep.refl _ _).drew) hW)) (by omega)).mono ?_
                              rintro e w' ⟨A', n', c', rfl, hs, hk⟩
                              exact hK _ _ hk ⟨_, _, _, rfl, hs⟩
                            go_simp
                            generalize hZ : (Act.mk _ _) = Z
                            refine hK Z ?_
                            subst hZ
                            clear hK K
                            refine kAll_nil (fun W7 hW hF => ?_)
                            obtain ⟨A7, n7, c7, rfl, h7⟩ := (show IsI W7 u0 (setM (fk ++ [(xa, xi)])) from hF.1)
                            have HN7 := Lib.hid (HN6.out.keep0 (keepD (Keep.refl _ w6) hW))
                            have HK7 := Lib.hid (keepD HK6.out hW)
                            have H7 := Lib.hid h7
                            obtain ⟨_, _, _, q7, _, f7⟩ := HN7.out.at_ hltk
                            clear hF hW h7
                            go_wp2
                            go_roundw
                            case rel =>
                              refine ⟨i' + 1, by omega, by go_num, Lib.hid ?_, Lib.hid ?_⟩
                              · refine HN7.out.put hltk ?_ (fun j hj => ?_)
                                · rw [if_pos rfl, HF2.out]; exact H7.out
                                · rw [if_neg hj, if_neg hj]
                              · exact (HK5.out.trans (HK7.out.mono fun _ _ h => h.elim)).setCell (p := ⟨G, kk, none⟩) (fun _ => rfl) _
                            case measure => simp [intOf]; omega
                        · obtain rfl : i' = nw := by omega
                          have hall : wl.take i' = wl := List.take_of_length_le (by rw [HWl.out]; exact Nat.le_refl _)
                          rw [hall, HNext.out] at HN5
                          clear hall
                          go_wp2
                          go_roundw
                          case rel =>
                            refine ⟨kk + 1, by omega, by go_num, Lib.hid (HN5.out.congr (fun j _ => ?_)), Lib.hid ((HKr.out.trans (HK4.out.mono fun _ _ h => h.elim)).trans (HK5.out.mono fun _ _ h => .inl h))⟩
                            by_cases e : j = kk
                            · rw [if_pos e, e, HMe2.out, if_pos (Nat.lt_succ_self kk)]
                            · rw [if_neg e]
                              by_cases e2 : j < kk
                              · rw [if_pos e2, if_pos (by omega)]
                              · rw [if_neg e2, if_neg (by omega)]
                          case measure => simp [intOf]; omega
                    · obtain rfl : kk = n := by omega
                      go_wp2
                      go_roundw
                      case rel => exact ⟨r + 1, by omega, by go_num, Lib.hid (HN.out.congr (fun j hj => by rw [if_pos hj])), HKr⟩
                      case measure => simp [intOf]; omega
                · obtain rfl : r = k := by omega
                  have HSi := Lib.hid ((HSh.out.keep HKr.out HRow.out).isl)
                  have HKw := Lib.hid (HK1'.out.trans (HKr.out.mono fun g _ e => .inr (by omega)))
                  have hfin := finds_set HRis.out HHs.out (by rw [HHl.out]; omega) a2 (by omega)
                  rw [HHl.out, HL0.out] at hfin
                  have hFl : ∀ j, (nkM ids here a2 (here.getD j (0, 0)) r).length ≤ 400 := fun j => by
                    have h1 := nkM_len ids here a2 (here.getD j (0, 0)) r
                    rw [HL0.out] at h1
                    have h2 : r * r ≤ 20 * 20 := Nat.mul_le_mul (by omega) (by omega)
                    omega
                  generalize hFF : (fun j => nkM ids here a2 (here.getD j (0, 0)) r) = F at *
                  have hFl2 : ∀ j, (F j).length ≤ 400 := fun j => by rw [← hFF]; exact hFl j
                  have HFl := Lib.hid (foundK_len F 400 hFl2)
                  have HFin := Lib.hid hfin
                  have HFl2 := Lib.hid hFl2
                  clear hFl hFl2 hfin hFF
                  go_wp2_with fail
                  go_loopw [15, 14] (fun i v wr2 => ∃ (q : Nat) (Af : Option Addr) (nf cf : Nat), q ≤ n ∧ i = .int .i64 (q : Int) ∧ v = .slice Af nf cf ∧ Hid (ISl wr2 Af nf cf (foundK F q)) ∧ Hid (Keep (fun _ => False) wr wr2)) (fun i _ _ => n - (intOf i).toNat)
                  case atStart => exact ⟨0, none, 0, 0, by omega, rfl, rfl, Lib.hid (ISl.nil_ _), Lib.hid (Keep.refl _ _)⟩
                  case round =>
                    obtain ⟨q, Af, nf, cf, hq, rfl, rfl, HSf, HKf⟩ := hrel
                    have hnf : nf ≤ 8000 := by
                      have h1 := HSf.out.1.1
                      have h2 := HFl.out q
                      have h3 : q * 400 ≤ 20 * 400 := Nat.mul_le_mul (by omega) (by omega)
                      omega
                    by_cases hltq : q < n
                    · obtain ⟨Aq, nq', cq, qk, hiq, _⟩ := (HN.out.keep0 HKf.out).at_ hltq
                      have hnq : nq' ≤ 400 := by have := hiq.1.1; have := HFl2.out q; omega
                      have HIq := Lib.hid hiq
                      clear hiq
                      have hqI : (q : Int) < (n : Int) := by omega
                      have hqJ : (0 : Int) ≤ (q : Int) := by omega
                      have e2q : IntKind.i64.wrap (q : Int) = (q : Int) := IntWalk.i64_in _ (by omega)
                      go_wp2_with fail
                      refine (joinR_any Af Aq nf nq' cf cq _ _ _ HSf.out.1 HIq.out.1 (by omega) (by omega)).mono ?_
                      rintro e w7 ⟨A7, n7, c7, rfl, hs7, hk7⟩
                      have HS7 := Lib.hid hs7
                      have HK7 := Lib.hid (keep0_trans _ _ _ HKf.out hk7)
                      clear hs7 hk7 qk
                      go_wp2
                      go_roundw
                      case rel => exact ⟨q + 1, A7, n7, c7, by omega, by go_num, rfl, HS7, HK7⟩
                      case measure => simp [intOf]; omega
                    · obtain rfl : q = n := by omega
                      have HKw2 := Lib.hid (keep0_trans _ _ _ HKw.out HKf.out)
                      go_wp2_with (at_builtin; refine wpList_append_new rfl _ _ _ rfl i0 _ 16 Try.underlying25 HI.out HZ0.out HZ1.out HZ2.out rfl (by omega) (SlK.empty2 (Blk.new _ _ _)) rfl rfl ((HR0.out.keep0 HKw2.out).keep0 ((Keep.refl _ _).alloc _)).2 (one_flat' _) (by unfold maxLen; omega) (by omega) ?_; intro row8 A8 c8 w8 hs8 hk8 hr8
                                   have HS8 := Lib.hid hs8.isl
                                   have HK8 := Lib.hid (keep0_trans _ _ _ ((Keep.refl _ _).alloc _) hk8)
                                   have HSf8 := Lib.hid (HSf.out.keep0 HK8.out)
                                   have HSi8 := Lib.hid ((HSi.out.keep0 HKf.out).keep0 HK8.out)
                                   have HKw8 := Lib.hid (keep0_trans _ _ _ HKw2.out HK8.out)
                                   clear hs8 hk8 hr8)
                      go_loopw [17, 16] (fun i v wr3 => ∃ (p : Nat) (Aw : Option Addr) (nw' cw : Nat), p ≤ q ∧ i = .int .i64 (p : Int) ∧ v = .slice Aw nw' cw ∧ Hid (ISl wr3 Aw nw' cw (wantK ids here p)) ∧ Hid (Keep (fun _ => False) w8 wr3)) (fun i _ _ => q - (intOf i).toNat)
                      case atStart => exact ⟨0, A8, r, c8, by omega, rfl, rfl, HS8, Lib.hid (Keep.refl _ _)⟩
                      case round =>
                        obtain ⟨p, Aw, nw', cw, hp, rfl, rfl, HSw, HKp⟩ := hrel
                        have hnw' : nw' ≤ 20 := by have h1 := HSw.out.1.1; have h2 := wantK_len ids here p; have := HL0.out; omega
                        by_cases hltp : p < q
                        · obtain ⟨g9, off9, hA9, p0, p1⟩ := (HSi8.out.keep0 HKp.out).1.at_ hltp
                          subst hA9
                          have HWn : Hid (wantK ids here (p + 1) = delM (wantK ids here p) (here.getD p (0, 0))) := Lib.hid rfl
                          generalize here.getD p (0, 0) = x at p0 p1 HWn
                          obtain ⟨xa, xi⟩ := x
                          simp only at p0 p1
                          have hpI : (p : Int) < (q : Int) := by omega
                          have hpJ : (0 : Int) ≤ (p : Int) := by omega
                          have e2p : IntKind.i64.wrap (p : Int) = (p : Int) := IntWalk.i64_in _ (by omega)
                          go_wp2_with fail
                          refine (delR_any Aw nw' cw _ (xa, xi) _ HSw.out.1 (by omega)).mono ?_
                          rintro e w9 ⟨A9, n9, c9, rfl, hs9, hk9⟩
                          rw [← HWn.out] at hs9
                          have HS9 := Lib.hid hs9
                          have HK9 := Lib.hid (keep0_trans _ _ _ HKp.out hk9)
                          clear hs9 hk9 p0 p1
                          go_wp2
                          go_roundw
                          case rel => exact ⟨p + 1, A9, n9, c9, by omega, by go_num, rfl, HS9, HK9⟩
                          case measure => simp [intOf]; omega
                        · obtain rfl : p = q := by omega
                          go_wp2_with fail
                          refine (sameR_any Af Aw nf nw' cf cw _ _ _ (HSf8.out.1.keep0 HKp.out) HSw.out.1 (by omega) (by omega)).mono ?_
                          rintro e w10 ⟨he10, hk10⟩
                          rw [decide_eq_true HFin.out] at he10
                          subst he10
                          have HK10 := Lib.hid (keep0_trans _ _ _ (keep0_trans _ _ _ HKw8.out HKp.out) hk10)
                          clear hk10
                          go_wp2
                          go_ret
                          exact ⟨rfl, HK10.out⟩
    · go_wp2_with fail
      refine (awake_any _).mono ?_
      rintro e w9 ⟨rfl, hk9⟩
      have HK9 := Lib.hid (keep0_trans _ _ _ HK1.out hk9)
      clear hk9
      go_wp2
      go_ret
      exact ⟨rfl, HK9.out⟩
      
  | false =>
    rw [hC] at he
    subst he
    clear hC
    go_wp2_with fail
    refine (awake_any _).mono ?_
    rintro e w9 ⟨rfl, hk9⟩
    have HK9 := Lib.hid (keep0_trans _ _ _ HK1.out hk9)
    clear hk9
    go_wp2
    go_ret
    exact ⟨rfl, HK9.out⟩
theorem walkRingFinds {w : World} (v0 : Value) (w0 : InIds w v0) (v1 : Value) (w1 : InU w v1) (a2 : Int) (w2 : (Lit.int .i64 a2).wf = true) :
    Calls Try.prog 5 #[v0, v1, .int .i64 a2] w fun e w' => e = .returned (.bool true) ∧ Below w.heap.size w w' := by
  obtain ⟨A0, n0, c0, ids, rfl, hn0, hc0, h0⟩ := w0
  obtain ⟨A1, n1, c1, nodes, rfl, _, _, hl1, h1⟩ := w1
  exact (finds_tell A0 n0 c0 ids A1 n1 c1 nodes a2 w h0 h1 hl1 (by unfold maxLen at hc0; omega) (wf_i64 w2)).mono fun _ _ ⟨h, k⟩ => ⟨h, k.b⟩
end Go.Proofs.Ytafolmgbmobfbaa
