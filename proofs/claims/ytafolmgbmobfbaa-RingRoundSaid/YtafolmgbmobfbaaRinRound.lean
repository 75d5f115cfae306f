/-
  RingRound: it returns true. Written by gen_round.py.
-/
import Derived.Test.YtafolmgbmobfbaaRinBehind
import Derived.Test.YtafolmgbmobfbaaKv
namespace Go.Proofs.Ytafolmgbmobfbaa
open Go.RowKit
attribute [local irreducible] kAll
attribute [local go_sem] kQuiet kQuietUpon

theorem put_take {l : List ID} {k : Nat} (hk : k < l.length) : setM (setM (l.take k) ++ [l.getD k (0, 0)]) = setM (l.take (k + 1)) := by
  rw [← set_take hk, putR_set (setM_ris _)]
theorem round_set (ids : List ID) (me : ID) : setM (setM (ordM ids me)) = setM (delM ids me) := setM_ext (fun x => by
  unfold delM
  rw [setM_mem, setM_mem, ordM_mem, List.mem_filter]
  simp)
theorem delM_len (l : List ID) (x : ID) : (delM l x).length ≤ l.length := Nat.le_trans (setM_len _) (List.length_filter_le _ _)
theorem round_fin {ids : List ID} (h : Ris ids) {me x0 : ID} {r : List ID} (hm : me ∈ ids) (ho : ordM ids me = x0 :: r) : setM (ordM ids x0) = setM (r ++ [me]) := setM_ext (fun y => by
  have hn := ordM_nodup h me
  have h1 := ordM_mem ids me y
  have h2 := (ordM_mem ids me x0).1 (by rw [ho]; simp)
  rw [ho] at hn h1
  rw [List.nodup_cons] at hn
  rw [ordM_mem, List.mem_append, List.mem_singleton]
  rw [List.mem_cons] at h1
  constructor
  · rintro ⟨h3, h4⟩
    by_cases e : y = me
    · exact .inr e
    · rcases h1.2 ⟨h3, e⟩ with e2 | e2
      · exact absurd e2 h4
      · exact .inl e2
  · rintro (h3 | rfl)
    · exact ⟨(h1.1 (.inr h3)).1, fun e => hn.1 (e ▸ h3)⟩
    · exact ⟨hm, fun e => h2.2 e.symm⟩)
theorem append_none (ty : TypeId) (i : TypeInfo) (ht : Try.prog.underlying 25 = some (.slice 23)) (hi : Try.prog.info? 23 = some i) (g : Nat) (C : Option Addr) (d : Nat) {w : World} :
    (Builtin.append_ #[25, 25] ty #[.slice (some ⟨g, 0, none⟩) 0 0, .slice C 0 d]).run Try.prog w = .ok (.slice (some ⟨g, 0, none⟩) 0 0) w := by
  cases C <;> simp [Builtin.append_, run_underlying ht, sizeOf, typeInfo, hi, Builtin.lenOf, Builtin.firstCells, storeCells, loadCells, loadCellsFrom]
theorem OwnB.up {B B' : Nat} {r : List ID} {v : Value} {W : World} (h : OwnB B r v W) (hB : B' ≤ B) : OwnB B' r v W := by
  obtain ⟨g, c, cur, e, h1, h2, h3, h4⟩ := h; exact ⟨g, c, cur, e, h1, h2, by omega, h4⟩
theorem OwnB.keep0 {B : Nat} {r : List ID} {v : Value} {W W' : World} (h : OwnB B r v W) (hk : Keep (fun _ => False) W W') : OwnB B r v W' := by
  obtain ⟨g, c, cur, e, h1, h2, h3, h4, h5⟩ := h; exact ⟨g, c, cur, e, h1, h2, h3, h4.keep hk (fun h => h), h5⟩
theorem RdI.keep {S : Nat → Prop} {w w' : World} {A : Option Addr} {n : Nat} {l : List ID} (h : RdI w A n l) (hk : Keep S w w') (hn : ∀ g, g < w.heap.size → ¬ S g) : RdI w' A n l := ⟨h.1, h.2.keep hk hn⟩
theorem keepD2 {m : Nat} {x : ID} {w W : World} (h : KV w.heap.size m x w.drew W) : Keep (fun _ => False) w W :=
  ⟨h.os, h.tape, h.output, h.size, fun k hk _ => h.old k hk hk⟩
set_option maxRecDepth 100000 in
set_option maxHeartbeats 4000000 in
theorem round_tell (A0 : Option Addr) (n0 c0' : Nat) (ids : List ID) (o : ID) (w : World) (h0 : RdI w A0 n0 ids) (hn0 : n0 ≤ 9223372036854775807) :
    Calls Try.prog 4 #[.slice A0 n0 c0', idV o] w (Tell (.bool true) w) := by
  obtain ⟨oa, oi⟩ := o
  obtain ⟨i0, hi, hz0, hz1, hz2⟩ := info_parts infoR
  have HI := Lib.hid hi
  have HZ0 := Lib.hid hz0
  have HZ1 := Lib.hid hz1
  have HZ2 := Lib.hid hz2
  have HR0 := Lib.hid h0
  have HL0 := Lib.hid h0.1
  clear h0 hi hz0 hz1 hz2
  have hk0 := (((Keep.refl (fun _ => False) w).alloc (.cells #[.int .i64 oa, .int .i64 oi] 23)).alloc (.cells #[.slice A0 n0 c0'] 25))
  have hb0 := (Blk.new w 23 #[.int .i64 oa, .int .i64 oi]).alloc (.cells #[.slice A0 n0 c0'] 25)
  have hb1 := Blk.new_ (w := w.alloc (.cells #[.int .i64 oa, .int .i64 oi] 23)) (B := w.heap.size + 1) (by simp) 25 #[.slice A0 n0 c0']
  have HK0 := Lib.hid hk0
  have HB0 := Lib.hid hb0
  have HB1 := Lib.hid hb1
  clear hk0 hb0 hb1
  go_enter Try.func4, Try.ntmps4
  go_wp2_with fail
  refine (rises_any (w.heap.size + 1) 1 1 [ids] _ rfl (by omega) (fun i hi => ?_)).mono ?_
  · obtain rfl : i = 0 := by omega
    exact ⟨A0, n0, c0', HB1.out.cell 0, HR0.out.keep0 HK0.out, hn0⟩
  rintro e w1 ⟨he, hk1⟩
  have HK1 := Lib.hid (keep0_trans _ _ _ HK0.out hk1)
  have HBo1 := Lib.hid (HB0.out.keep hk1 (fun h => h))
  have hre : ([ids].all okL) = okL ids := by simp
  rw [hre] at he
  clear hk1 hre
  cases hC : okL ids with
  | true =>
    have hC1 := okL_len hC
    rw [hC] at he
    subst he
    have hl0 : n0 ≤ 100 := by rw [← HL0.out]; exact hC1.1
    have HRis := Lib.hid hC1.2
    clear hC hC1
    go_wp2_with fail
    refine (awake_any _).mono ?_
    rintro e w2 ⟨rfl, hk2⟩
    have HK2 := Lib.hid (keep0_trans _ _ _ HK1.out hk2)
    have HBo2 := Lib.hid (HBo1.out.keep hk2 (fun h => h))
    clear hk2
    have d0 := HBo2.out.cell 0
    have d1 := HBo2.out.cell 1
    go_wp2_with fail
    refine (order_any A0 n0 c0' ids (oa, oi) _ (HR0.out.keep0 HK2.out) (by omega)).mono ?_
    rintro e w3 ⟨row3, A3, c3, rfl, hs3, _, hk3⟩
    have hol := ordM_len ids (oa, oi)
    have hne : ∀ x ∈ ordM ids (oa, oi), ¬ x = (oa, oi) := fun x hx => ((ordM_mem _ _ _).1 hx).2
    have hnd := ordM_nodup HRis.out (oa, oi)
    have hset := round_set ids (oa, oi)
    have hfin := fun (x0 : ID) (r : List ID) (hm : (oa, oi) ∈ ids) (ho : ordM ids (oa, oi) = x0 :: r) => round_fin HRis.out hm ho
    generalize hord : ordM ids (oa, oi) = od at *
    generalize hno : od.length = no at *
    have HNo := Lib.hid hno
    have HNe := Lib.hid hne
    have HNd := Lib.hid hnd
    have HSet := Lib.hid hset
    have HFin0 := Lib.hid hfin
    have HS3 := Lib.hid hs3
    have HK3 := Lib.hid (keep0_trans _ _ _ HK2.out hk3)
    have HBo3 := Lib.hid (HBo2.out.keep hk3 (fun h => h))
    have hno100 : no ≤ 100 := by have := HL0.out; omega
    clear hs3 hk3 d0 d1 hne hnd hset hfin hord hno
    go_wp2_with fail
    go_loopw [7, 6] (fun j v wr => ∃ (k : Nat) (A1 : Option Addr) (n1 c1 : Nat), k ≤ no ∧ j = .int .i64 (k : Int) ∧ v = .slice A1 n1 c1 ∧ Hid (ISl wr A1 n1 c1 (setM (od.take k))) ∧ Hid (Keep (fun _ => False) w3 wr)) (fun j _ _ => no - (intOf j).toNat)
    case atStart => exact ⟨0, none, 0, 0, by omega, rfl, rfl, Lib.hid (by rw [List.take_zero, setM_nil]; exact ISl.nil_ _), Lib.hid (Keep.refl _ _)⟩
    case round =>
      obtain ⟨k, A1, n1, c1, hk, rfl, rfl, HSa, HKr⟩ := hrel
      have HKw := Lib.hid (keep0_trans _ _ _ HK3.out HKr.out)
      have hn1 : n1 ≤ 100 := by have := HSa.out.1.1; have := setM_len_take od k; omega
      by_cases hlt : k < no
      · obtain ⟨g, off, hA, c0, c1'⟩ := HS3.out.isl.1.at_ hlt
        have q0 := HKr.out.cell c0 (fun h => h)
        have q1 := HKr.out.cell c1' (fun h => h)
        have b0 := HKr.out.cell (HBo3.out.cell 0) (fun h => h)
        have b1 := HKr.out.cell (HBo3.out.cell 1) (fun h => h)
        have hkl : k < od.length := by rw [HNo.out]; exact hlt
        have HX := Lib.hid (put_take (l := od) (k := k) hkl)
        have he := HNe.out (od.getD k (0, 0)) (by simp [List.getD, hkl])
        subst hA
        clear c0 c1'
        generalize od.getD k (0, 0) = x at q0 q1 HX he
        obtain ⟨a, i⟩ := x
        simp only at q0 q1
        have hkI : (k : Int) < (no : Int) := by omega
        have hkJ : (0 : Int) ≤ (k : Int) := by omega
        have e2 : IntKind.i64.wrap (k : Int) = (k : Int) := IntWalk.i64_in _ (by omega)
        have G := gID
        have E := (fun W => by simpa [he] using eql_ID (a, i) (oa, oi) W : ∀ W, (binOp .eql 23 (idV (a, i)) (idV (oa, oi))).run Try.prog W = .ok (.bool false) W)
        clear he hkl
        go_wp2
        go_quiet (fail)
        go_wp2_with fail
        refine (putSR_any A1 n1 c1 _ (a, i) _ (HSa.out.1.keep0 ((Keep.refl _ _).drewN _)) (by omega)).mono ?_
        rintro e wq ⟨Aq, nq', cq, rfl, hsq, hkq⟩
        rw [HX.out] at hsq
        have HSq := Lib.hid hsq
        have HKq := Lib.hid (keep0_trans _ _ _ (HKr.out.drewN _) hkq)
        clear hsq hkq
        go_wp2
        go_roundw
        case rel => exact ⟨k + 1, Aq, nq', cq, by omega, by go_num, rfl, HSq, HKq⟩
        case measure => simp [intOf]; omega
      · obtain rfl : k = no := by omega
        have hall : od.take k = od := List.take_of_length_le (by rw [HNo.out]; exact Nat.le_refl _)
        rw [hall] at HSa
        have hkn : n1 = k := by rw [← HSa.out.1.1, setM_len_nodup HNd.out, HNo.out]
        subst hkn
        clear hall
        have d0 := HKr.out.cell (HBo3.out.cell 0) (fun h => h)
        have d1 := HKr.out.cell (HBo3.out.cell 1) (fun h => h)
        go_wp2_with fail
        refine (delR_any A0 n0 c0' ids (oa, oi) _ (HR0.out.keep0 HKw.out) (by omega)).mono ?_
        rintro e w4 ⟨A4, n4, c4, rfl, hs4, hk4⟩
        have hn4 : n4 ≤ 100 := by have := hs4.1.1; have := delM_len ids (oa, oi); have := HL0.out; omega
        have HS4 := Lib.hid hs4
        have HKr4 := Lib.hid (keep0_trans _ _ _ HKr.out hk4)
        have HSa4 := Lib.hid (HSa.out.keep0 hk4)
        have HSet2 := Lib.hid HSet.out
        clear hs4 hk4 d0 d1
        go_wp2_with fail
        refine (sameR_any A1 A4 n1 n4 c1 c4 _ _ _ (HSa4.out.1) HS4.out.1 (by omega) (by omega)).mono ?_
        rintro e w5 ⟨he5, hk5⟩
        rw [decide_eq_true HSet2.out] at he5
        subst he5
        have HKr5 := Lib.hid (keep0_trans _ _ _ HKr4.out hk5)
        have HKw5 := Lib.hid (keep0_trans _ _ _ HK3.out HKr5.out)
        have HBo5 := Lib.hid (HBo3.out.keep HKr5.out (fun h => h))
        clear hk5
        have d0 := HBo5.out.cell 0
        have d1 := HBo5.out.cell 1
        by_cases h0 : n1 = 0
        · subst h0
          go_wp2
          go_ret
          exact ⟨rfl, HKw5.out⟩
        · have h0I : ((n1 : Int) == 0) = false := by simp; omega
          have h0J : ¬ (n1 : Int) = 0 := by omega
          go_wp2_with fail
          refine (hasR_any A0 n0 c0' ids (oa, oi) _ (HR0.out.keep0 HKw5.out) (by omega)).mono ?_
          rintro e w6 ⟨he6, hk6⟩
          have HKr6 := Lib.hid (keep0_trans _ _ _ HKr5.out hk6)
          have HKw6 := Lib.hid (keep0_trans _ _ _ HK3.out HKr6.out)
          have HBo6 := Lib.hid (HBo5.out.keep hk6 (fun h => h))
          clear hk6 d0 d1
          by_cases hm : (oa, oi) ∈ ids
          · rw [decide_eq_true hm] at he6
            subst he6
            obtain ⟨x0, r, hod⟩ : ∃ x0 r, od = x0 :: r := by
              rcases od with _ | ⟨x0, r⟩
              · exact absurd HNo.out (by simp; omega)
              · exact ⟨x0, r, rfl⟩
            subst hod
            have hfin := HFin0.out x0 r hm rfl
            have hrl : n1 = r.length + 1 := by rw [← HNo.out]; rfl
            subst hrl
            obtain ⟨g9, off9, hA9, z0, z1⟩ := HS3.out.isl.1.at_ (i := 0) (by omega)
            simp only [List.getD_cons_zero, Nat.zero_mul, Nat.add_zero] at z0 z1
            have z0 := HKr6.out.cell z0 (fun h => h)
            have z1 := HKr6.out.cell z1 (fun h => h)
            subst hA9
            have HFin := Lib.hid hfin
            obtain ⟨xa, xi⟩ := x0
            simp only at z0 z1
            clear hm hfin
            go_wp2_with fail
            refine (order_any A0 n0 c0' ids (xa, xi) _ (HR0.out.keep0 HKw6.out) (by omega)).mono ?_
            rintro e w7 ⟨row6, A6, c6, rfl, hs6, _, hk7⟩
            have hn6 : (ordM ids (xa, xi)).length ≤ 100 := by have := ordM_len ids (xa, xi); have := HL0.out; omega
            have HS6 := Lib.hid hs6.isl
            have HS9 := Lib.hid ((HS3.out.isl.1.keep0 HKr6.out).keep0 hk7)
            have HK7 := Lib.hid (keep0_trans _ _ _ HKw6.out hk7)
            have HBo := Lib.hid (HBo6.out.keep hk7 (fun h => h))
            have hc3 := HS3.out.2.1
            clear hs6 hk7 z0 z1
            generalize hn6' : (ordM ids (xa, xi)).length = n6 at *
            clear hn6'
            by_cases hr0 : r = []
            · subst hr0
              by_cases hc9 : c3 = 1
              · subst hc9
                go_wp2_with fail
                refine wp_region_krip (Keep (fun _ => False)) (Keep.refl _) keep0_trans 8 (by kernel_rfl) (by kernel_rfl) (Ts := [none, some (.inr (fun v W => Emp w7.heap.size v W)), none, none, some (.inr (fun v W => Emp w7.heap.size v W)), some (.inl (idV (oa, oi))), some (.inr (fun v W => One (oa, oi) v W)), some (.inr (fun v W => OwnB w7.heap.size [(oa, oi)] v W))]) ?_
                simp only [List.take, List.drop]
                refine kAll_p (fun K hK => ?_)
                go_simp
                generalize hZ : (Act.mk _ _) = Z
                refine hK Z ?_
                subst hZ
                clear hK K
                refine kAll_tn _ (fun v W W' hk h => h.keep0 hk) (fun W hW hF => kStep_of fun K Q hK => ?_) (fun u0 K hK => ?_)
                · have hsz : w7.heap.size ≤ W.heap.size := hW.size
                  go_simp
                  exact hK _ _ ((Keep.refl _ _).alloc _) ⟨_, rfl, Blk.new _ _ _, hsz⟩
                go_simp
                generalize hZ : (Act.mk _ _) = Z
                refine hK Z ?_
                subst hZ
                clear hK K
                refine kAll_p (fun K hK => ?_)
                go_simp
                generalize hZ : (Act.mk _ _) = Z
                refine hK Z ?_
                subst hZ
                clear hK K
                refine kAll_p (fun K hK => ?_)
                go_simp
                generalize hZ : (Act.mk _ _) = Z
                refine hK Z ?_
                subst hZ
                clear hK K
                refine kAll_tn _ (fun v W W' hk h => h.keep0 hk) (fun W hW hF => kStep_of fun K Q hK => ?_) (fun u1 K hK => ?_)
                · obtain ⟨g1, rfl, hg1, hB1⟩ := (show Emp w7.heap.size u0 W from kHas_at hF 0 rfl (by kernel_rfl))
                  refine wp_append_run _ _ _ rfl rfl rfl (append_none _ i0 Try.underlying25 HI.out g1 _ _) ?_
                  exact hK _ _ (Keep.refl _ _) ⟨g1, rfl, hg1, hB1⟩
                go_simp
                generalize hZ : (Act.mk _ _) = Z
                refine hK Z ?_
                subst hZ
                clear hK K
                refine kAll_dn _ (fun W hW hF => kStep_of fun K Q hK => ?_) (fun K hK => ?_)
                · have c0 := hW.cell (show World.cell? (World.drew _) ⟨w.heap.size, 0, none⟩ = some (.int .i64 oa) from HBo.out.cell 0) (fun h => h)
                  have c1 := hW.cell (show World.cell? (World.drew _) ⟨w.heap.size, 1, none⟩ = some (.int .i64 oi) from HBo.out.cell 1) (fun h => h)
                  go_simp
                  exact hK _ _ (Keep.refl _ _) rfl
                go_simp
                generalize hZ : (Act.mk _ _) = Z
                refine hK Z ?_
                subst hZ
                clear hK K
                refine kAll_tn _ (fun v W W' hk h => h.keep0 hk) (fun W hW hF => kStep_of fun K Q hK => ?_) (fun u2 K hK => ?_)
                · go_simp
                  exact hK _ _ ((Keep.refl _ _).alloc _) ⟨_, rfl, Blk.new _ _ _⟩
                go_simp
                generalize hZ : (Act.mk _ _) = Z
                refine hK Z ?_
                subst hZ
                clear hK K
                refine kAll_tn _ (fun v W W' hk h => h.keep0 hk) (fun W hW hF => kStep_of fun K Q hK => ?_) (fun u3 K hK => ?_)
                · obtain ⟨g1, rfl, hg1, hB1⟩ := (show Emp w7.heap.size u1 W from kHas_at hF 1 rfl (by kernel_rfl))
                  obtain ⟨g2, rfl, hg2⟩ := (show One (oa, oi) u2 W from kHas_at hF 0 rfl (by kernel_rfl))
                  have hsz : w7.heap.size ≤ W.heap.size := hW.size
                  obtain ⟨v', w', q1, q2, q3⟩ := run_append_emp (P := Try.prog) 25 25 i0 _ Try.underlying25 HI.out HZ0.out HZ1.out HZ2.out rfl g1 (d := 1) (r := [(oa, oi)]) (RdI.one_ (x := (oa, oi)) hg2) (by simp) (by simp)
                  refine wp_append_run _ _ _ rfl rfl rfl q1 ?_
                  exact hK _ _ q3 (q2.up hsz)
                go_simp
                generalize hZ : (Act.mk _ _) = Z
                refine hK Z ?_
                subst hZ
                clear hK K
                refine kAll_nil (fun W hW hF => ?_)
                obtain ⟨g8, c8, e8, hB8, hs8⟩ := (show OwnB w7.heap.size (([] : List ID) ++ [(oa, oi)]) u3 W from hF.1).slK
                have e9 : (([] : List ID) ++ [(oa, oi)]).length = 1 := by simp
                rw [e9] at e8 hs8
                subst e8
                have HS8 := Lib.hid hs8
                have HK8 := Lib.hid (keep0_trans _ _ _ ((Keep.refl (fun _ => False) w7).drew) hW)
                clear hF hs8 hW
                go_wp2_with fail
                refine (sameR_any A6 _ n6 _ c6 c8 _ _ _ (HS6.out.1.keep0 HK8.out) HS8.out.isl.1 (by omega) (by omega)).mono ?_
                rintro e w9 ⟨he9, hk9⟩
                rw [decide_eq_true HFin.out] at he9
                subst he9
                have HK9 := Lib.hid (keep0_trans _ _ _ (keep0_trans _ _ _ HK7.out HK8.out) hk9)
                clear hk9
                go_wp2
                go_ret
                exact ⟨rfl, HK9.out⟩
              · go_wp2_with fail
                refine wp_region_krip (Keep (fun _ => False)) (Keep.refl _) keep0_trans 8 (by kernel_rfl) (by kernel_rfl) (Ts := [none, some (.inr (fun v W => Emp w7.heap.size v W)), none, none, some (.inr (fun v W => Emp w7.heap.size v W)), some (.inl (idV (oa, oi))), some (.inr (fun v W => One (oa, oi) v W)), some (.inr (fun v W => OwnB w7.heap.size [(oa, oi)] v W))]) ?_
                simp only [List.take, List.drop]
                refine kAll_p (fun K hK => ?_)
                go_simp
                generalize hZ : (Act.mk _ _) = Z
                refine hK Z ?_
                subst hZ
                clear hK K
                refine kAll_tn _ (fun v W W' hk h => h.keep0 hk) (fun W hW hF => kStep_of fun K Q hK => ?_) (fun u0 K hK => ?_)
                · have hsz : w7.heap.size ≤ W.heap.size := hW.size
                  go_simp
                  exact hK _ _ ((Keep.refl _ _).alloc _) ⟨_, rfl, Blk.new _ _ _, hsz⟩
                go_simp
                generalize hZ : (Act.mk _ _) = Z
                refine hK Z ?_
                subst hZ
                clear hK K
                refine kAll_p (fun K hK => ?_)
                go_simp
                generalize hZ : (Act.mk _ _) = Z
                refine hK Z ?_
                subst hZ
                clear hK K
                refine kAll_p (fun K hK => ?_)
                go_simp
                generalize hZ : (Act.mk _ _) = Z
                refine hK Z ?_
                subst hZ
                clear hK K
                refine kAll_tn _ (fun v W W' hk h => h.keep0 hk) (fun W hW hF => kStep_of fun K Q hK => ?_) (fun u1 K hK => ?_)
                · obtain ⟨g1, rfl, hg1, hB1⟩ := (show Emp w7.heap.size u0 W from kHas_at hF 0 rfl (by kernel_rfl))
                  refine wp_append_run _ _ _ rfl rfl rfl (append_none _ i0 Try.underlying25 HI.out g1 _ _) ?_
                  exact hK _ _ (Keep.refl _ _) ⟨g1, rfl, hg1, hB1⟩
                go_simp
                generalize hZ : (Act.mk _ _) = Z
                refine hK Z ?_
                subst hZ
                clear hK K
                refine kAll_dn _ (fun W hW hF => kStep_of fun K Q hK => ?_) (fun K hK => ?_)
                · have c0 := hW.cell (show World.cell? (World.drew _) ⟨w.heap.size, 0, none⟩ = some (.int .i64 oa) from HBo.out.cell 0) (fun h => h)
                  have c1 := hW.cell (show World.cell? (World.drew _) ⟨w.heap.size, 1, none⟩ = some (.int .i64 oi) from HBo.out.cell 1) (fun h => h)
                  go_simp
                  exact hK _ _ (Keep.refl _ _) rfl
                go_simp
                generalize hZ : (Act.mk _ _) = Z
                refine hK Z ?_
                subst hZ
                clear hK K
                refine kAll_tn _ (fun v W W' hk h => h.keep0 hk) (fun W hW hF => kStep_of fun K Q hK => ?_) (fun u2 K hK => ?_)
                · go_simp
                  exact hK _ _ ((Keep.refl _ _).alloc _) ⟨_, rfl, Blk.new _ _ _⟩
                go_simp
                generalize hZ : (Act.mk _ _) = Z
                refine hK Z ?_
                subst hZ
                clear hK K
                refine kAll_tn _ (fun v W W' hk h => h.keep0 hk) (fun W hW hF => kStep_of fun K Q hK => ?_) (fun u3 K hK => ?_)
                · obtain ⟨g1, rfl, hg1, hB1⟩ := (show Emp w7.heap.size u1 W from kHas_at hF 1 rfl (by kernel_rfl))
                  obtain ⟨g2, rfl, hg2⟩ := (show One (oa, oi) u2 W from kHas_at hF 0 rfl (by kernel_rfl))
                  have hsz : w7.heap.size ≤ W.heap.size := hW.size
                  obtain ⟨v', w', q1, q2, q3⟩ := run_append_emp (P := Try.prog) 25 25 i0 _ Try.underlying25 HI.out HZ0.out HZ1.out HZ2.out rfl g1 (d := 1) (r := [(oa, oi)]) (RdI.one_ (x := (oa, oi)) hg2) (by simp) (by simp)
                  refine wp_append_run _ _ _ rfl rfl rfl q1 ?_
                  exact hK _ _ q3 (q2.up hsz)
                go_simp
                generalize hZ : (Act.mk _ _) = Z
                refine hK Z ?_
                subst hZ
                clear hK K
                refine kAll_nil (fun W hW hF => ?_)
                obtain ⟨g8, c8, e8, hB8, hs8⟩ := (show OwnB w7.heap.size (([] : List ID) ++ [(oa, oi)]) u3 W from hF.1).slK
                have e9 : (([] : List ID) ++ [(oa, oi)]).length = 1 := by simp
                rw [e9] at e8 hs8
                subst e8
                have HS8 := Lib.hid hs8
                have HK8 := Lib.hid (keep0_trans _ _ _ ((Keep.refl (fun _ => False) w7).drew) hW)
                clear hF hs8 hW
                go_wp2_with fail
                refine (sameR_any A6 _ n6 _ c6 c8 _ _ _ (HS6.out.1.keep0 HK8.out) HS8.out.isl.1 (by omega) (by omega)).mono ?_
                rintro e w9 ⟨he9, hk9⟩
                rw [decide_eq_true HFin.out] at he9
                subst he9
                have HK9 := Lib.hid (keep0_trans _ _ _ (keep0_trans _ _ _ HK7.out HK8.out) hk9)
                clear hk9
                go_wp2
                go_ret
                exact ⟨rfl, HK9.out⟩
            · have hr1 : 1 ≤ r.length := by
                rcases Nat.eq_zero_or_pos r.length with q | q
                · exact absurd (List.eq_nil_of_length_eq_zero q) hr0
                · exact q
              have hc9 : ¬ c3 = 1 := by omega
              have HRd : Hid (RdI w7 (some ⟨g9, off9 + 2, none⟩) r.length r) := Lib.hid (by have := RdI.drop (k := 1) HS9.out (by omega); simpa using this)
              have hlI : (1 : Int) ≤ (r.length : Int) + 1 := by omega
              go_wp2_with fail
              refine wp_region_krip (KV w7.heap.size r.length (oa, oi)) KV.refl KV.trans 8 (by kernel_rfl) (by kernel_rfl) (Ts := [none, some (.inr (fun v W => Emp w7.heap.size v W)), none, none, some (.inr (fun v W => OwnB w7.heap.size r v W)), some (.inl (idV (oa, oi))), some (.inr (fun v W => One (oa, oi) v W)), some (.inr (fun v W => OwnB w7.heap.size (r ++ [(oa, oi)]) v W))]) ?_
              simp only [List.take, List.drop]
              refine kAll_p (fun K hK => ?_)
              go_simp
              generalize hZ : (Act.mk _ _) = Z
              refine hK Z ?_
              subst hZ
              clear hK K
              refine kAll_tn _ (fun v W W' hk h => h.kv hk) (fun W hW hF => kStep_of fun K Q hK => ?_) (fun u0 K hK => ?_)
              · have hsz : w7.heap.size ≤ W.heap.size := hW.size
                go_simp
                exact hK _ _ (KV.of_keep0 ((Keep.refl _ _).alloc _)) ⟨_, rfl, Blk.new _ _ _, hsz⟩
              go_simp
              generalize hZ : (Act.mk _ _) = Z
              refine hK Z ?_
              subst hZ
              clear hK K
              refine kAll_p (fun K hK => ?_)
              go_simp
              generalize hZ : (Act.mk _ _) = Z
              refine hK Z ?_
              subst hZ
              clear hK K
              refine kAll_p (fun K hK => ?_)
              go_simp
              generalize hZ : (Act.mk _ _) = Z
              refine hK Z ?_
              subst hZ
              clear hK K
              refine kAll_tn _ (fun v W W' hk h => h.kv (Nat.le_refl _) (.inl rfl) hk) (fun W hW hF => kStep_of fun K Q hK => ?_) (fun u1 K hK => ?_)
              · obtain ⟨g1, rfl, hg1, hB1⟩ := (show Emp w7.heap.size u0 W from kHas_at hF 0 rfl (by kernel_rfl))
                have hsz : w7.heap.size ≤ W.heap.size := hW.size
                have hRd := HRd.out.keep (keepD2 hW) (fun g hg h => h)
                obtain ⟨v', w', q1, q2, q3⟩ := run_append_emp (P := Try.prog) 25 25 i0 _ Try.underlying25 HI.out HZ0.out HZ1.out HZ2.out rfl g1 (d := c3 - 1) hRd (by omega) (by omega)
                refine wp_append_run _ _ _ rfl rfl rfl q1 ?_
                exact hK _ _ (KV.of_keep0 q3) (q2.up hsz)
              go_simp
              generalize hZ : (Act.mk _ _) = Z
              refine hK Z ?_
              subst hZ
              clear hK K
              refine kAll_dn _ (fun W hW hF => kStep_of fun K Q hK => ?_) (fun K hK => ?_)
              · have c0 := hW.cell (show World.cell? (World.drew _) ⟨w.heap.size, 0, none⟩ = some (.int .i64 oa) from HBo.out.cell 0) (by have := HBo.out.lt; simp only; omega)
                have c1 := hW.cell (show World.cell? (World.drew _) ⟨w.heap.size, 1, none⟩ = some (.int .i64 oi) from HBo.out.cell 1) (by have := HBo.out.lt; simp only; omega)
                go_simp
                exact hK _ _ (KV.refl _) rfl
              go_simp
              generalize hZ : (Act.mk _ _) = Z
              refine hK Z ?_
              subst hZ
              clear hK K
              refine kAll_tn _ (fun v W W' hk h => h.kv hk (by omega)) (fun W hW hF => kStep_of fun K Q hK => ?_) (fun u2 K hK => ?_)
              · go_simp
                exact hK _ _ (KV.of_keep0 ((Keep.refl _ _).alloc _)) ⟨_, rfl, Blk.new _ _ _⟩
              go_simp
              generalize hZ : (Act.mk _ _) = Z
              refine hK Z ?_
              subst hZ
              clear hK K
              refine kAll_tn _ (fun v W W' hk h => h.kv (Nat.le_refl _) (.inr ⟨r, rfl, rfl⟩) hk) (fun W hW hF => kStep_of fun K Q hK => ?_) (fun u3 K hK => ?_)
              · have h1 := (show OwnB w7.heap.size r u1 W from kHas_at hF 1 rfl (by kernel_rfl))
                have h2 := (show One (oa, oi) u2 W from kHas_at hF 0 rfl (by kernel_rfl))
                have hsz : w7.heap.size ≤ W.heap.size := hW.size
                obtain ⟨v', w', q1, q2, q3⟩ := run_append_kv (P := Try.prog) 25 25 i0 _ Try.underlying25 HI.out HZ0.out HZ1.out HZ2.out rfl h1 h2 hsz (by omega)
                refine wp_append_run _ _ _ rfl rfl rfl q1 ?_
                exact hK _ _ q3 q2
              go_simp
              generalize hZ : (Act.mk _ _) = Z
              refine hK Z ?_
              subst hZ
              clear hK K
              refine kAll_nil (fun W hW hF => ?_)
              obtain ⟨g8, c8, e8, hB8, hs8⟩ := (show OwnB w7.heap.size (r ++ [(oa, oi)]) u3 W from hF.1).slK
              have e9 : (r ++ [(oa, oi)]).length = r.length + 1 := by simp
              rw [e9] at e8 hs8
              subst e8
              have HS8 := Lib.hid hs8
              have HK8 := Lib.hid (keepD2 hW)
              clear hF hs8 hW
              go_wp2_with fail
              refine (sameR_any A6 _ n6 _ c6 c8 _ _ _ (HS6.out.1.keep0 HK8.out) HS8.out.isl.1 (by omega) (by omega)).mono ?_
              rintro e w9 ⟨he9, hk9⟩
              rw [decide_eq_true HFin.out] at he9
              subst he9
              have HK9 := Lib.hid (keep0_trans _ _ _ (keep0_trans _ _ _ HK7.out HK8.out) hk9)
              clear hk9
              go_wp2
              go_ret
              exact ⟨rfl, HK9.out⟩
          · rw [decide_eq_false hm] at he6
            subst he6
            clear hm
            go_wp2
            go_ret
            exact ⟨rfl, HKw6.out⟩
  | false =>
    rw [hC] at he
    subst he
    clear hC
    go_wp2_with fail
    refine (awake_any _).mono ?_
    rintro e w9 ⟨rfl, hk9⟩
    have HK9 := Lib.hid (keep0_trans _ _ _ HK1.out hk9)
    clear hk9
    go_wp2
    go_ret
    exact ⟨rfl, HK9.out⟩
theorem walkRingRound {w : World} (v0 : Value) (w0 : InIds w v0) (v1 : Value) (w1 : InId w v1) :
    Calls Try.prog 4 #[v0, v1] w fun e w' => e = .returned (.bool true) ∧ Below w.heap.size w w' := by
  obtain ⟨A0, n0, c0, ids, rfl, hn0, hc0, h0⟩ := w0
  obtain ⟨o, rfl⟩ := w1
  exact (round_tell A0 n0 c0 ids o w h0 (by unfold maxLen at hc0; omega)).mono fun _ _ ⟨h, k⟩ => ⟨h, k.b⟩
end Go.Proofs.Ytafolmgbmobfbaa
