/-
  RingMany: it returns true. Written by gen_many.py.
-/
import Derived.Test.YtafolmgbmobfbaaRinBehind
namespace Go.Proofs.Ytafolmgbmobfbaa
open Go.RowKit
attribute [local irreducible] kAll
attribute [local go_sem] kQuiet kQuietUpon

theorem inM_next {ids : List ID} {k : Nat} (not : List ID) (me : ID) (hk : k < ids.length) :
    inM not (ids.take (k + 1)) me = inM not (ids.take k) me + (if ids.getD k (0, 0) = me then 0 else if ids.getD k (0, 0) ∈ not then 1 else 0) := by
  have e : ids.getD k (0, 0) = ids[k] := by simp [List.getD, hk]
  rw [e]
  unfold inM
  rw [List.take_succ_eq_append_getElem hk, List.filter_append, List.length_append]
  congr 1
  by_cases h1 : ids[k] = me <;> by_cases h2 : ids[k] ∈ not <;> simp [h1, h2]
  all_goals (subst h1; simp [h2])
theorem othM_next {ids : List ID} {k : Nat} (not : List ID) (me : ID) (hk : k < ids.length) :
    othM not (ids.take (k + 1)) me = othM not (ids.take k) me + (if ids.getD k (0, 0) = me then 0 else if ids.getD k (0, 0) ∈ not then 0 else 1) := by
  have e : ids.getD k (0, 0) = ids[k] := by simp [List.getD, hk]
  rw [e]
  unfold othM
  rw [List.take_succ_eq_append_getElem hk, List.filter_append, List.length_append]
  congr 1
  by_cases h1 : ids[k] = me <;> by_cases h2 : ids[k] ∈ not <;> simp [h1, h2]
  all_goals (subst h1; simp [h2])
theorem inM_le (not ids : List ID) (me : ID) (k : Nat) : inM not (ids.take k) me ≤ k ∧ othM not (ids.take k) me ≤ k := by
  unfold inM othM
  have h1 := List.length_filter_le (fun x => !decide (x = me) && decide (x ∈ not)) (ids.take k)
  have h2 := List.length_filter_le (fun x => !decide (x = me) && !decide (x ∈ not)) (ids.take k)
  rw [List.length_take] at h1 h2
  omega
theorem watM_me (not ids : List ID) (me : ID) (n : Int) : me ∉ watM not ids me n := fun h => by
  rw [watM_mem] at h
  exact ((ordM_mem _ _ _).1 (watL_sub _ _ _ _ _ h)).2 rfl
theorem watM_ids (not ids : List ID) (me : ID) (n : Int) (x : ID) (h : x ∈ watM not ids me n) : x ∈ ids := by
  rw [watM_mem] at h
  exact ((ordM_mem _ _ _).1 (watL_sub _ _ _ _ _ h)).1
set_option maxRecDepth 100000 in
set_option maxHeartbeats 4000000 in
theorem many_tell (A0 : Option Addr) (n0 c0' : Nat) (ids : List ID) (o : ID) (A2 : Option Addr) (n2 c2' : Nat) (not : List ID) (a3 a4 : Int) (w : World) (h0 : RdI w A0 n0 ids) (h2 : RdI w A2 n2 not)
    (hn0 : n0 ≤ 9223372036854775807) (hn2 : n2 ≤ 9223372036854775807) (hn3 : -9223372036854775808 ≤ a3 ∧ a3 ≤ 9223372036854775807) (hn4 : -9223372036854775808 ≤ a4 ∧ a4 ≤ 9223372036854775807) :
    Calls Try.prog 6 #[.slice A0 n0 c0', idV o, .slice A2 n2 c2', .int .i64 a3, .int .i64 a4] w (Tell (.bool true) w) := by
  obtain ⟨oa, oi⟩ := o
  have HR0 := Lib.hid h0
  have HR2 := Lib.hid h2
  have HL0 := Lib.hid h0.1
  have HL2 := Lib.hid h2.1
  have HN3 := Lib.hid hn3
  have HN4 := Lib.hid hn4
  clear h0 h2 hn3 hn4
  have hk0 := (((Keep.refl (fun _ => False) w).alloc (.cells #[.int .i64 oa, .int .i64 oi] 23)).alloc (.cells #[.slice A0 n0 c0', .slice A2 n2 c2'] 25))
  have hb0 := (Blk.new w 23 #[.int .i64 oa, .int .i64 oi]).alloc (.cells #[.slice A0 n0 c0', .slice A2 n2 c2'] 25)
  have hb1 := Blk.new_ (w := w.alloc (.cells #[.int .i64 oa, .int .i64 oi] 23)) (B := w.heap.size + 1) (by simp) 25 #[.slice A0 n0 c0', .slice A2 n2 c2']
  have HK0 := Lib.hid hk0
  have HB0 := Lib.hid hb0
  have HB1 := Lib.hid hb1
  clear hk0 hb0 hb1
  go_enter Try.func6, Try.ntmps6
  go_wp2_with fail
  refine (rises_any (w.heap.size + 1) 2 2 [ids, not] _ rfl (by omega) (fun i hi => ?_)).mono ?_
  · rcases (by omega : i = 0 ∨ i = 1) with rfl | rfl
    · exact ⟨A0, n0, c0', HB1.out.cell 0, HR0.out.keep0 HK0.out, hn0⟩
    · exact ⟨A2, n2, c2', HB1.out.cell 1, HR2.out.keep0 HK0.out, hn2⟩
  rintro e w1 ⟨he, hk1⟩
  have HK1 := Lib.hid (keep0_trans _ _ _ HK0.out hk1)
  have HBo1 := Lib.hid (HB0.out.keep hk1 (fun h => h))
  have hre : ([ids, not].all okL) = (okL ids && okL not) := by simp
  rw [hre] at he
  clear hk1 hre
  by_cases hC : okL ids = true ∧ okL not = true
  · have hC1 := okL_len hC.1
    have hC2 := okL_len hC.2
    rw [hC.1, hC.2] at he
    subst he
    have hl0 : n0 ≤ 100 := by rw [← HL0.out]; exact hC1.1
    have hl2 : n2 ≤ 100 := by rw [← HL2.out]; exact hC2.1
    have HRis := Lib.hid hC1.2
    clear hC hC1 hC2
    go_wp2_with fail
    refine (awake_any _).mono ?_
    rintro e w2 ⟨rfl, hk2⟩
    have HK2 := Lib.hid (keep0_trans _ _ _ HK1.out hk2)
    have HBo2 := Lib.hid (HBo1.out.keep hk2 (fun h => h))
    clear hk2
    have d0 := HBo2.out.cell 0
    have d1 := HBo2.out.cell 1
    go_wp2_with fail
    refine (watched_any A0 n0 c0' ids (oa, oi) A2 n2 c2' not a3 _ (HR0.out.keep0 HK2.out) (HR2.out.keep0 HK2.out) (by omega) (by omega) HN3.out).mono ?_
    rintro e w3 ⟨Aw, nw, cw, rfl, hs3, hk3⟩
    have HS3 := Lib.hid hs3
    have HK3 := Lib.hid (keep0_trans _ _ _ HK2.out hk3)
    have HBo3 := Lib.hid (HBo2.out.keep hk3 (fun h => h))
    have hnw : nw ≤ 100 := by have := hs3.1.1; have := watM_bound not ids (oa, oi) a3; have := HL0.out; omega
    clear hs3 hk3 d0 d1
    go_wp2_with fail
    go_loopw [14, 12, 13] (fun i x y wr => ∃ k : Nat, k ≤ n0 ∧ i = .int .i64 (k : Int) ∧ x = .int .i64 ((inM not (ids.take k) (oa, oi) : Nat) : Int) ∧ y = .int .i64 ((othM not (ids.take k) (oa, oi) : Nat) : Int) ∧ Hid (Keep (fun _ => False) w3 wr)) (fun i _ _ _ => n0 - (intOf i).toNat)
    case atStart => exact ⟨0, by omega, rfl, by simp [inM], by simp [othM], Lib.hid (Keep.refl _ _)⟩
    case round =>
      obtain ⟨k, hk, rfl, rfl, rfl, HKr⟩ := hrel
      have hb := inM_le not ids (oa, oi) k
      by_cases hlt : k < n0
      · have HKw := Lib.hid (keep0_trans _ _ _ HK3.out HKr.out)
        obtain ⟨g, off, hA, c0, c1⟩ := HR0.out.at_ hlt
        have q0 := HKw.out.cell c0 (fun h => h)
        have q1 := HKw.out.cell c1 (fun h => h)
        have b0 := HKr.out.cell (HBo3.out.cell 0) (fun h => h)
        have b1 := HKr.out.cell (HBo3.out.cell 1) (fun h => h)
        have HIn := Lib.hid (inM_next (k := k) not (oa, oi) (by rw [HL0.out]; exact hlt : k < ids.length))
        have HOt := Lib.hid (othM_next (k := k) not (oa, oi) (by rw [HL0.out]; exact hlt : k < ids.length))
        subst hA
        clear c0 c1
        generalize ids.getD k (0, 0) = x at q0 q1 HIn HOt
        generalize inM not (ids.take k) (oa, oi) = xi at *
        generalize othM not (ids.take k) (oa, oi) = yi at *
        obtain ⟨a, i⟩ := x
        simp only at q0 q1
        have hkI : (k : Int) < (n0 : Int) := by omega
        have hkJ : (0 : Int) ≤ (k : Int) := by omega
        have e2 : IntKind.i64.wrap (k : Int) = (k : Int) := IntWalk.i64_in _ (by omega)
        have e3 : IntKind.i64.wrap ((xi : Int) + 1) = ((xi + 1 : Nat) : Int) := IntWalk.i64_in _ (by omega)
        have e4 : IntKind.i64.wrap ((yi : Int) + 1) = ((yi + 1 : Nat) : Int) := IntWalk.i64_in _ (by omega)
        have G := gID
        by_cases he : (a, i) = (oa, oi)
        · have E := (fun W => by simpa [he] using eql_ID (a, i) (oa, oi) W : ∀ W, (binOp .eql 23 (idV (a, i)) (idV (oa, oi))).run Try.prog W = .ok (.bool true) W)
          have HIn2 : Hid (inM not (ids.take (k + 1)) (oa, oi) = xi) := Lib.hid (by rw [HIn.out, if_pos he, Nat.add_zero])
          have HOt2 : Hid (othM not (ids.take (k + 1)) (oa, oi) = yi) := Lib.hid (by rw [HOt.out, if_pos he, Nat.add_zero])
          clear he HIn HOt
          go_wp2
          go_quiet (fail)
          go_wp2
          go_roundw
          case rel => exact ⟨k + 1, by omega, by go_num, by rw [HIn2.out], by rw [HOt2.out], Lib.hid (HKr.out.drewN _)⟩
          case measure => simp [intOf]; omega
        · have E := (fun W => by simpa [he] using eql_ID (a, i) (oa, oi) W : ∀ W, (binOp .eql 23 (idV (a, i)) (idV (oa, oi))).run Try.prog W = .ok (.bool false) W)
          go_wp2
          go_quiet (fail)
          go_wp2_with fail
          refine (hasR_any A2 n2 c2' not (a, i) _ (HR2.out.keep0 (HKw.out.drewN _)) hn2).mono ?_
          rintro e wq ⟨he2, hkq⟩
          have HKq := Lib.hid (keep0_trans _ _ _ (HKr.out.drewN _) hkq)
          clear hkq
          by_cases hm : (a, i) ∈ not
          · rw [decide_eq_true hm] at he2
            subst he2
            have HIn2 : Hid (inM not (ids.take (k + 1)) (oa, oi) = xi + 1) := Lib.hid (by rw [HIn.out, if_neg he, if_pos hm])
            have HOt2 : Hid (othM not (ids.take (k + 1)) (oa, oi) = yi) := Lib.hid (by rw [HOt.out, if_neg he, if_pos hm, Nat.add_zero])
            clear he hm HIn HOt
            go_wp2
            go_roundw
            case rel => exact ⟨k + 1, by omega, by go_num, by rw [HIn2.out, Int.natCast_add]; rfl, by rw [HOt2.out], HKq⟩
            case measure => simp [intOf]; omega
          · rw [decide_eq_false hm] at he2
            subst he2
            have HIn2 : Hid (inM not (ids.take (k + 1)) (oa, oi) = xi) := Lib.hid (by rw [HIn.out, if_neg he, if_neg hm, Nat.add_zero])
            have HOt2 : Hid (othM not (ids.take (k + 1)) (oa, oi) = yi + 1) := Lib.hid (by rw [HOt.out, if_neg he, if_neg hm])
            clear he hm HIn HOt
            go_wp2
            go_roundw
            case rel => exact ⟨k + 1, by omega, by go_num, by rw [HIn2.out], by rw [HOt2.out, Int.natCast_add]; rfl, HKq⟩
            case measure => simp [intOf]; omega
      · obtain rfl : k = n0 := by omega
        have hlen := watM_len HRis.out not (oa, oi) a3
        have hall : ids.take k = ids := List.take_of_length_le (by rw [HL0.out]; exact Nat.le_refl _)
        rw [hall] at hb ⊢
        have hnl : (nw : Int) = ((watM not ids (oa, oi) a3).length : Int) := by rw [HS3.out.1.1]
        rw [← hnl] at hlen
        clear hall hnl
        have HKw := Lib.hid (keep0_trans _ _ _ HK3.out HKr.out)
        generalize inM not ids (oa, oi) = xi at *
        generalize othM not ids (oa, oi) = yi at *
        have d0 := HKr.out.cell (HBo3.out.cell 0) (fun h => h)
        have d1 := HKr.out.cell (HBo3.out.cell 1) (fun h => h)
        go_wp2_with fail
        refine (hasR_any Aw nw cw _ (oa, oi) _ (HS3.out.1.keep0 HKr.out) (by omega)).mono ?_
        rintro e w4 ⟨he4, hk4⟩
        rw [decide_eq_false (watM_me not ids (oa, oi) a3)] at he4
        subst he4
        have HKr4 := Lib.hid (keep0_trans _ _ _ HKr.out hk4)
        clear hk4 d0 d1
        go_wp2_with fail
        refine (risingR_any Aw nw cw _ _ (HS3.out.1.keep0 HKr4.out) (by omega)).mono ?_
        rintro e w5 ⟨he5, hk5⟩
        rw [decide_eq_true (watM_ris not ids (oa, oi) a3)] at he5
        subst he5
        have HKr5 := Lib.hid (keep0_trans _ _ _ HKr4.out hk5)
        have HKw5 := Lib.hid (keep0_trans _ _ _ HK3.out HKr5.out)
        have d0 := HKr5.out.cell (HBo3.out.cell 0) (fun h => h)
        have d1 := HKr5.out.cell (HBo3.out.cell 1) (fun h => h)
        clear hk5
        go_wp2_with fail
        refine (watched_any A0 k c0' ids (oa, oi) A2 n2 c2' not (max a3 a4) _ (HR0.out.keep0 HKw5.out) (HR2.out.keep0 HKw5.out) (by omega) (by omega) (by have := HN3.out; have := HN4.out; omega)).mono ?_
        rintro e w6 ⟨Ax, nx, cx, rfl, hs6, hk6⟩
        have hnx : nx ≤ 100 := by have := hs6.1.1; have := watM_bound not ids (oa, oi) (max a3 a4); have := HL0.out; omega
        have HS6 := Lib.hid hs6
        have HKr6 := Lib.hid (keep0_trans _ _ _ HKr5.out hk6)
        have HMore := Lib.hid (watM_more not ids (oa, oi) a3 (max a3 a4) (by omega))
        have HIds := Lib.hid (watM_ids not ids (oa, oi) a3)
        clear hs6 hk6 d0 d1
        go_wp2_with fail
        go_loopw [16] (fun i wr => ∃ r : Nat, r ≤ nw ∧ i = .int .i64 (r : Int) ∧ Hid (Keep (fun _ => False) w6 wr)) (fun i _ => nw - (intOf i).toNat)
        case atStart => exact ⟨0, by omega, rfl, Lib.hid (Keep.refl _ _)⟩
        case round =>
          obtain ⟨r, hr, rfl, HKs⟩ := hrel
          have HKt := Lib.hid (keep0_trans _ _ _ HKr6.out HKs.out)
          have HKu := Lib.hid (keep0_trans _ _ _ HK3.out HKt.out)
          by_cases hlt2 : r < nw
          · obtain ⟨g, off, hA, c0, c1⟩ := HS3.out.1.at_ hlt2
            have q0 := HKt.out.cell c0 (fun h => h)
            have q1 := HKt.out.cell c1 (fun h => h)
            have hmem : (watM not ids (oa, oi) a3).getD r (0, 0) ∈ watM not ids (oa, oi) a3 := by
              have : r < (watM not ids (oa, oi) a3).length := by rw [HS3.out.1.1]; exact hlt2
              simp [List.getD, this]
            have hm1 := HMore.out _ hmem
            have hm2 := HIds.out _ hmem
            subst hA
            clear c0 c1 hmem
            generalize (watM not ids (oa, oi) a3).getD r (0, 0) = x at q0 q1 hm1 hm2
            obtain ⟨a, i⟩ := x
            simp only at q0 q1
            have HM1 := Lib.hid hm1
            have HM2 := Lib.hid hm2
            clear hm1 hm2
            have hkI : (r : Int) < (nw : Int) := by omega
            have hkJ : (0 : Int) ≤ (r : Int) := by omega
            have e2 : IntKind.i64.wrap (r : Int) = (r : Int) := IntWalk.i64_in _ (by omega)
            go_wp2_with fail
            refine (hasR_any Ax nx cx _ (a, i) _ (HS6.out.1.keep0 HKs.out) (by omega)).mono ?_
            rintro e w7 ⟨he7, hk7⟩
            rw [decide_eq_true HM1.out] at he7
            subst he7
            have HKs7 := Lib.hid (keep0_trans _ _ _ HKs.out hk7)
            have HKu7 := Lib.hid (keep0_trans _ _ _ HKu.out hk7)
            have q0 := hk7.cell q0 (fun h => h)
            have q1 := hk7.cell q1 (fun h => h)
            clear hk7
            go_wp2_with fail
            refine (hasR_any A0 k c0' _ (a, i) _ (HR0.out.keep0 HKu7.out) (by omega)).mono ?_
            rintro e w8 ⟨he8, hk8⟩
            rw [decide_eq_true HM2.out] at he8
            subst he8
            have HKs8 := Lib.hid (keep0_trans _ _ _ HKs7.out hk8)
            clear hk8 q0 q1
            go_wp2
            go_roundw
            case rel => exact ⟨r + 1, by omega, by go_num, HKs8⟩
            case measure => simp [intOf]; omega
          · go_wp2
            go_ret
            exact ⟨rfl, HKu.out⟩
  · have hre : (okL ids && okL not) = false := by
      cases h1 : okL ids <;> cases h2 : okL not <;> simp_all
    rw [hre] at he
    subst he
    clear hC hre
    go_wp2_with fail
    refine (awake_any _).mono ?_
    rintro e w9 ⟨rfl, hk9⟩
    have HK9 := Lib.hid (keep0_trans _ _ _ HK1.out hk9)
    clear hk9
    go_wp2
    go_ret
    exact ⟨rfl, HK9.out⟩
theorem walkRingMany {w : World} (v0 : Value) (w0 : InIds w v0) (v1 : Value) (w1 : InId w v1) (v2 : Value) (w2 : InIds w v2) (a3 : Int) (w3 : (Lit.int .i64 a3).wf = true) (a4 : Int) (w4 : (Lit.int .i64 a4).wf = true) :
    Calls Try.prog 6 #[v0, v1, v2, .int .i64 a3, .int .i64 a4] w fun e w' => e = .returned (.bool true) ∧ Below w.heap.size w w' := by
  obtain ⟨A0, n0, c0, ids, rfl, hn0, hc0, h0⟩ := w0
  obtain ⟨o, rfl⟩ := w1
  obtain ⟨A2, n2, c2, not, rfl, hn2, hc2, h2⟩ := w2
  exact (many_tell A0 n0 c0 ids o A2 n2 c2 not a3 a4 w h0 h2 (by unfold maxLen at hc0; omega) (by unfold maxLen at hc2; omega) (wf_i64 w3) (wf_i64 w4)).mono fun _ _ ⟨h, k⟩ => ⟨h, k.b⟩
end Go.Proofs.Ytafolmgbmobfbaa
