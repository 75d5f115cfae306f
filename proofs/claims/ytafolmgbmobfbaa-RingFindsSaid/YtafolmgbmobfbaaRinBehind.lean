/-
  RingBehind: it returns true. Written by gen_behind.py.
-/
import Derived.Test.YtafolmgbmobfbaaRinF
namespace Go.Proofs.Ytafolmgbmobfbaa
open Go.RowKit
attribute [local irreducible] kAll
attribute [local go_sem] kQuiet kQuietUpon

theorem watM_bound (not ids : List ID) (me : ID) (n : Int) : (watM not ids me n).length ≤ ids.length := by
  rw [watM_eq]
  refine Nat.le_trans (setM_len _) ?_
  unfold watL
  rw [List.length_append, List.length_take]
  have h := ordM_len ids me
  have : ∀ s : List ID, (s.filter (fun x => decide (x ∈ not))).length + (s.filter (fun x => !decide (x ∈ not))).length = s.length := by
    intro s
    induction s with
    | nil => rfl
    | cons a s ih => simp only [List.filter_cons]; cases decide (a ∈ not) <;> simp <;> omega
  have := this (ordM ids me)
  omega
theorem wf_i64 {a : Int} (h : (Lit.int .i64 a).wf = true) : -9223372036854775808 ≤ a ∧ a ≤ 9223372036854775807 := by
  simpa [Lit.wf, IntKind.min, IntKind.max, IntKind.signed, IntKind.bits, decide_eq_true_eq] using h
theorem okL_len {l : List ID} (h : okL l = true) : l.length ≤ 100 ∧ Ris l := by
  unfold okL at h; simpa using h
set_option maxRecDepth 100000 in
set_option maxHeartbeats 4000000 in
theorem behind_tell (A0 : Option Addr) (n0 c0' : Nat) (ids : List ID) (o : ID) (A2 : Option Addr) (n2 c2' : Nat) (not : List ID) (a3 : Int) (w : World) (h0 : RdI w A0 n0 ids) (h2 : RdI w A2 n2 not)
    (hn0 : n0 ≤ 9223372036854775807) (hn2 : n2 ≤ 9223372036854775807) (hn3 : -9223372036854775808 ≤ a3 ∧ a3 ≤ 9223372036854775807) :
    Calls Try.prog 7 #[.slice A0 n0 c0', idV o, .slice A2 n2 c2', .int .i64 a3] w (Tell (.bool true) w) := by
  obtain ⟨oa, oi⟩ := o
  have HR0 := Lib.hid h0
  have HR2 := Lib.hid h2
  have HL0 := Lib.hid h0.1
  have HL2 := Lib.hid h2.1
  have HN3 := Lib.hid hn3
  clear h0 h2 hn3
  have hk0 := (((Keep.refl (fun _ => False) w).alloc (.cells #[.int .i64 oa, .int .i64 oi] 23)).alloc (.cells #[.slice A0 n0 c0', .slice A2 n2 c2'] 25))
  have hb0 := (Blk.new w 23 #[.int .i64 oa, .int .i64 oi]).alloc (.cells #[.slice A0 n0 c0', .slice A2 n2 c2'] 25)
  have hb1 := Blk.new_ (w := w.alloc (.cells #[.int .i64 oa, .int .i64 oi] 23)) (B := w.heap.size + 1) (by simp) 25 #[.slice A0 n0 c0', .slice A2 n2 c2']
  have HK0 := Lib.hid hk0
  have HB0 := Lib.hid hb0
  have HB1 := Lib.hid hb1
  clear hk0 hb0 hb1
  go_enter Try.func7, Try.ntmps7
  go_wp2_with fail
  refine (rises_any (w.heap.size + 1) 2 2 [ids, not] _ rfl (by omega) (fun i hi => ?_)).mono ?_
  · rcases (by omega : i = 0 ∨ i = 1) with rfl | rfl
    · exact ⟨A0, n0, c0', HB1.out.cell 0, HR0.out.keep0 HK0.out, hn0⟩
    · exact ⟨A2, n2, c2', HB1.out.cell 1, HR2.out.keep0 HK0.out, hn2⟩
  rintro e w1 ⟨he, hk1⟩
  have HK1 := Lib.hid (keep0_trans _ _ _ HK0.out hk1)
  have HBo1 := Lib.hid (HB0.out.keep hk1 (fun h => h))
  have hre : ([ids, not].all okL) = (okL ids && okL not) := by simp
  rw [hre] at he
  clear hk1 hre
  have d0 := HBo1.out.cell 0
  have d1 := HBo1.out.cell 1
  by_cases hC : okL ids = true ∧ okL not = true
  · have hC1 := okL_len hC.1
    have hC2 := okL_len hC.2
    rw [hC.1, hC.2] at he
    subst he
    have hl0 : n0 ≤ 100 := by rw [← HL0.out]; exact hC1.1
    have hl2 : n2 ≤ 100 := by rw [← HL2.out]; exact hC2.1
    have HRis := Lib.hid hC1.2
    clear hC hC1 hC2
    by_cases h3 : a3 < 1
    · go_wp2_with fail
      refine (awake_any _).mono ?_
      rintro e w9 ⟨rfl, hk9⟩
      have HK9 := Lib.hid (keep0_trans _ _ _ HK1.out hk9)
      clear hk9
      go_wp2
      go_ret
      exact ⟨rfl, HK9.out⟩
      
    · go_wp2_with fail
      refine (hasR_any A0 n0 c0' ids (oa, oi) _ (HR0.out.keep0 HK1.out) (by omega)).mono ?_
      rintro e w2 ⟨he, hk2⟩
      have HK2 := Lib.hid (keep0_trans _ _ _ HK1.out hk2)
      have HBo2 := Lib.hid (HBo1.out.keep hk2 (fun h => h))
      clear hk2 d0 d1
      by_cases hm : (oa, oi) ∈ ids
      · rw [decide_eq_true hm] at he
        subst he
        have HM := Lib.hid hm
        clear hm
        go_wp2_with fail
        refine (awake_any _).mono ?_
        rintro e w3 ⟨rfl, hk3⟩
        have HK3 := Lib.hid (keep0_trans _ _ _ HK2.out hk3)
        have HBo3 := Lib.hid (HBo2.out.keep hk3 (fun h => h))
        clear hk3
        have d0 := HBo3.out.cell 0
        have d1 := HBo3.out.cell 1
        go_wp2_with fail
        refine (behind_any A0 n0 c0' ids (oa, oi) _ (HR0.out.keep0 HK3.out) (by omega)).mono ?_
        rintro e w5 ⟨he, hk5⟩
        have HK5 := Lib.hid (keep0_trans _ _ _ HK3.out hk5)
        have HBo5 := Lib.hid (HBo3.out.keep hk5 (fun h => h))
        clear hk5 d0 d1
        unfold behV lastM at he
        cases hlast : (ordM ids (oa, oi)).getLast? with
        | none =>
          rw [hlast] at he
          subst he
          have h1 : n0 = 1 := by rw [← HL0.out]; exact behind_none HRis.out HM.out (List.getLast?_eq_none_iff.1 hlast)
          subst h1
          clear hlast
          go_wp2
          go_ret
          exact ⟨rfl, HK5.out.alloc _⟩
        | some b =>
          rw [hlast] at he
          subst he
          obtain ⟨r, hr⟩ := behind_first HRis.out HM.out hlast
          have hin := watM_first not ids b (oa, oi) a3 h3 r hr
          obtain ⟨ba, bi⟩ := b
          have HIn := Lib.hid hin
          have HRr := Lib.hid hr
          have hk6 := HK5.out.alloc (.cells #[.int .i64 ba, .int .i64 bi] 23)
          have hb6 := Blk.new w5 23 #[.int .i64 ba, .int .i64 bi]
          have ho6 := HBo5.out.alloc (.cells #[.int .i64 ba, .int .i64 bi] 23)
          have HK5b := Lib.hid hk6
          have HBb5 := Lib.hid hb6
          have HBo5b := Lib.hid ho6
          clear hlast hin hr hk6 hb6 ho6
          go_wp2_with fail
          refine (order_any A0 n0 c0' ids (ba, bi) _ (HR0.out.keep0 HK5b.out) (by omega)).mono ?_
          rintro e w6 ⟨row6, A6, c6, rfl, hs6, _, hk6⟩
          rw [HRr.out] at hs6
          have hlen6 : (ordM ids (ba, bi)).length = r.length + 1 := by rw [HRr.out]; rfl
          rw [List.length_cons] at hs6
          rw [hlen6]
          have HK6 := Lib.hid (keep0_trans _ _ _ HK5b.out hk6)
          have HBb := Lib.hid (HBb5.out.keep hk6 (fun h => h))
          have HBo := Lib.hid (HBo5b.out.keep hk6 (fun h => h))
          obtain ⟨g9, off9, hA9, Z0, Z1⟩ := hs6.isl.1.at_ (i := 0) (by omega)
          simp only [List.getD_cons_zero, Nat.zero_mul, Nat.add_zero] at Z0 Z1
          subst hA9
          have hgt : ((r.length + 1 : Nat) : Int) > 0 := by omega
          clear hs6 hk6 hlen6
          go_wp2_with fail
          refine wp_region_krip (Keep (fun _ => False)) (Keep.refl _) keep0_trans 19 (by kernel_rfl) (by kernel_rfl) (Ts := [none, none, none, none, none, none, some (.inl (idV (oa, oi))), some (.inl (idV (oa, oi))), some (.inl (.bool true)), none, none, none, some (.inl (idV (ba, bi))), none, none, some (.inr (fun v W => IsI W v (watM not ids (ba, bi) a3))), some (.inl (idV (oa, oi))), some (.inl (.bool true)), none]) ?_
          simp only [List.take, List.drop]
          refine kAll_p (fun K hK => ?_)
          go_simp
          generalize hZ : (Act.mk _ _) = Z
          refine hK Z ?_
          subst hZ
          clear hK K
          refine kAll_p (fun K hK => ?_)
          go_simp
          generalize hZ : (Act.mk _ _) = Z
          refine hK Z ?_
          subst hZ
          clear hK K
          refine kAll_p (fun K hK => ?_)
          go_simp
          generalize hZ : (Act.mk _ _) = Z
          refine hK Z ?_
          subst hZ
          clear hK K
          refine kAll_p (fun K hK => ?_)
          go_simp
          generalize hZ : (Act.mk _ _) = Z
          refine hK Z ?_
          subst hZ
          clear hK K
          refine kAll_pw (by kernel_rfl) (fun K hK => ?_)
          go_simp
          generalize hZ : (Act.mk _ _) = Z
          refine hK Z ?_
          subst hZ
          clear hK K
          refine kAll_pw (by kernel_rfl) (fun K hK => ?_)
          go_simp
          generalize hZ : (Act.mk _ _) = Z
          refine hK Z ?_
          subst hZ
          clear hK K
          refine kAll_dn _ (fun W hW hF => kStep_w (by kernel_rfl) fun K Q hK => ?_) (fun K hK => ?_)
          · have c0 := Keep.cell hW (show World.cell? (World.drew _) ⟨g9, off9, none⟩ = some (.int .i64 oa) from Z0) (fun h => h)
            have c1 := Keep.cell hW (show World.cell? (World.drew _) ⟨g9, off9 + 1, none⟩ = some (.int .i64 oi) from Z1) (fun h => h)
            go_simp
            exact hK _ _ (Keep.refl _ _) rfl
          go_simp
          generalize hZ : (Act.mk _ _) = Z
          refine hK Z ?_
          subst hZ
          clear hK K
          refine kAll_dn _ (fun W hW hF => kStep_w (by kernel_rfl) fun K Q hK => ?_) (fun K hK => ?_)
          · have c0 := Keep.cell hW (show World.cell? (World.drew _) ⟨w.heap.size, 0, none⟩ = some (.int .i64 oa) from HBo.out.cell 0) (fun h => h)
            have c1 := Keep.cell hW (show World.cell? (World.drew _) ⟨w.heap.size, 1, none⟩ = some (.int .i64 oi) from HBo.out.cell 1) (fun h => h)
            go_simp
            exact hK _ _ (Keep.refl _ _) rfl
          go_simp
          generalize hZ : (Act.mk _ _) = Z
          refine hK Z ?_
          subst hZ
          clear hK K
          refine kAll_dn _ (fun W hW hF => kStep_w (by kernel_rfl) fun K Q hK => ?_) (fun K hK => ?_)
          · have hE := eql_ID (oa, oi) (oa, oi) W
            have G := gID
            go_simp
            exact hK _ _ (Keep.refl _ _) (by simp)
          go_simp
          generalize hZ : (Act.mk _ _) = Z
          refine hK Z ?_
          subst hZ
          clear hK K
          refine kAll_p (fun K hK => ?_)
          go_simp
          generalize hZ : (Act.mk _ _) = Z
          refine hK Z ?_
          subst hZ
          clear hK K
          refine kAll_p (fun K hK => ?_)
          go_simp
          generalize hZ : (Act.mk _ _) = Z
          refine hK Z ?_
          subst hZ
          clear hK K
          refine kAll_pw (by kernel_rfl) (fun K hK => ?_)
          go_simp
          generalize hZ : (Act.mk _ _) = Z
          refine hK Z ?_
          subst hZ
          clear hK K
          refine kAll_dn _ (fun W hW hF => kStep_w (by kernel_rfl) fun K Q hK => ?_) (fun K hK => ?_)
          · have c0 := Keep.cell hW (show World.cell? (World.drew _) ⟨w5.heap.size, 0, none⟩ = some (.int .i64 ba) from HBb.out.cell 0) (fun h => h)
            have c1 := Keep.cell hW (show World.cell? (World.drew _) ⟨w5.heap.size, 1, none⟩ = some (.int .i64 bi) from HBb.out.cell 1) (fun h => h)
            go_simp
            exact hK _ _ (Keep.refl _ _) rfl
          go_simp
          generalize hZ : (Act.mk _ _) = Z
          refine hK Z ?_
          subst hZ
          clear hK K
          refine kAll_pw (by kernel_rfl) (fun K hK => ?_)
          go_simp
          generalize hZ : (Act.mk _ _) = Z
          refine hK Z ?_
          subst hZ
          clear hK K
          refine kAll_pw (by kernel_rfl) (fun K hK => ?_)
          go_simp
          generalize hZ : (Act.mk _ _) = Z
          refine hK Z ?_
          subst hZ
          clear hK K
          refine kAll_tn _ (fun v W W' hk h => h.keep0 hk) (fun W hW hF => kStep_w (by kernel_rfl) fun K Q hK => ?_) (fun u0 K hK => ?_)
          · go_simp
            refine (watched_any A0 n0 c0' ids (ba, bi) A2 n2 c2' not a3 W (HR0.out.keep0 (keep0_trans _ _ _ HK6.out.drew hW)) (HR2.out.keep0 (keep0_trans _ _ _ HK6.out.drew hW)) (by omega) (by omega) HN3.out).mono ?_
            rintro e w' ⟨A', n', c', rfl, hs, hk⟩
            exact hK _ _ hk ⟨_, _, _, rfl, hs⟩
          go_simp
          generalize hZ : (Act.mk _ _) = Z
          refine hK Z ?_
          subst hZ
          clear hK K
          refine kAll_dn _ (fun W hW hF => kStep_w (by kernel_rfl) fun K Q hK => ?_) (fun K hK => ?_)
          · have c0 := Keep.cell hW (show World.cell? (World.drew _) ⟨w.heap.size, 0, none⟩ = some (.int .i64 oa) from HBo.out.cell 0) (fun h => h)
            have c1 := Keep.cell hW (show World.cell? (World.drew _) ⟨w.heap.size, 1, none⟩ = some (.int .i64 oi) from HBo.out.cell 1) (fun h => h)
            go_simp
            exact hK _ _ (Keep.refl _ _) rfl
          go_simp
          generalize hZ : (Act.mk _ _) = Z
          refine hK Z ?_
          subst hZ
          clear hK K
          refine kAll_dn _ (fun W hW hF => kStep_w (by kernel_rfl) fun K Q hK => ?_) (fun K hK => ?_)
          · obtain ⟨A7, n7, c7, rfl, h7⟩ := (show IsI W u0 (watM not ids (ba, bi) a3) from kHas_at hF 0 rfl (by kernel_rfl))
            have hl7 := watM_bound not ids (ba, bi) a3
            go_simp
            refine (hasR_any A7 n7 c7 _ (oa, oi) W h7.1 (by have := h7.1.1; have := HL0.out; omega)).mono ?_
            rintro e w' ⟨rfl, hk⟩
            exact hK _ _ hk (congrArg Value.bool (decide_eq_true HIn.out))
          go_simp
          generalize hZ : (Act.mk _ _) = Z
          refine hK Z ?_
          subst hZ
          clear hK K
          refine kAll_p (fun K hK => ?_)
          go_simp
          generalize hZ : (Act.mk _ _) = Z
          refine hK Z ?_
          subst hZ
          clear hK K
          refine kAll_nil (fun W hW hF => ?_)
          clear hF
          go_wp2
          go_ret
          exact ⟨rfl, keepD HK6.out hW⟩
      · rw [decide_eq_false hm] at he
        subst he
        clear hm
        go_wp2_with fail
        refine (awake_any _).mono ?_
        rintro e w9 ⟨rfl, hk9⟩
        have HK9 := Lib.hid (keep0_trans _ _ _ HK2.out hk9)
        clear hk9
        go_wp2
        go_ret
        exact ⟨rfl, HK9.out⟩
  · have hre : (okL ids && okL not) = false := by
      cases h1 : okL ids <;> cases h2 : okL not <;> simp_all
    rw [hre] at he
    subst he
    clear hC hre
    go_wp2_with fail
    refine (awake_any _).mono ?_
    rintro e w9 ⟨rfl, hk9⟩
    have HK9 := Lib.hid (keep0_trans _ _ _ HK1.out hk9)
    clear hk9
    go_wp2
    go_ret
    exact ⟨rfl, HK9.out⟩
theorem walkRingBehind {w : World} (v0 : Value) (w0 : InIds w v0) (v1 : Value) (w1 : InId w v1) (v2 : Value) (w2 : InIds w v2) (a3 : Int) (w3 : (Lit.int .i64 a3).wf = true) :
    Calls Try.prog 7 #[v0, v1, v2, .int .i64 a3] w fun e w' => e = .returned (.bool true) ∧ Below w.heap.size w w' := by
  obtain ⟨A0, n0, c0, ids, rfl, hn0, hc0, h0⟩ := w0
  obtain ⟨o, rfl⟩ := w1
  obtain ⟨A2, n2, c2, not, rfl, hn2, hc2, h2⟩ := w2
  exact (behind_tell A0 n0 c0 ids o A2 n2 c2 not a3 w h0 h2 (by unfold maxLen at hc0; omega) (by unfold maxLen at hc2; omega) (wf_i64 w3)).mono fun _ _ ⟨h, k⟩ => ⟨h, k.b⟩
end Go.Proofs.Ytafolmgbmobfbaa
