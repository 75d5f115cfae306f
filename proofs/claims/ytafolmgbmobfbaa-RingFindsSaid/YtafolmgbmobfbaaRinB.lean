/-
  ring.Watched, ring.Behind.
-/
import Derived.Test.YtafolmgbmobfbaaRanged
import Derived.Test.YtafolmgbmobfbaaHas
import Derived.Test.YtafolmgbmobfbaaRef3B
import Derived.RangeFuncCalls
namespace Go.Proofs.Ytafolmgbmobfbaa
open Go.RowKit

/-- between two rounds of Watched -/
structure WtAt (w : World) (A2 : Option Addr) (m2 c2 : Nat) (not : List ID) (A : Option Addr) (m c : Nat) (me : ID) (n : Int) (s : List ID) (W : World) : Prop where
  out : ∃ row Ao no co, Blk W (w.heap.size + 1 + 1 + 1) 25 #[.slice Ao no co] ∧ SlK W 23 2 row Ao no co ((s.foldl (watS not) ([], n)).1.flatMap cID) ∧ (∀ g, row = some g → w.heap.size + 8 < g)
  num : Blk W (w.heap.size + 1 + 1) 3 #[.int .i64 (s.foldl (watS not) ([], n)).2]
  nots : Blk W (w.heap.size + 1) 25 #[.slice A2 m2 c2]
  bi : Blk W (w.heap.size + 1 + 1 + 1 + 1) 25 #[.slice A m c]
  bm : Blk W (w.heap.size + 1 + 1 + 1 + 1 + 1) 23 #[.int .i64 me.1, .int .i64 me.2]
  keep : Keep (fun _ => False) w W
theorem WtAt.kept {w : World} {A2 : Option Addr} {m2 c2 : Nat} {not : List ID} {A : Option Addr} {m c : Nat} {me : ID} {n : Int} {s : List ID} {W W' : World} (h : WtAt w A2 m2 c2 not A m c me n s W)
    (hk : Keep (fun k => k = w.heap.size + 6 ∨ k = w.heap.size + 6 + 1 ∨ k = w.heap.size + 6 + 2) W W') : WtAt w A2 m2 c2 not A m c me n s W' := by
  obtain ⟨⟨row, Ao, no, co, h1, h2, h3⟩, h4, h5, h6, h7, h8⟩ := h
  exact ⟨⟨row, Ao, no, co, h1.keep hk (by omega), h2.keep hk (fun g hg => by have := h3 g hg; omega), h3⟩, h4.keep hk (by omega), h5.keep hk (by omega), h6.keep hk (by omega), h7.keep hk (by omega), h8.trans (hk.mono fun k _ hs => .inr (by omega))⟩
theorem watS_len (not : List ID) (n : Int) (s : List ID) : (s.foldl (watS not) ([], n)).1.length ≤ s.length := by
  rw [wat_fold not s [] n ris_nil]
  refine Nat.le_trans (setM_len _) ?_
  simp only [List.nil_append, List.length_append, List.length_take]
  have : (s.filter (fun x => decide (x ∈ not))).length + (s.filter (fun x => !decide (x ∈ not))).length = s.length := by
    induction s with
    | nil => rfl
    | cons a s ih => simp only [List.filter_cons]; cases decide (a ∈ not) <;> simp <;> omega
  omega
theorem watS_snoc (not : List ID) (n : Int) (s : List ID) (x : ID) : (s ++ [x]).foldl (watS not) ([], n) = watS not (s.foldl (watS not) ([], n)) x := by rw [List.foldl_append]; rfl
theorem watS_snd (not : List ID) (n : Int) : ∀ (s : List ID) (acc : List ID) (k : Int), k ≤ n → (s.foldl (watS not) (acc, k)).2 ≤ n
  | [], _, _, h => h
  | x :: s, acc, k, h => by
    rw [List.foldl_cons]
    have e : watS not (acc, k) x = ((watS not (acc, k) x).1, (watS not (acc, k) x).2) := rfl
    rw [e]
    refine watS_snd not n s _ _ ?_
    unfold watS
    split
    · exact h
    · split
      · simp only; omega
      · exact h
set_option maxRecDepth 100000 in
set_option maxHeartbeats 4000000 in
theorem watched_any (A : Option Addr) (m c : Nat) (ids : List ID) (me : ID) (A2 : Option Addr) (m2 c2 : Nat) (not : List ID) (n : Int) (w : World) (h : RdI w A m ids) (h2 : RdI w A2 m2 not) (hm : m ≤ 500000) (hm2 : m2 ≤ 1000000)
    (hn : -9223372036854775808 ≤ n ∧ n ≤ 9223372036854775807) :
    Calls Try.prog 11 #[.slice A m c, idV me, .slice A2 m2 c2, .int .i64 n] w (GotI (watM not ids me n) w) := by
  obtain ⟨ma, mi⟩ := me
  have eg : ∀ args w, (callFunc 28 args).run Try.prog w = .ok (.enter 28 args) w := enters_of Try.func28 (by kernel_rfl) rfl
  have HR := Lib.hid h
  have HR2 := Lib.hid h2
  clear h h2
  refine (callsIn_wide (n := 8)).1 ?_
  refine callsIn_of_wp_marks Try.func11 rfl trivial ?_ rfl
  simp only [Try.ntmps11, List.size_toArray, List.length_cons, List.length_nil, Nat.reduceAdd, Nat.reduceSub, Array.replicate_succ, Array.replicate_zero, List.push_toArray, List.append_toArray, List.nil_append, List.cons_append]
  gi_wp2_with fail
  refine ⟨trivial, CallsIn.mono (callsIn_wide.2 (around_any A m c (ma, mi) _)) ?_⟩
  rintro e w1 ⟨rfl, hw1⟩
  have hsz : w1.heap.size = w.heap.size + 6 := by rw [hw1]; simp
  have hWt : WtAt w A2 m2 c2 not A m c (ma, mi) n [] w1 := by
    rw [hw1]
    refine ⟨⟨none, none, 0, 0, ?_, SlK.nil_ _ _ _, fun g hg => by cases hg⟩, ?_, ?_, ?_, ?_, ?_⟩
    · exact ((Blk.new_ (by simp) _ _).alloc _).alloc _
    · exact (((Blk.new_ (by simp) _ _).alloc _).alloc _).alloc _
    · exact ((((Blk.new_ (by simp) _ _).alloc _).alloc _).alloc _).alloc _
    · exact (Blk.new_ (by simp) _ _).alloc _
    · exact Blk.new_ (by simp) _ _
    · exact ((((((Keep.refl _ w).alloc _).alloc _).alloc _).alloc _).alloc _).alloc _
  have HWt := Lib.hid hWt
  have HSz := Lib.hid hsz
  clear hWt hw1 hsz
  simp only [World.size_alloc]
  gi_wp2
  refine rangeFunc_gives (by omega) rfl eg (around1_in 7 (by omega) (w.heap.size + 1 + 1 + 1 + 1) (w.heap.size + 1 + 1 + 1 + 1 + 1) A m c ids (ma, mi) (by omega)) (fun x => #[.int .i64 x.1, .int .i64 x.2]) 23
    (WtAt w A2 m2 c2 not A m c (ma, mi) n)
    (fun W1 hk => HWt.out.kept (hk.mono fun _ _ h => h.elim)) (fun s W hI => ⟨hI.bi.cell 0, hI.bm, HR.out.keep0 hI.keep⟩)
    (fun s A B hI hk => hI.kept (by rw [HSz.out] at hk; exact hk)) (fun x b => { tmps := #[.slice A m c, idV (ma, mi), .slice A2 m2 c2, .int .i64 n, undef, .pointer (some ⟨w.heap.size, 0, none⟩), .pointer (some ⟨w.heap.size + 1, 0, none⟩), .pointer (some ⟨w.heap.size + 1 + 1, 0, none⟩), .slice none 0 0, .pointer (some ⟨w.heap.size + 1 + 1 + 1, 0, none⟩), .pointer (some ⟨b, 0, none⟩), .slice A m c, .agg #[.int .i64 ma, .int .i64 mi], .func (.func 28) #[] #[.pointer (some ⟨w.heap.size + 1 + 1 + 1 + 1, 0, none⟩), .pointer (some ⟨w.heap.size + 1 + 1 + 1 + 1 + 1, 0, none⟩)], idV x, undef, undef, undef, undef, undef, undef, undef, undef, undef, undef, undef, undef, undef, undef], defers := [] }) ?_ ?_ ?_
  · intro l x W K hK
    obtain ⟨a, i⟩ := x
    have HK := Lib.hid hK
    clear hK
    simp only [List.setIfInBounds_toArray, List.set_cons_succ, List.set_cons_zero]
    gi_wp2_with (rw [Oper.semAt_eq _ _ _ (fun c h => by cases h)]; go_simp)
    exact HK.out
  · intro pre x W b hI hb hbt hlen
    obtain ⟨a, i⟩ := x
    have c0 := hI.nots.cell 0
    obtain ⟨row, Ao, no, co, ho1, ho2, ho3⟩ := hI.out
    have k1 := ho1.cell 0
    have k2 := hI.num.cell 0
    have b0 := hb.cell 0
    have b1 := hb.cell 1
    have HNum := Lib.hid hI.num
    have HI := Lib.hid hI
    have HB := Lib.hid hb
    have HO1 := Lib.hid ho1
    have HO2 := Lib.hid ho2
    have HO3 := Lib.hid ho3
    clear hI hb ho1 ho2 ho3
    have HNo : Hid (no ≤ 500000) := Lib.hid (by
      have h1 := HO2.out.1
      have h2 := watS_len not n pre
      rw [flat_len cID 2 (fun _ => rfl)] at h1
      omega)
    have HLo : Hid ((pre.foldl (watS not) ([], n)).1.length = no) := Lib.hid (by have h1 := HO2.out.1; rw [flat_len cID 2 (fun _ => rfl)] at h1; omega)
    have hkn := watS_snd not n pre [] n (Int.le_refl _)
    have HSn := Lib.hid (watS_snoc not n pre (a, i))
    generalize hfold : pre.foldl (watS not) ([], n) = st at *
    obtain ⟨out, k⟩ := st
    simp only at k2 hkn HNum HO2 HLo
    have HF := Lib.hid hfold
    clear hfold
    by_cases hin : (a, i) ∈ not
    · have hd : decide ((a, i) ∈ not) = true := by simp [hin]
      have HSt : Hid (watS not (out, k) (a, i) = (setM (out ++ [(a, i)]), k)) := Lib.hid (by unfold watS; rw [if_pos hin])
      clear hin
      gi_wp2_with (rw [Oper.semAt_eq _ _ _ (fun c h => by cases h)]; go_simp)
      refine ⟨trivial, (CallsIn.inRound _ (callsIn_wide.2 (has_any A2 m2 c2 not (a, i) _ (HR2.out.keep0 HI.out.keep) (by omega)))).mono ?_⟩
      rintro e W2 ⟨he, hk2⟩
      rw [hd] at he
      subst he
      have HK2 := Lib.hid hk2
      have k1 := hk2.cell (HO1.out.cell 0) (fun h => h)
      have k2 := hk2.cell (HNum.out.cell 0) (fun h => h)
      have b0 := hk2.cell (HB.out.cell 0) (fun h => h)
      have b1 := hk2.cell (HB.out.cell 1) (fun h => h)
      have f1 := (HO1.out.keep hk2 (fun h => h)).frozen 0
      have f2 := (HNum.out.keep hk2 (fun h => h)).frozen 0
      clear hk2
      gi_wp2_with (rw [Oper.semAt_eq _ _ _ (fun c h => by cases h)]; go_simp)
      refine ⟨trivial, (CallsIn.inRound _ (callsIn_wide.2 (put_any Ao no co out (a, i) _ ⟨HLo.out, (HO2.out.keep0 HK2.out).rd⟩ (by have := HNo.out; omega)))).mono ?_⟩
      rintro e W3 ⟨row3, A3, c3, rfl, hs3, hr3, hk3⟩
      have HS3 := Lib.hid hs3
      have HR3 := Lib.hid hr3
      have HK3 := Lib.hid (keep0_trans _ _ _ HK2.out hk3)
      have k2 := HK3.out.cell (HNum.out.cell 0) (fun h => h)
      have f1 := (HO1.out.keep HK3.out (fun h => h)).frozen 0
      have f2 := (HNum.out.keep HK3.out (fun h => h)).frozen 0
      have o1 := HK3.out.cell (HO1.out.cell 0) (fun h => h)
      clear hs3 hr3 hk3
      gi_wp2_with (rw [Oper.semAt_eq _ _ _ (fun c h => by cases h)]; go_simp)
      have hb2 := HB.out.lt
      have hs2 := HK2.out.size
      have hsz := HSz.out
      have hks : Keep (fun g => g = w.heap.size + 1 + 1 + 1) W3 (W3.setCell ⟨w.heap.size + 1 + 1 + 1, 0, none⟩ (.slice A3 (setM (out ++ [(a, i)])).length c3)) := (Keep.refl (fun g => g = w.heap.size + 1 + 1 + 1) W3).setCell (p := ⟨w.heap.size + 1 + 1 + 1, 0, none⟩) (fun _ => rfl) _
      refine ⟨(HK3.out.mono fun _ _ h => h.elim).setCell (fun _ => by simp only; omega) _, ⟨row3, A3, _, c3, (HO1.out.keep HK3.out (fun h => h)).set_ 0 _, ?_, ?_⟩, ?_, ?_, ?_, ?_, ?_⟩
      · rw [HSn.out, HSt.out]; exact HS3.out.keep hks (fun g hg => by have := HR3.out g hg; omega)
      · intro g hg; have := HR3.out g hg; omega
      · rw [HSn.out, HSt.out]; exact (HNum.out.keep HK3.out (fun h => h)).keep hks (by omega)
      · exact (HI.out.nots.keep HK3.out (fun h => h)).keep hks (by omega)
      · exact (HI.out.bi.keep HK3.out (fun h => h)).keep hks (by omega)
      · exact (HI.out.bm.keep HK3.out (fun h => h)).keep hks (by omega)
      · exact (keep0_trans _ _ _ HI.out.keep HK3.out).trans (hks.mono fun g _ e => .inr (by omega))
    · have hd : decide ((a, i) ∈ not) = false := by simp [hin]
      by_cases hk0 : k > 0
      · have HSt : Hid (watS not (out, k) (a, i) = (setM (out ++ [(a, i)]), k - 1)) := Lib.hid (by unfold watS; rw [if_neg hin, if_pos hk0])
        have hw : IntKind.i64.wrap (k - 1) = k - 1 := IntWalk.i64_in _ (by omega)
        clear hin
        gi_wp2_with (rw [Oper.semAt_eq _ _ _ (fun c h => by cases h)]; go_simp)
        refine ⟨trivial, (CallsIn.inRound _ (callsIn_wide.2 (has_any A2 m2 c2 not (a, i) _ (HR2.out.keep0 HI.out.keep) (by omega)))).mono ?_⟩
        rintro e W2 ⟨he, hk2⟩
        rw [hd] at he
        subst he
        have HK2 := Lib.hid hk2
        have k1 := hk2.cell (HO1.out.cell 0) (fun h => h)
        have k2 := hk2.cell (HNum.out.cell 0) (fun h => h)
        have b0 := hk2.cell (HB.out.cell 0) (fun h => h)
        have b1 := hk2.cell (HB.out.cell 1) (fun h => h)
        have f1 := (HO1.out.keep hk2 (fun h => h)).frozen 0
        have f2 := (HNum.out.keep hk2 (fun h => h)).frozen 0
        clear hk2
        gi_wp2_with (rw [Oper.semAt_eq _ _ _ (fun c h => by cases h)]; go_simp)
        refine ⟨trivial, (CallsIn.inRound _ (callsIn_wide.2 (put_any Ao no co out (a, i) _ ⟨HLo.out, (HO2.out.keep0 HK2.out).rd⟩ (by have := HNo.out; omega)))).mono ?_⟩
        rintro e W3 ⟨row3, A3, c3, rfl, hs3, hr3, hk3⟩
        have HS3 := Lib.hid hs3
        have HR3 := Lib.hid hr3
        have HK3 := Lib.hid (keep0_trans _ _ _ HK2.out hk3)
        have k2 := HK3.out.cell (HNum.out.cell 0) (fun h => h)
        have f1 := (HO1.out.keep HK3.out (fun h => h)).frozen 0
        have f2 := (HNum.out.keep HK3.out (fun h => h)).frozen 0
        have o1 := HK3.out.cell (HO1.out.cell 0) (fun h => h)
        clear hs3 hr3 hk3
        gi_wp2_with (rw [Oper.semAt_eq _ _ _ (fun c h => by cases h)]; go_simp)
        have hb2 := HB.out.lt
        have hs2 := HK2.out.size
        have hsz := HSz.out
        have hks : Keep (fun g => g = w.heap.size + 1 + 1 + 1 ∨ g = w.heap.size + 1 + 1) W3 ((W3.setCell ⟨w.heap.size + 1 + 1 + 1, 0, none⟩ (.slice A3 (setM (out ++ [(a, i)])).length c3)).setCell ⟨w.heap.size + 1 + 1, 0, none⟩ (.int .i64 (k - 1))) := ((Keep.refl (fun g => g = w.heap.size + 1 + 1 + 1 ∨ g = w.heap.size + 1 + 1) W3).setCell (p := ⟨w.heap.size + 1 + 1 + 1, 0, none⟩) (fun _ => .inl rfl) _).setCell (p := ⟨w.heap.size + 1 + 1, 0, none⟩) (fun _ => .inr rfl) _
        refine ⟨((HK3.out.mono fun _ _ h => h.elim).setCell (fun _ => by simp only; omega) _).setCell (fun _ => by simp only; omega) _, ⟨row3, A3, _, c3, ((HO1.out.keep HK3.out (fun h => h)).set_ 0 _).far (by simp) _, ?_, ?_⟩, ?_, ?_, ?_, ?_, ?_⟩
        · rw [HSn.out, HSt.out]; exact HS3.out.keep hks (fun g hg => by have := HR3.out g hg; omega)
        · intro g hg; have := HR3.out g hg; omega
        · rw [HSn.out, HSt.out]; exact ((HNum.out.keep HK3.out (fun h => h)).far (by simp) _).set_ 0 _
        · exact (HI.out.nots.keep HK3.out (fun h => h)).keep hks (by omega)
        · exact (HI.out.bi.keep HK3.out (fun h => h)).keep hks (by omega)
        · exact (HI.out.bm.keep HK3.out (fun h => h)).keep hks (by omega)
        · exact (keep0_trans _ _ _ HI.out.keep HK3.out).trans (hks.mono fun g _ e => .inr (by omega))
      · have HSt : Hid (watS not (out, k) (a, i) = (out, k)) := Lib.hid (by unfold watS; rw [if_neg hin, if_neg hk0])
        clear hin
        gi_wp2_with (rw [Oper.semAt_eq _ _ _ (fun c h => by cases h)]; go_simp)
        refine ⟨trivial, (CallsIn.inRound _ (callsIn_wide.2 (has_any A2 m2 c2 not (a, i) _ (HR2.out.keep0 HI.out.keep) (by omega)))).mono ?_⟩
        rintro e W2 ⟨he, hk2⟩
        rw [hd] at he
        subst he
        have HK2 := Lib.hid hk2
        have k1 := hk2.cell (HO1.out.cell 0) (fun h => h)
        have k2 := hk2.cell (HNum.out.cell 0) (fun h => h)
        have b0 := hk2.cell (HB.out.cell 0) (fun h => h)
        have b1 := hk2.cell (HB.out.cell 1) (fun h => h)
        have f1 := (HO1.out.keep hk2 (fun h => h)).frozen 0
        have f2 := (HNum.out.keep hk2 (fun h => h)).frozen 0
        clear hk2
        gi_wp2_with (rw [Oper.semAt_eq _ _ _ (fun c h => by cases h)]; go_simp)
        have hb2 := HB.out.lt
        have hs2 := HK2.out.size
        refine ⟨HK2.out.mono fun _ _ h => h.elim, ⟨row, Ao, no, co, HO1.out.keep HK2.out (fun h => h), ?_, HO3.out⟩, ?_, ?_, ?_, ?_, ?_⟩
        · rw [HSn.out, HSt.out]; exact HO2.out.keep0 HK2.out
        · rw [HSn.out, HSt.out]; exact HNum.out.keep HK2.out (fun h => h)
        · exact HI.out.nots.keep HK2.out (fun h => h)
        · exact HI.out.bi.keep HK2.out (fun h => h)
        · exact HI.out.bm.keep HK2.out (fun h => h)
        · exact keep0_trans _ _ _ HI.out.keep HK2.out
  · intro xs W hS hI hD
    obtain ⟨row, Ao, no, co, ho1, ho2, ho3⟩ := hI.out
    have c1 := ho1.cell 0
    have HI := Lib.hid hI
    have HO2 := Lib.hid ho2
    have HO3 := Lib.hid ho3
    have HD := Lib.hid hD
    have HS := Lib.hid hS
    clear hI ho1 ho2 ho3 hD hS
    gi_wp2
    refine ⟨by simp, .inl ⟨_, _, rfl, run_takeDeferred HD.out, ?_⟩⟩
    have hfin := HO2.out
    have hw : (xs.foldl (watS not) ([], n)).1 = watM not ids (ma, mi) n := by rw [HS.out]; rfl
    rw [hw] at hfin
    have hk : Keep (fun g => g = w1.heap.size) W (W.putObj w1.heap.size (.deferred none)) := Keep.grown (grownBy_putObj _ _ _) (fun k e => by injection e with e; exact e.symm)
    have hsz := HSz.out
    have hs2 := hfin.keep hk (fun g hg => by have := HO3.out g hg; omega)
    exact ⟨_, results_tmp rfl _ _ _, Ao, no, co, rfl, hs2.isl, HI.out.keep.trans (hk.mono fun g _ e => .inr (by omega))⟩
end Go.Proofs.Ytafolmgbmobfbaa
