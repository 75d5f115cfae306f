/-
  frame.Encode.
  code.Reader: numbers.
  code.read, Reader.Num, Left, End; frame's reader: num, small, id.
  code.Reader: ID, where one stands.
-/
import Derived.Test.YtgoldgamjogadaaGreatMgN10
import Derived.Laws.BitsAllLaws
import Derived.WalkArith
namespace Go.Proofs.YtgoldgamjogadaaGreat
open Go.RowKit Go
set_option maxRecDepth 100000
attribute [local go_sem] bs_toList bs_size bs_get
attribute [local irreducible] kAll
attribute [local go_sem] kQuiet kQuietUpon

/-- a frame's bytes ahead of the sum, and what was wrong -/
def bodyM (f : FrM) : WS := viewW (idW (numsW (idW (idW (numsW ([], 0) [(f.kind : Int)]) f.frm) f.to) [f.n, f.tok]) f.abt) f.view
def encM (f : FrM) : Bs × Int :=
  if mayF f then (if (bodyM f).2 = 0 then (if ((bodyM f).1 ++ le4 (sumM (bodyM f).1)).length > 8192 then ([], 40) else ((bodyM f).1 ++ le4 (sumM (bodyM f).1), 0)) else ([], (bodyM f).2)) else ([], 4)
theorem viewW_len (st : WS) (v : VwM) (h : Few v) : (viewW st v).1.length ≤ st.1.length + 40000000 := by
  obtain ⟨n1, n2, n3, n4, n5, n6⟩ := h
  unfold viewW
  have a1 := idsW_len (v.clk.foldl tickW (numsW (v.rows.foldl rowW (numsW (idsW (v.mem.foldl memW (numsW st [(v.mem.length : Int)])) v.fl) [(v.rows.length : Int)])) [(v.clk.length : Int)])) v.seen
  have a2 := foldW_len tickW tickW_len v.clk (numsW (v.rows.foldl rowW (numsW (idsW (v.mem.foldl memW (numsW st [(v.mem.length : Int)])) v.fl) [(v.rows.length : Int)])) [(v.clk.length : Int)])
  have a3 := numsW_len [(v.clk.length : Int)] (v.rows.foldl rowW (numsW (idsW (v.mem.foldl memW (numsW st [(v.mem.length : Int)])) v.fl) [(v.rows.length : Int)]))
  have a4 := foldW_len rowW rowW_len v.rows (numsW (idsW (v.mem.foldl memW (numsW st [(v.mem.length : Int)])) v.fl) [(v.rows.length : Int)])
  have a5 := numsW_len [(v.rows.length : Int)] (idsW (v.mem.foldl memW (numsW st [(v.mem.length : Int)])) v.fl)
  have a6 := idsW_len (v.mem.foldl memW (numsW st [(v.mem.length : Int)])) v.fl
  have a7 := foldW_len memW memW_len v.mem (numsW st [(v.mem.length : Int)])
  have a8 := numsW_len [(v.mem.length : Int)] st
  simp only [List.length_cons, List.length_nil] at a3 a5 a8
  omega
theorem keepB_next {B : Nat} {w0 w w' : World} (h : Keep (fun _ => False) w0 w ∧ True) (hB : w0.heap.size ≤ B) (k : Keep (fun q => B = q) w w') : Keep (fun _ => False) w0 w' ∧ True := ⟨h.1.since hB k, trivial⟩
set_option maxHeartbeats 8000000 in
theorem encode_any (f : FrM) (m l r c s : Value) (w : World) (hk : f.kind < 256) (hv : IsV w m l r c s f.view) (hf : Few f.view) :
    Calls Tryz.prog 9 #[frV f m l r c s] w (Tell (pairV (encM f)) w) := by
  have HMay := Lib.hid (fun W h => frameMay_any f m l r c s W hk (IsV.keep0 hv h) hf)
  obtain ⟨k, ⟨fa, fi⟩, ⟨ta, ti⟩, nn, tok, ⟨ba, bi⟩, ⟨mem, fl, rows, clk, seen⟩⟩ := f
  have HV := Lib.hid hv
  have HFew := Lib.hid hf
  obtain ⟨⟨Am, nm, cm, rfl, hm⟩, ⟨Af, nf, cf, rfl, hfl⟩, ⟨Ar, nr, cr, rfl, hr⟩, ⟨Ac, nc, cc, rfl, hc⟩, ⟨As, ns, cs, rfl, hs⟩, hst⟩ := hv
  simp only at hk
  have e1 : IntKind.i64.wrap (k : Int) = (k : Int) := IntWalk.i64_in _ (by omega)
  obtain ⟨en, hen⟩ : ∃ e, encM ⟨k, (fa, fi), (ta, ti), nn, tok, (ba, bi), ⟨mem, fl, rows, clk, seen⟩⟩ = e := ⟨_, rfl⟩
  have HO := Lib.hid (show en = _ from hen.symm.trans (show encM ⟨k, (fa, fi), (ta, ti), nn, tok, (ba, bi), ⟨mem, fl, rows, clk, seen⟩⟩ = (if mayF ⟨k, (fa, fi), (ta, ti), nn, tok, (ba, bi), ⟨mem, fl, rows, clk, seen⟩⟩ then (if (bodyM ⟨k, (fa, fi), (ta, ti), nn, tok, (ba, bi), ⟨mem, fl, rows, clk, seen⟩⟩).2 = 0 then (if ((bodyM ⟨k, (fa, fi), (ta, ti), nn, tok, (ba, bi), ⟨mem, fl, rows, clk, seen⟩⟩).1 ++ le4 (sumM (bodyM ⟨k, (fa, fi), (ta, ti), nn, tok, (ba, bi), ⟨mem, fl, rows, clk, seen⟩⟩).1)).length > 8192 then ([], 40) else ((bodyM ⟨k, (fa, fi), (ta, ti), nn, tok, (ba, bi), ⟨mem, fl, rows, clk, seen⟩⟩).1 ++ le4 (sumM (bodyM ⟨k, (fa, fi), (ta, ti), nn, tok, (ba, bi), ⟨mem, fl, rows, clk, seen⟩⟩).1), 0)) else ([], (bodyM ⟨k, (fa, fi), (ta, ti), nn, tok, (ba, bi), ⟨mem, fl, rows, clk, seen⟩⟩).2)) else ([], 4)) from rfl))
  rw [hen]
  clear hen
  obtain ⟨W0, hW0⟩ : ∃ W0, w.alloc (.cells #[.int .u8 (k : Int), .int .i64 fa, .int .i64 fi, .int .i64 ta, .int .i64 ti, .int .i64 nn, .int .i64 tok, .int .i64 ba, .int .i64 bi, .slice Am nm cm, .slice Af nf cf, .slice Ar nr cr, .slice Ac nc cc, .slice As ns cs] 39) = W0 := ⟨_, rfl⟩
  have hb : Blk W0 w.heap.size 39 #[.int .u8 (k : Int), .int .i64 fa, .int .i64 fi, .int .i64 ta, .int .i64 ti, .int .i64 nn, .int .i64 tok, .int .i64 ba, .int .i64 bi, .slice Am nm cm, .slice Af nf cf, .slice Ar nr cr, .slice Ac nc cc, .slice As ns cs] := by rw [← hW0]; exact Blk.new _ _ _
  have hk0 : Keep (fun _ => False) w W0 := by rw [← hW0]; exact (Keep.refl _ w).alloc _
  have x0 := hb.cell 0
  have x1 := hb.cell 1
  have x2 := hb.cell 2
  have x3 := hb.cell 3
  have x4 := hb.cell 4
  have x5 := hb.cell 5
  have x6 := hb.cell 6
  have x7 := hb.cell 7
  have x8 := hb.cell 8
  have x9 := hb.cell 9
  have x10 := hb.cell 10
  have x11 := hb.cell 11
  have x12 := hb.cell 12
  have x13 := hb.cell 13
  simp at x0 x1 x2 x3 x4 x5 x6 x7 x8 x9 x10 x11 x12 x13
  have BX := Lib.hid hb
  have KK := Lib.hid hk0
  clear hm hfl hr hc hs hst hb hk0 hf
  rcases Bool.eq_false_or_eq_true (mayF ⟨k, (fa, fi), (ta, ti), nn, tok, (ba, bi), ⟨mem, fl, rows, clk, seen⟩⟩) with hM | hM
  · have HM := Lib.hid hM
    rw [hM, if_pos rfl] at HO
    clear hM
    go_enter Tryz.func9, Tryz.ntmps9
    go_wp2_with fail
    refine (HMay.out _ KK.out).mono ?_
    rintro e W ⟨rfl, hk1⟩
    rw [HM.out]
    obtain ⟨W1, hW1⟩ : ∃ W1, W.alloc (.cells #[.string ⟨#[]⟩, .int .i64 0] 64) = W1 := ⟨_, rfl⟩
    have hbn : Blk W1 W.heap.size 64 #[.string ⟨#[]⟩, .int .i64 0] := by rw [← hW1]; exact Blk.new _ _ _
    have hk2 : Keep (fun _ => False) W W1 := by rw [← hW1]; exact (Keep.refl _ W).alloc _
    have BX := Lib.hid ((BX.out.keep hk1 (fun h => h)).keep hk2 (fun h => h))
    have KB := Lib.hid (show Keep (fun _ => False) w W1 ∧ True from ⟨keep0_trans _ _ _ (keep0_trans _ _ _ KK.out hk1) hk2, trivial⟩)
    have HNE := Lib.hid (show ¬ W.heap.size = w.heap.size by have h1 := hk1.size; have h2 : W0.heap.size = w.heap.size + 1 := (by rw [← hW0]; simp); omega)
    have HBB := Lib.hid (show w.heap.size ≤ W.heap.size by have h1 := hk1.size; have h2 : W0.heap.size = w.heap.size + 1 := (by rw [← hW0]; simp); omega)
    obtain ⟨B, hB⟩ : ∃ b, W.heap.size = b := ⟨_, rfl⟩
    rw [hB] at hbn HNE HBB
    have HW : Hid (Wr W1 B ([], 0)) := Lib.hid hbn
    clear hbn hk1 hk2 x0 x1 x2 x3 x4 x5 x6 x7 x8 x9 x10 x11 x12 x13
    have x0 := BX.out.cell 0
    simp at x0
    go_wp2_with fail
    refine (wnum1_any _ ([], 0) (k : Int) _ HW.out (by simp)).mono ?_
    rintro e W ⟨rfl, hw, hk⟩
    have HW := Lib.hid hw
    have BX := Lib.hid (BX.out.keep hk HNE.out)
    have KB := Lib.hid (keepB_next KB.out HBB.out hk)
    clear hw hk
    clear x0
    obtain ⟨s1, hs1⟩ : ∃ q, numsW ([], 0) [(k : Int)] = q := ⟨_, rfl⟩
    have Hs1 := Lib.hid (show s1.1.length ≤ 100 by rw [← hs1]; have h1 := numsW_len [(k : Int)] ([], 0); simp only [List.length_cons, List.length_nil] at h1; omega)
    rw [hs1] at HW
    have Es1 := Lib.hid hs1
    clear hs1
    have x1 := BX.out.cell 1
    have x2 := BX.out.cell 2
    simp at x1 x2
    go_wp2_with fail
    refine (wid_any _ s1 (fa, fi) _ HW.out (by have := Hs1.out; omega)).mono ?_
    rintro e W ⟨rfl, hw, hk⟩
    have HW := Lib.hid hw
    have BX := Lib.hid (BX.out.keep hk HNE.out)
    have KB := Lib.hid (keepB_next KB.out HBB.out hk)
    clear hw hk
    clear x1 x2
    obtain ⟨s2, hs2⟩ : ∃ q, idW s1 (fa, fi) = q := ⟨_, rfl⟩
    have Hs2 := Lib.hid (show s2.1.length ≤ 200 by rw [← hs2]; have h1 := idW_len s1 (fa, fi); have := Hs1.out; omega)
    rw [hs2] at HW
    have Es2 := Lib.hid hs2
    clear hs2
    have x3 := BX.out.cell 3
    have x4 := BX.out.cell 4
    simp at x3 x4
    go_wp2_with fail
    refine (wid_any _ s2 (ta, ti) _ HW.out (by have := Hs2.out; omega)).mono ?_
    rintro e W ⟨rfl, hw, hk⟩
    have HW := Lib.hid hw
    have BX := Lib.hid (BX.out.keep hk HNE.out)
    have KB := Lib.hid (keepB_next KB.out HBB.out hk)
    clear hw hk
    clear x3 x4
    obtain ⟨s3, hs3⟩ : ∃ q, idW s2 (ta, ti) = q := ⟨_, rfl⟩
    have Hs3 := Lib.hid (show s3.1.length ≤ 300 by rw [← hs3]; have h1 := idW_len s2 (ta, ti); have := Hs2.out; omega)
    rw [hs3] at HW
    have Es3 := Lib.hid hs3
    clear hs3
    have x5 := BX.out.cell 5
    have x6 := BX.out.cell 6
    simp at x5 x6
    go_wp2_with fail
    refine (wnum2_any _ s3 nn tok _ HW.out (by have := Hs3.out; omega)).mono ?_
    rintro e W ⟨rfl, hw, hk⟩
    have HW := Lib.hid hw
    have BX := Lib.hid (BX.out.keep hk HNE.out)
    have KB := Lib.hid (keepB_next KB.out HBB.out hk)
    clear hw hk
    clear x5 x6
    obtain ⟨s4, hs4⟩ : ∃ q, numsW s3 [nn, tok] = q := ⟨_, rfl⟩
    have Hs4 := Lib.hid (show s4.1.length ≤ 400 by rw [← hs4]; have h1 := numsW_len [nn, tok] s3; simp only [List.length_cons, List.length_nil] at h1; have := Hs3.out; omega)
    rw [hs4] at HW
    have Es4 := Lib.hid hs4
    clear hs4
    have x7 := BX.out.cell 7
    have x8 := BX.out.cell 8
    simp at x7 x8
    go_wp2_with fail
    refine (wid_any _ s4 (ba, bi) _ HW.out (by have := Hs4.out; omega)).mono ?_
    rintro e W ⟨rfl, hw, hk⟩
    have HW := Lib.hid hw
    have BX := Lib.hid (BX.out.keep hk HNE.out)
    have KB := Lib.hid (keepB_next KB.out HBB.out hk)
    clear hw hk
    clear x7 x8
    obtain ⟨s5, hs5⟩ : ∃ q, idW s4 (ba, bi) = q := ⟨_, rfl⟩
    have Hs5 := Lib.hid (show s5.1.length ≤ 500 by rw [← hs5]; have h1 := idW_len s4 (ba, bi); have := Hs4.out; omega)
    rw [hs5] at HW
    have Es5 := Lib.hid hs5
    clear hs5
    have x9 := BX.out.cell 9
    have x10 := BX.out.cell 10
    have x11 := BX.out.cell 11
    have x12 := BX.out.cell 12
    have x13 := BX.out.cell 13
    simp at x9 x10 x11 x12 x13
    go_wp2_with fail
    refine (wview_any _ s5 _ _ _ _ _ ⟨mem, fl, rows, clk, seen⟩ w _ HW.out HV.out KB.out.1 HBB.out HFew.out (by have := Hs5.out; omega)).mono ?_
    rintro e W ⟨rfl, hw, hk⟩
    have HW := Lib.hid hw
    have BX := Lib.hid (BX.out.keep hk HNE.out)
    have KB := Lib.hid (keepB_next KB.out HBB.out hk)
    clear hw hk
    clear x9 x10 x11 x12 x13
    have HL6 := Lib.hid (viewW_len s5 ⟨mem, fl, rows, clk, seen⟩ HFew.out)
    have H5 := Lib.hid Hs5.out
    obtain ⟨s6, hs6⟩ : ∃ q, viewW s5 ⟨mem, fl, rows, clk, seen⟩ = q := ⟨_, rfl⟩
    rw [hs6] at HW HL6
    have Es6 := Lib.hid hs6
    clear hs6
    have HBody := Lib.hid (show bodyM ⟨k, (fa, fi), (ta, ti), nn, tok, (ba, bi), ⟨mem, fl, rows, clk, seen⟩⟩ = s6 by
      unfold bodyM; simp only; rw [Es1.out, Es2.out, Es3.out, Es4.out, Es5.out, Es6.out])
    rw [HBody.out] at HO
    obtain ⟨bsx, ex⟩ := s6
    simp only at HO HL6
    have HLX := Lib.hid (show bsx.length ≤ 900000000 by have := HL6.out; have := H5.out; omega)
    go_wp2_with fail
    refine wp_region_krip (Keep (fun _ => False)) (Keep.refl _) keep0_trans 10 (by kernel_rfl) (by kernel_rfl) (Ts := [none, none, none, some (.inl (.string (bs bsx))), none, none, none, some (.inl (.string (bs bsx))), some (.inl (.string (bs (le4 (sumM bsx))))), some (.inl (.string (bs (bsx ++ le4 (sumM bsx)))))]) ?_
    simp only [List.take, List.drop]
    refine kAll_p (fun K hK => ?_)
    go_simp
    generalize hZ : (Act.mk _ _) = Z
    refine hK Z ?_
    subst hZ
    clear hK K
    refine kAll_p (fun K hK => ?_)
    go_simp
    generalize hZ : (Act.mk _ _) = Z
    refine hK Z ?_
    subst hZ
    clear hK K
    refine kAll_p (fun K hK => ?_)
    go_simp
    generalize hZ : (Act.mk _ _) = Z
    refine hK Z ?_
    subst hZ
    clear hK K
    refine kAll_dn _ (fun W hW hF => kStep_of fun K Q hK => ?_) (fun K hK => ?_)
    · have hw := Blk.keep (w := _) HW.out (keepD (Keep.refl _ _) hW) (fun h => h)
      have c0 := Blk.cell hw 0
      simp at c0
      go_simp
      exact hK _ _ (Keep.refl _ _) rfl
    go_simp
    generalize hZ : (Act.mk _ _) = Z
    refine hK Z ?_
    subst hZ
    clear hK K
    refine kAll_p (fun K hK => ?_)
    go_simp
    generalize hZ : (Act.mk _ _) = Z
    refine hK Z ?_
    subst hZ
    clear hK K
    refine kAll_p (fun K hK => ?_)
    go_simp
    generalize hZ : (Act.mk _ _) = Z
    refine hK Z ?_
    subst hZ
    clear hK K
    refine kAll_p (fun K hK => ?_)
    go_simp
    generalize hZ : (Act.mk _ _) = Z
    refine hK Z ?_
    subst hZ
    clear hK K
    refine kAll_dn _ (fun W hW hF => kStep_of fun K Q hK => ?_) (fun K hK => ?_)
    · have hw := Blk.keep (w := _) HW.out (keepD (Keep.refl _ _) hW) (fun h => h)
      have c0 := Blk.cell hw 0
      simp at c0
      go_simp
      exact hK _ _ (Keep.refl _ _) rfl
    go_simp
    generalize hZ : (Act.mk _ _) = Z
    refine hK Z ?_
    subst hZ
    clear hK K
    refine kAll_dn _ (fun W hW hF => kStep_of fun K Q hK => ?_) (fun K hK => ?_)
    · go_simp
      refine (fsum_any bsx (by have := HLX.out; omega) W).mono ?_
      rintro e w' ⟨rfl, hk⟩
      exact hK _ _ hk rfl
    go_simp
    generalize hZ : (Act.mk _ _) = Z
    refine hK Z ?_
    subst hZ
    clear hK K
    refine kAll_dn _ (fun W hW hF => kStep_of fun K Q hK => ?_) (fun K hK => ?_)
    · have hcat : ¬ 9223372036854775807 < bsx.length + (le4 (sumM bsx)).length := by have := HLX.out; simp [le4]; omega
      go_simp
      rw [bs_cat]
      exact hK _ _ (Keep.refl _ _) rfl
    go_simp
    generalize hZ : (Act.mk _ _) = Z
    refine hK Z ?_
    subst hZ
    clear hK K
    refine kAll_nil (fun W2 hW hF => ?_)
    clear hF
    have hw := Blk.keep HW.out (keepD (Keep.refl _ _) hW) (fun h => h)
    have KB := Lib.hid (keep0_trans _ _ _ KB.out.1 (keepD (Keep.refl _ _) hW))
    have HW2 := Lib.hid hw
    have c1 := Blk.cell hw 1
    have c0 := Blk.cell hw 0
    simp at c0 c1
    clear hW hw
    by_cases he : ex = 0
    · subst he
      rw [if_pos rfl] at HO
      by_cases hl : (bsx ++ le4 (sumM bsx)).length > 8192
      · rw [if_pos hl] at HO
        have hl2 : (8192 : Int) < ((bs (bsx ++ le4 (sumM bsx))).size : Int) := by rw [bs_size]; omega
        have hl3 : (8192 : Int) < ((bsx ++ le4 (sumM bsx)).length : Int) := by omega
        generalize bsx ++ le4 (sumM bsx) = out at *
        clear hl
        go_wp2
        go_ret2
        exact ⟨by rw [HO.out]; rfl, KB.out⟩
      · rw [if_neg hl] at HO
        have hl2 : ¬ (8192 : Int) < ((bs (bsx ++ le4 (sumM bsx))).size : Int) := by rw [bs_size]; omega
        have hl3 : ¬ (8192 : Int) < ((bsx ++ le4 (sumM bsx)).length : Int) := by omega
        generalize bsx ++ le4 (sumM bsx) = out at *
        clear hl
        go_wp2
        go_ret2
        exact ⟨by rw [HO.out]; rfl, KB.out⟩
    · rw [if_neg he] at HO
      have h2 : (ex != 0) = true := by simpa using he
      have h3 : (ex == 0) = false := by simpa using he
      generalize bsx ++ le4 (sumM bsx) = out at *
      go_wp2_with fail
      refine wp_region_krip (Keep (fun _ => False)) (Keep.refl _) keep0_trans 5 (by kernel_rfl) (by kernel_rfl) (Ts := [none, none, none, some (.inl (.int .i64 ex)), none]) ?_
      simp only [List.take, List.drop]
      refine kAll_p (fun K hK => ?_)
      go_simp
      generalize hZ : (Act.mk _ _) = Z
      refine hK Z ?_
      subst hZ
      clear hK K
      refine kAll_p (fun K hK => ?_)
      go_simp
      generalize hZ : (Act.mk _ _) = Z
      refine hK Z ?_
      subst hZ
      clear hK K
      refine kAll_p (fun K hK => ?_)
      go_simp
      generalize hZ : (Act.mk _ _) = Z
      refine hK Z ?_
      subst hZ
      clear hK K
      refine kAll_dn _ (fun W hW hF => kStep_of fun K Q hK => ?_) (fun K hK => ?_)
      · have hw := Blk.keep HW2.out (keepD (Keep.refl _ _) hW) (fun h => h)
        have d1 := Blk.cell hw 1
        simp at d1
        go_simp
        exact hK _ _ (Keep.refl _ _) rfl
      go_simp
      generalize hZ : (Act.mk _ _) = Z
      refine hK Z ?_
      subst hZ
      clear hK K
      refine kAll_p (fun K hK => ?_)
      go_simp
      generalize hZ : (Act.mk _ _) = Z
      refine hK Z ?_
      subst hZ
      clear hK K
      refine kAll_nil (fun W3 hW hF => ?_)
      clear hF
      have KB := Lib.hid (keep0_trans _ _ _ KB.out (keepD (Keep.refl _ _) hW))
      clear hW
      go_wp2
      go_ret2
      exact ⟨by rw [HO.out]; rfl, KB.out⟩
  · have HM := Lib.hid hM
    rw [hM, if_neg (by decide)] at HO
    clear hM
    go_enter Tryz.func9, Tryz.ntmps9
    go_wp2_with fail
    refine (HMay.out _ KK.out).mono ?_
    rintro e W ⟨rfl, hk1⟩
    rw [HM.out]
    have KK := Lib.hid (keep0_trans _ _ _ KK.out hk1)
    clear hk1
    go_wp2
    go_ret2
    exact ⟨by rw [HO.out]; rfl, KK.out⟩
end Go.Proofs.YtgoldgamjogadaaGreat

namespace Go.Proofs.YtgoldgamjogadaaGreat
open Go.RowKit Go
set_option maxRecDepth 100000
attribute [local go_sem] bs_toList bs_size bs_get
attribute [local irreducible] kAll
attribute [local go_sem] kQuiet kQuietUpon

theorem ofInt_i64 (a : Nat) (ha : a < 9223372036854775808) : (BitVec.ofInt 64 (a : Int)).toNat = a := by
  rw [BitVec.ofInt_natCast, BitVec.toNat_ofNat]; exact Nat.mod_eq_of_lt (by omega)
theorem i64_and_nat (a b : Nat) (ha : a < 9223372036854775808) (hb : b < 9223372036854775808) : bits .and .i64 (a : Int) (b : Int) = ((a &&& b : Nat) : Int) := by
  have hx : a &&& b < 2 ^ 63 := Nat.and_lt_two_pow _ (by omega)
  show IntKind.i64.wrap ((BitVec.ofInt 64 (a : Int) &&& BitVec.ofInt 64 (b : Int)).toNat : Int) = _
  rw [BitVec.toNat_and, ofInt_i64 a ha, ofInt_i64 b hb]
  exact IntWalk.i64_in _ (by omega)
theorem i64_or_nat (a b : Nat) (ha : a < 9223372036854775808) (hb : b < 9223372036854775808) : bits .or .i64 (a : Int) (b : Int) = ((a ||| b : Nat) : Int) := by
  have hx : a ||| b < 2 ^ 63 := Nat.or_lt_two_pow (by omega) (by omega)
  show IntKind.i64.wrap ((BitVec.ofInt 64 (a : Int) ||| BitVec.ofInt 64 (b : Int)).toNat : Int) = _
  rw [BitVec.toNat_or, ofInt_i64 a ha, ofInt_i64 b hb]
  exact IntWalk.i64_in _ (by omega)
theorem or_add (a d i : Nat) (h : a < 2 ^ i) : a ||| d * 2 ^ i = a + d * 2 ^ i := by
  rw [Nat.or_comm, ← Nat.shiftLeft_eq, ← Nat.shiftLeft_add_eq_or_of_lt h, Nat.add_comm]
theorem and127 (b : Nat) : b &&& 127 = b % 128 := Nat.and_two_pow_sub_one_eq_mod b 7
/-- a reader in memory -/
def Rdr (w : World) (B : Nat) (st : WS) : Prop := Blk w B 94 #[.string (bs st.1), .int .i64 st.2]
theorem numB_head {m : Nat} (hm : m ≤ 1099511627776) : ∃ c r, numB m = c :: r ∧ c.toNat = (if m < 128 then m else m % 128 + 128) ∧ (m < 128 → r = []) ∧ (128 ≤ m → r = numB (m / 128)) := by
  by_cases h : m < 128
  · refine ⟨UInt8.ofNat m, [], numB_lt h, ?_, fun _ => rfl, fun h2 => by omega⟩
    rw [if_pos h, UInt8.toNat_ofNat']; omega
  · refine ⟨UInt8.ofNat (m % 128 + 128), numB (m / 128), numB_ge (by omega) hm, ?_, fun h2 => by omega, fun _ => rfl⟩
    rw [if_neg h, UInt8.toNat_ofNat']; omega
set_option maxHeartbeats 8000000 in
/-- what is read where a number stands -/
theorem rnum1_any (Bp B : Nat) (k : Nat) (hk : k ≤ 1099511627776) (t : Bs) (ht : t.length ≤ 1000000) (w : World) (hp : w.cell? ⟨Bp, 0, none⟩ = some (.pointer (some ⟨B, 0, none⟩))) (h : Rdr w B (numB k ++ t, 0)) :
    Calls Tryz.prog 79 #[.pointer (some ⟨Bp, 0, none⟩)] w (fun e w' => e = .returned (.tuple #[.int .i64 (k : Int), .int .i64 0]) ∧ Rdr w' B (t, 0) ∧ Keep (fun q => B = q) w w') := by
  obtain ⟨S, hS⟩ : ∃ S, numB k ++ t = S := ⟨_, rfl⟩
  rw [hS] at h
  have HL := Lib.hid (show S.length ≤ 1000007 by rw [← hS, List.length_append]; have := numB_len k; omega)
  have HS := Lib.hid hS
  have HB := Lib.hid h
  have c0 := Blk.cell h 0
  have f0 := Blk.frozen h 0
  simp at c0
  clear h hS
  go_enter Tryz.func79, Tryz.ntmps79
  go_wp2
  go_loopw [3, 4] (fun nv iv wr => ∃ (i m acc : Nat) (pre : Bs), i ≤ 5 ∧ pre.length = i ∧ nv = .int .i64 (acc : Int) ∧ iv = .int .i64 (i : Int) ∧ acc < 2 ^ (7 * i) ∧ k = acc + m * 2 ^ (7 * i) ∧ (0 < i → 1 ≤ m) ∧ Hid (pre ++ numB m ++ t = S) ∧ wr = w) (fun _ iv _ => 6 - (intOf iv).toNat)
  case atStart => exact ⟨0, k, 0, [], by omega, rfl, rfl, rfl, by decide, by simp, fun h => by omega, Lib.hid HS.out, rfl⟩
  case round =>
    obtain ⟨i, m, acc, pre, hi, hpl, rfl, rfl, hacc, hkm, hm1, HP, rfl⟩ := hrel
    obtain ⟨c, r, hcr, hcv, hr1, hr2⟩ := numB_head (m := m) (by have hp2 : 1 ≤ 2 ^ (7 * i) := Nat.one_le_two_pow; have := Nat.le_mul_of_pos_right m hp2; omega)
    have hlt : i < S.length := by rw [← HP.out, hcr]; simp; omega
    have hSi : S[i] = c := by
      have e : S = pre ++ (c :: (r ++ t)) := by rw [← HP.out, hcr]; simp
      subst e; simp [← hpl]
    have hcc : (S[i]).toNat = (if m < 128 then m else m % 128 + 128) := by rw [hSi]; exact hcv
    have HR1 := Lib.hid (show m < 128 → S.drop (i + 1) = t from fun h => by
      have e : S = pre ++ (c :: (r ++ t)) := by rw [← HP.out, hcr]; simp
      rw [e, hr1 h, List.nil_append, ← hpl, List.drop_append]; simp)
    have HR2 := Lib.hid (show 128 ≤ m → (pre ++ [c]) ++ numB (m / 128) ++ t = S from fun h => by rw [← HP.out, hcr, hr2 h]; simp)
    have HPL := Lib.hid (show (pre ++ [c]).length = i + 1 by simp [hpl])
    have HKM := Lib.hid hkm
    clear hcr hcv hr1 hr2 hSi hpl HP hkm
    rcases (by omega : i = 0 ∨ i = 1 ∨ i = 2 ∨ i = 3 ∨ i = 4 ∨ i = 5) with rfl | rfl | rfl | rfl | rfl | rfl
    · have hP : (2 : Nat) ^ (7 * 0) = 1 := by decide
      rw [hP] at hacc HKM
      obtain rfl : acc = 0 := by omega
      by_cases h128 : m < 128
      · rw [if_pos h128] at hcc
        have a0 : (m : Int) % 128 = (m : Int) := by omega
        have a1 : IntKind.i64.wrap (m : Int) = (m : Int) := IntWalk.i64_in _ (by omega)
        have a2 : bits .and .i64 (m : Int) 127 = (m : Int) := by have := i64_and_nat m 127 (by omega) (by decide); rw [and127, Nat.mod_eq_of_lt h128] at this; exact this
        have hk1 := HKM.out
        have a3 : IntKind.i64.wrap ((m : Int) * 1) = (m : Int) * 1 := IntWalk.i64_in _ (by omega)
        have a4 : bits .or .i64 ((0 : Nat) : Int) ((m : Int) * 1) = (k : Int) := by
          have h := i64_or_nat 0 (m * 1) (by omega) (by omega)
          have h2 := or_add 0 m 0 (by omega)
          rw [show (2 : Nat) ^ 0 = 1 by decide] at h2
          rw [h2, show 0 + m * 1 = k by omega] at h
          rw [← h]; congr 1
        have a4z : bits .or .i64 0 (m : Int) = (k : Int) := by simpa using a4
        clear a4
        have a5 : ¬ (1099511627776 : Int) < (k : Int) := by omega
        have a6 : ¬ (128 : Int) ≤ (m : Int) := by omega
        have HEQ : Hid (True) := Lib.hid trivial
        clear hk1
        by_cases hz : m = 0
        · subst hz
          have b1 : bits .and .i64 0 127 = 0 := by decide
          have b2 : bits .or .i64 0 0 = 0 := by decide
          have HK0 := Lib.hid (show k = 0 by have := HKM.out; omega)
          clear a0 a1 a2 a3 a4z a6
          have hdr : (S.drop 1).take (S.length - 1) = t := by
            rw [HR1.out h128]; exact List.take_of_length_le (by rw [← HS.out, List.length_append]; have h1 := HR1.out h128; have h2 := congrArg List.length h1; rw [List.length_drop, ← HS.out, List.length_append] at h2; omega)
          have hl1 : (1 : Int) ≤ (S.length : Int) := by omega
          go_wp2_with fail
          refine wp_region_krip (Keep (fun _ => False)) (Keep.refl _) keep0_trans 8 (by kernel_rfl) (by kernel_rfl) (Ts := [some (.inl (.pointer (some ⟨B, 0, none⟩))), some (.inl (.pointer (some ⟨B, 0, none⟩))), none, none, some (.inl (.string (bs S))), none, none, some (.inl (.string (bs t)))]) ?_
          simp only [List.take, List.drop]
          refine kAll_dn _ (fun W hW hF => kStep_of fun K Q hK => ?_) (fun K hK => ?_)
          · have hq := (keepD (Keep.refl _ _) hW).cell hp (fun h => h)
            go_simp
            exact hK _ _ (Keep.refl _ _) rfl
          go_simp
          generalize hZ : (Act.mk _ _) = Z
          refine hK Z ?_
          subst hZ
          clear hK K
          refine kAll_dn _ (fun W hW hF => kStep_of fun K Q hK => ?_) (fun K hK => ?_)
          · have hq := (keepD (Keep.refl _ _) hW).cell hp (fun h => h)
            go_simp
            exact hK _ _ (Keep.refl _ _) rfl
          go_simp
          generalize hZ : (Act.mk _ _) = Z
          refine hK Z ?_
          subst hZ
          clear hK K
          refine kAll_p (fun K hK => ?_)
          go_simp
          generalize hZ : (Act.mk _ _) = Z
          refine hK Z ?_
          subst hZ
          clear hK K
          refine kAll_p (fun K hK => ?_)
          go_simp
          generalize hZ : (Act.mk _ _) = Z
          refine hK Z ?_
          subst hZ
          clear hK K
          refine kAll_dn _ (fun W hW hF => kStep_of fun K Q hK => ?_) (fun K hK => ?_)
          · have hq := (keepD (Keep.refl _ _) hW).cell c0 (fun h => h)
            go_simp
            exact hK _ _ (Keep.refl _ _) rfl
          go_simp
          generalize hZ : (Act.mk _ _) = Z
          refine hK Z ?_
          subst hZ
          clear hK K
          refine kAll_p (fun K hK => ?_)
          go_simp
          generalize hZ : (Act.mk _ _) = Z
          refine hK Z ?_
          subst hZ
          clear hK K
          refine kAll_p (fun K hK => ?_)
          go_simp
          generalize hZ : (Act.mk _ _) = Z
          refine hK Z ?_
          subst hZ
          clear hK K
          refine kAll_dn _ (fun W hW hF => kStep_of fun K Q hK => ?_) (fun K hK => ?_)
          · have hww : IntKind.i64.wrap 1 = 1 := by decide
            go_simp
            first | exact hK _ _ (Keep.refl _ _) rfl | (rw [bs_extract, hdr]; exact hK _ _ (Keep.refl _ _) rfl)
          go_simp
          generalize hZ : (Act.mk _ _) = Z
          refine hK Z ?_
          subst hZ
          clear hK K
          refine kAll_nil (fun W hW hF => ?_)
          clear hF
          have hw := Blk.keep HB.out (keepD (Keep.refl _ _) hW) (fun h => h)
          have HW := Lib.hid hw
          have HK1 := Lib.hid (keepD (Keep.refl (fun _ => False) _) hW)
          have d0 := Blk.cell hw 0
          have g0 := Blk.frozen hw 0
          simp at d0
          clear hW hw
          go_wp2
          go_ret2
          refine ⟨by first | rfl | (rw [HK0.out]; rfl), ?_, (HK1.out.one (B := B)).setCell (fun _ => rfl) _⟩
          have h2 := HW.out.set_ 0 (.string (bs t))
          unfold Rdr
          simpa using h2
        · have a7 : ((m : Int) == 0) = false := by simp; omega
          have hdr : (S.drop 1).take (S.length - 1) = t := by
            rw [HR1.out h128]; exact List.take_of_length_le (by rw [← HS.out, List.length_append]; have h1 := HR1.out h128; have h2 := congrArg List.length h1; rw [List.length_drop, ← HS.out, List.length_append] at h2; omega)
          have hl1 : (1 : Int) ≤ (S.length : Int) := by omega
          go_wp2_with fail
          refine wp_region_krip (Keep (fun _ => False)) (Keep.refl _) keep0_trans 8 (by kernel_rfl) (by kernel_rfl) (Ts := [some (.inl (.pointer (some ⟨B, 0, none⟩))), some (.inl (.pointer (some ⟨B, 0, none⟩))), none, none, some (.inl (.string (bs S))), none, none, some (.inl (.string (bs t)))]) ?_
          simp only [List.take, List.drop]
          refine kAll_dn _ (fun W hW hF => kStep_of fun K Q hK => ?_) (fun K hK => ?_)
          · have hq := (keepD (Keep.refl _ _) hW).cell hp (fun h => h)
            go_simp
            exact hK _ _ (Keep.refl _ _) rfl
          go_simp
          generalize hZ : (Act.mk _ _) = Z
          refine hK Z ?_
          subst hZ
          clear hK K
          refine kAll_dn _ (fun W hW hF => kStep_of fun K Q hK => ?_) (fun K hK => ?_)
          · have hq := (keepD (Keep.refl _ _) hW).cell hp (fun h => h)
            go_simp
            exact hK _ _ (Keep.refl _ _) rfl
          go_simp
          generalize hZ : (Act.mk _ _) = Z
          refine hK Z ?_
          subst hZ
          clear hK K
          refine kAll_p (fun K hK => ?_)
          go_simp
          generalize hZ : (Act.mk _ _) = Z
          refine hK Z ?_
          subst hZ
          clear hK K
          refine kAll_p (fun K hK => ?_)
          go_simp
          generalize hZ : (Act.mk _ _) = Z
          refine hK Z ?_
          subst hZ
          clear hK K
          refine kAll_dn _ (fun W hW hF => kStep_of fun K Q hK => ?_) (fun K hK => ?_)
          · have hq := (keepD (Keep.refl _ _) hW).cell c0 (fun h => h)
            go_simp
            exact hK _ _ (Keep.refl _ _) rfl
          go_simp
          generalize hZ : (Act.mk _ _) = Z
          refine hK Z ?_
          subst hZ
          clear hK K
          refine kAll_p (fun K hK => ?_)
          go_simp
          generalize hZ : (Act.mk _ _) = Z
          refine hK Z ?_
          subst hZ
          clear hK K
          refine kAll_p (fun K hK => ?_)
          go_simp
          generalize hZ : (Act.mk _ _) = Z
          refine hK Z ?_
          subst hZ
          clear hK K
          refine kAll_dn _ (fun W hW hF => kStep_of fun K Q hK => ?_) (fun K hK => ?_)
          · have hww : IntKind.i64.wrap 1 = 1 := by decide
            go_simp
            first | exact hK _ _ (Keep.refl _ _) rfl | (rw [bs_extract, hdr]; exact hK _ _ (Keep.refl _ _) rfl)
          go_simp
          generalize hZ : (Act.mk _ _) = Z
          refine hK Z ?_
          subst hZ
          clear hK K
          refine kAll_nil (fun W hW hF => ?_)
          clear hF
          have hw := Blk.keep HB.out (keepD (Keep.refl _ _) hW) (fun h => h)
          have HW := Lib.hid hw
          have HK1 := Lib.hid (keepD (Keep.refl (fun _ => False) _) hW)
          have d0 := Blk.cell hw 0
          have g0 := Blk.frozen hw 0
          simp at d0
          clear hW hw
          go_wp2
          go_ret2
          refine ⟨by first | rfl | (rw [HEQ.out]; rfl), ?_, (HK1.out.one (B := B)).setCell (fun _ => rfl) _⟩
          have h2 := HW.out.set_ 0 (.string (bs t))
          unfold Rdr
          simpa using h2
      · rw [if_neg h128] at hcc
        obtain ⟨d, hd⟩ : ∃ d, m % 128 = d := ⟨_, rfl⟩
        have hdl : d < 128 := by omega
        rw [hd] at hcc
        have a1 : IntKind.i64.wrap ((d : Int) + 128) = (d : Int) + 128 := IntWalk.i64_in _ (by omega)
        have a2 : bits .and .i64 ((d : Int) + 128) 127 = (d : Int) := by have := i64_and_nat (d + 128) 127 (by omega) (by decide); rw [and127, show (d + 128) % 128 = d by omega] at this; exact this
        have hk1 := HKM.out
        have a3 : IntKind.i64.wrap ((d : Int) * 1) = (d : Int) * 1 := IntWalk.i64_in _ (by omega)
        obtain ⟨acc2, hacc2⟩ : ∃ a, 0 + d * 1 = a := ⟨_, rfl⟩
        have a4 : bits .or .i64 ((0 : Nat) : Int) ((d : Int) * 1) = (acc2 : Int) := by
          have h := i64_or_nat 0 (d * 1) (by omega) (by omega)
          have h2 := or_add 0 d 0 (by omega)
          rw [show (2 : Nat) ^ 0 = 1 by decide] at h2
          rw [h2, hacc2] at h
          rw [← h]; congr 1
        have a4z : bits .or .i64 0 (d : Int) = (acc2 : Int) := by simpa using a4
        clear a4
        have a5 : ¬ (1099511627776 : Int) < (acc2 : Int) := by omega
        have a6 : (128 : Int) ≤ (d : Int) + 128 := by omega
        have HN := Lib.hid (show acc2 < 2 ^ (7 * (0 + 1)) ∧ k = acc2 + (m / 128) * 2 ^ (7 * (0 + 1)) ∧ (0 < 0 + 1 → 1 ≤ m / 128) by
          rw [show (2 : Nat) ^ (7 * (0 + 1)) = 128 by decide]
          refine ⟨by omega, by omega, fun _ => by omega⟩)
        have HR := Lib.hid (HR2.out (by omega))
        clear hk1 hd hacc2
        go_wp2
        go_roundw
        case rel => exact ⟨0 + 1, m / 128, acc2, pre ++ [c], by omega, HPL.out, rfl, by go_num, HN.out.1, HN.out.2.1, HN.out.2.2, HR, by trivial⟩
        case measure => simp [intOf]
    · have hP : (2 : Nat) ^ (7 * 1) = 128 := by decide
      rw [hP] at hacc HKM
      by_cases h128 : m < 128
      · rw [if_pos h128] at hcc
        have a0 : (m : Int) % 128 = (m : Int) := by omega
        have a1 : IntKind.i64.wrap (m : Int) = (m : Int) := IntWalk.i64_in _ (by omega)
        have a2 : bits .and .i64 (m : Int) 127 = (m : Int) := by have := i64_and_nat m 127 (by omega) (by decide); rw [and127, Nat.mod_eq_of_lt h128] at this; exact this
        have hk1 := HKM.out
        have a3 : IntKind.i64.wrap ((m : Int) * 128) = (m : Int) * 128 := IntWalk.i64_in _ (by omega)
        have a4 : bits .or .i64 (acc : Int) ((m : Int) * 128) = (k : Int) := by
          have h := i64_or_nat acc (m * 128) (by omega) (by omega)
          have h2 := or_add acc m 7 (by omega)
          rw [show (2 : Nat) ^ 7 = 128 by decide] at h2
          rw [h2, show acc + m * 128 = k by omega] at h
          rw [← h]; congr 1
        have a5 : ¬ (1099511627776 : Int) < (k : Int) := by omega
        have a6 : ¬ (128 : Int) ≤ (m : Int) := by omega
        have HEQ : Hid (True) := Lib.hid trivial
        clear hk1
        have a7 : ((m : Int) == 0) = false := by have := hm1 (by decide); simp; omega
        have hdr : (S.drop 2).take (S.length - 2) = t := by
          rw [HR1.out h128]; exact List.take_of_length_le (by rw [← HS.out, List.length_append]; have h1 := HR1.out h128; have h2 := congrArg List.length h1; rw [List.length_drop, ← HS.out, List.length_append] at h2; omega)
        have hl1 : (2 : Int) ≤ (S.length : Int) := by omega
        go_wp2_with fail
        refine wp_region_krip (Keep (fun _ => False)) (Keep.refl _) keep0_trans 8 (by kernel_rfl) (by kernel_rfl) (Ts := [some (.inl (.pointer (some ⟨B, 0, none⟩))), some (.inl (.pointer (some ⟨B, 0, none⟩))), none, none, some (.inl (.string (bs S))), none, none, some (.inl (.string (bs t)))]) ?_
        simp only [List.take, List.drop]
        refine kAll_dn _ (fun W hW hF => kStep_of fun K Q hK => ?_) (fun K hK => ?_)
        · have hq := (keepD (Keep.refl _ _) hW).cell hp (fun h => h)
          go_simp
          exact hK _ _ (Keep.refl _ _) rfl
        go_simp
        generalize hZ : (Act.mk _ _) = Z
        refine hK Z ?_
        subst hZ
        clear hK K
        refine kAll_dn _ (fun W hW hF => kStep_of fun K Q hK => ?_) (fun K hK => ?_)
        · have hq := (keepD (Keep.refl _ _) hW).cell hp (fun h => h)
          go_simp
          exact hK _ _ (Keep.refl _ _) rfl
        go_simp
        generalize hZ : (Act.mk _ _) = Z
        refine hK Z ?_
        subst hZ
        clear hK K
        refine kAll_p (fun K hK => ?_)
        go_simp
        generalize hZ : (Act.mk _ _) = Z
        refine hK Z ?_
        subst hZ
        clear hK K
        refine kAll_p (fun K hK => ?_)
        go_simp
        generalize hZ : (Act.mk _ _) = Z
        refine hK Z ?_
        subst hZ
        clear hK K
        refine kAll_dn _ (fun W hW hF => kStep_of fun K Q hK => ?_) (fun K hK => ?_)
        · have hq := (keepD (Keep.refl _ _) hW).cell c0 (fun h => h)
          go_simp
          exact hK _ _ (Keep.refl _ _) rfl
        go_simp
        generalize hZ : (Act.mk _ _) = Z
        refine hK Z ?_
        subst hZ
        clear hK K
        refine kAll_p (fun K hK => ?_)
        go_simp
        generalize hZ : (Act.mk _ _) = Z
        refine hK Z ?_
        subst hZ
        clear hK K
        refine kAll_p (fun K hK => ?_)
        go_simp
        generalize hZ : (Act.mk _ _) = Z
        refine hK Z ?_
        subst hZ
        clear hK K
        refine kAll_dn _ (fun W hW hF => kStep_of fun K Q hK => ?_) (fun K hK => ?_)
        · have hww : IntKind.i64.wrap 2 = 2 := by decide
          go_simp
          first | exact hK _ _ (Keep.refl _ _) rfl | (rw [bs_extract, hdr]; exact hK _ _ (Keep.refl _ _) rfl)
        go_simp
        generalize hZ : (Act.mk _ _) = Z
        refine hK Z ?_
        subst hZ
        clear hK K
        refine kAll_nil (fun W hW hF => ?_)
        clear hF
        have hw := Blk.keep HB.out (keepD (Keep.refl _ _) hW) (fun h => h)
        have HW := Lib.hid hw
        have HK1 := Lib.hid (keepD (Keep.refl (fun _ => False) _) hW)
        have d0 := Blk.cell hw 0
        have g0 := Blk.frozen hw 0
        simp at d0
        clear hW hw
        go_wp2
        go_ret2
        refine ⟨by first | rfl | (rw [HEQ.out]; rfl), ?_, (HK1.out.one (B := B)).setCell (fun _ => rfl) _⟩
        have h2 := HW.out.set_ 0 (.string (bs t))
        unfold Rdr
        simpa using h2
      · rw [if_neg h128] at hcc
        obtain ⟨d, hd⟩ : ∃ d, m % 128 = d := ⟨_, rfl⟩
        have hdl : d < 128 := by omega
        rw [hd] at hcc
        have a1 : IntKind.i64.wrap ((d : Int) + 128) = (d : Int) + 128 := IntWalk.i64_in _ (by omega)
        have a2 : bits .and .i64 ((d : Int) + 128) 127 = (d : Int) := by have := i64_and_nat (d + 128) 127 (by omega) (by decide); rw [and127, show (d + 128) % 128 = d by omega] at this; exact this
        have hk1 := HKM.out
        have a3 : IntKind.i64.wrap ((d : Int) * 128) = (d : Int) * 128 := IntWalk.i64_in _ (by omega)
        obtain ⟨acc2, hacc2⟩ : ∃ a, acc + d * 128 = a := ⟨_, rfl⟩
        have a4 : bits .or .i64 (acc : Int) ((d : Int) * 128) = (acc2 : Int) := by
          have h := i64_or_nat acc (d * 128) (by omega) (by omega)
          have h2 := or_add acc d 7 (by omega)
          rw [show (2 : Nat) ^ 7 = 128 by decide] at h2
          rw [h2, hacc2] at h
          rw [← h]; congr 1
        have a5 : ¬ (1099511627776 : Int) < (acc2 : Int) := by omega
        have a6 : (128 : Int) ≤ (d : Int) + 128 := by omega
        have HN := Lib.hid (show acc2 < 2 ^ (7 * (1 + 1)) ∧ k = acc2 + (m / 128) * 2 ^ (7 * (1 + 1)) ∧ (0 < 1 + 1 → 1 ≤ m / 128) by
          rw [show (2 : Nat) ^ (7 * (1 + 1)) = 16384 by decide]
          refine ⟨by omega, by omega, fun _ => by omega⟩)
        have HR := Lib.hid (HR2.out (by omega))
        clear hk1 hd hacc2
        go_wp2
        go_roundw
        case rel => exact ⟨1 + 1, m / 128, acc2, pre ++ [c], by omega, HPL.out, rfl, by go_num, HN.out.1, HN.out.2.1, HN.out.2.2, HR, by trivial⟩
        case measure => simp [intOf]
    · have hP : (2 : Nat) ^ (7 * 2) = 16384 := by decide
      rw [hP] at hacc HKM
      by_cases h128 : m < 128
      · rw [if_pos h128] at hcc
        have a0 : (m : Int) % 128 = (m : Int) := by omega
        have a1 : IntKind.i64.wrap (m : Int) = (m : Int) := IntWalk.i64_in _ (by omega)
        have a2 : bits .and .i64 (m : Int) 127 = (m : Int) := by have := i64_and_nat m 127 (by omega) (by decide); rw [and127, Nat.mod_eq_of_lt h128] at this; exact this
        have hk1 := HKM.out
        have a3 : IntKind.i64.wrap ((m : Int) * 16384) = (m : Int) * 16384 := IntWalk.i64_in _ (by omega)
        have a4 : bits .or .i64 (acc : Int) ((m : Int) * 16384) = (k : Int) := by
          have h := i64_or_nat acc (m * 16384) (by omega) (by omega)
          have h2 := or_add acc m 14 (by omega)
          rw [show (2 : Nat) ^ 14 = 16384 by decide] at h2
          rw [h2, show acc + m * 16384 = k by omega] at h
          rw [← h]; congr 1
        have a5 : ¬ (1099511627776 : Int) < (k : Int) := by omega
        have a6 : ¬ (128 : Int) ≤ (m : Int) := by omega
        have HEQ : Hid (True) := Lib.hid trivial
        clear hk1
        have a7 : ((m : Int) == 0) = false := by have := hm1 (by decide); simp; omega
        have hdr : (S.drop 3).take (S.length - 3) = t := by
          rw [HR1.out h128]; exact List.take_of_length_le (by rw [← HS.out, List.length_append]; have h1 := HR1.out h128; have h2 := congrArg List.length h1; rw [List.length_drop, ← HS.out, List.length_append] at h2; omega)
        have hl1 : (3 : Int) ≤ (S.length : Int) := by omega
        go_wp2_with fail
        refine wp_region_krip (Keep (fun _ => False)) (Keep.refl _) keep0_trans 8 (by kernel_rfl) (by kernel_rfl) (Ts := [some (.inl (.pointer (some ⟨B, 0, none⟩))), some (.inl (.pointer (some ⟨B, 0, none⟩))), none, none, some (.inl (.string (bs S))), none, none, some (.inl (.string (bs t)))]) ?_
        simp only [List.take, List.drop]
        refine kAll_dn _ (fun W hW hF => kStep_of fun K Q hK => ?_) (fun K hK => ?_)
        · have hq := (keepD (Keep.refl _ _) hW).cell hp (fun h => h)
          go_simp
          exact hK _ _ (Keep.refl _ _) rfl
        go_simp
        generalize hZ : (Act.mk _ _) = Z
        refine hK Z ?_
        subst hZ
        clear hK K
        refine kAll_dn _ (fun W hW hF => kStep_of fun K Q hK => ?_) (fun K hK => ?_)
        · have hq := (keepD (Keep.refl _ _) hW).cell hp (fun h => h)
          go_simp
          exact hK _ _ (Keep.refl _ _) rfl
        go_simp
        generalize hZ : (Act.mk _ _) = Z
        refine hK Z ?_
        subst hZ
        clear hK K
        refine kAll_p (fun K hK => ?_)
        go_simp
        generalize hZ : (Act.mk _ _) = Z
        refine hK Z ?_
        subst hZ
        clear hK K
        refine kAll_p (fun K hK => ?_)
        go_simp
        generalize hZ : (Act.mk _ _) = Z
        refine hK Z ?_
        subst hZ
        clear hK K
        refine kAll_dn _ (fun W hW hF => kStep_of fun K Q hK => ?_) (fun K hK => ?_)
        · have hq := (keepD (Keep.refl _ _) hW).cell c0 (fun h => h)
          go_simp
          exact hK _ _ (Keep.refl _ _) rfl
        go_simp
        generalize hZ : (Act.mk _ _) = Z
        refine hK Z ?_
        subst hZ
        clear hK K
        refine kAll_p (fun K hK => ?_)
        go_simp
        generalize hZ : (Act.mk _ _) = Z
        refine hK Z ?_
        subst hZ
        clear hK K
        refine kAll_p (fun K hK => ?_)
        go_simp
        generalize hZ : (Act.mk _ _) = Z
        refine hK Z ?_
        subst hZ
        clear hK K
        refine kAll_dn _ (fun W hW hF => kStep_of fun K Q hK => ?_) (fun K hK => ?_)
        · have hww : IntKind.i64.wrap 3 = 3 := by decide
          go_simp
          first | exact hK _ _ (Keep.refl _ _) rfl | (rw [bs_extract, hdr]; exact hK _ _ (Keep.refl _ _) rfl)
        go_simp
        generalize hZ : (Act.mk _ _) = Z
        refine hK Z ?_
        subst hZ
        clear hK K
        refine kAll_nil (fun W hW hF => ?_)
        clear hF
        have hw := Blk.keep HB.out (keepD (Keep.refl _ _) hW) (fun h => h)
        have HW := Lib.hid hw
        have HK1 := Lib.hid (keepD (Keep.refl (fun _ => False) _) hW)
        have d0 := Blk.cell hw 0
        have g0 := Blk.frozen hw 0
        simp at d0
        clear hW hw
        go_wp2
        go_ret2
        refine ⟨by first | rfl | (rw [HEQ.out]; rfl), ?_, (HK1.out.one (B := B)).setCell (fun _ => rfl) _⟩
        have h2 := HW.out.set_ 0 (.string (bs t))
        unfold Rdr
        simpa using h2
      · rw [if_neg h128] at hcc
        obtain ⟨d, hd⟩ : ∃ d, m % 128 = d := ⟨_, rfl⟩
        have hdl : d < 128 := by omega
        rw [hd] at hcc
        have a1 : IntKind.i64.wrap ((d : Int) + 128) = (d : Int) + 128 := IntWalk.i64_in _ (by omega)
        have a2 : bits .and .i64 ((d : Int) + 128) 127 = (d : Int) := by have := i64_and_nat (d + 128) 127 (by omega) (by decide); rw [and127, show (d + 128) % 128 = d by omega] at this; exact this
        have hk1 := HKM.out
        have a3 : IntKind.i64.wrap ((d : Int) * 16384) = (d : Int) * 16384 := IntWalk.i64_in _ (by omega)
        obtain ⟨acc2, hacc2⟩ : ∃ a, acc + d * 16384 = a := ⟨_, rfl⟩
        have a4 : bits .or .i64 (acc : Int) ((d : Int) * 16384) = (acc2 : Int) := by
          have h := i64_or_nat acc (d * 16384) (by omega) (by omega)
          have h2 := or_add acc d 14 (by omega)
          rw [show (2 : Nat) ^ 14 = 16384 by decide] at h2
          rw [h2, hacc2] at h
          rw [← h]; congr 1
        have a5 : ¬ (1099511627776 : Int) < (acc2 : Int) := by omega
        have a6 : (128 : Int) ≤ (d : Int) + 128 := by omega
        have HN := Lib.hid (show acc2 < 2 ^ (7 * (2 + 1)) ∧ k = acc2 + (m / 128) * 2 ^ (7 * (2 + 1)) ∧ (0 < 2 + 1 → 1 ≤ m / 128) by
          rw [show (2 : Nat) ^ (7 * (2 + 1)) = 2097152 by decide]
          refine ⟨by omega, by omega, fun _ => by omega⟩)
        have HR := Lib.hid (HR2.out (by omega))
        clear hk1 hd hacc2
        go_wp2
        go_roundw
        case rel => exact ⟨2 + 1, m / 128, acc2, pre ++ [c], by omega, HPL.out, rfl, by go_num, HN.out.1, HN.out.2.1, HN.out.2.2, HR, by trivial⟩
        case measure => simp [intOf]
    · have hP : (2 : Nat) ^ (7 * 3) = 2097152 := by decide
      rw [hP] at hacc HKM
      by_cases h128 : m < 128
      · rw [if_pos h128] at hcc
        have a0 : (m : Int) % 128 = (m : Int) := by omega
        have a1 : IntKind.i64.wrap (m : Int) = (m : Int) := IntWalk.i64_in _ (by omega)
        have a2 : bits .and .i64 (m : Int) 127 = (m : Int) := by have := i64_and_nat m 127 (by omega) (by decide); rw [and127, Nat.mod_eq_of_lt h128] at this; exact this
        have hk1 := HKM.out
        have a3 : IntKind.i64.wrap ((m : Int) * 2097152) = (m : Int) * 2097152 := IntWalk.i64_in _ (by omega)
        have a4 : bits .or .i64 (acc : Int) ((m : Int) * 2097152) = (k : Int) := by
          have h := i64_or_nat acc (m * 2097152) (by omega) (by omega)
          have h2 := or_add acc m 21 (by omega)
          rw [show (2 : Nat) ^ 21 = 2097152 by decide] at h2
          rw [h2, show acc + m * 2097152 = k by omega] at h
          rw [← h]; congr 1
        have a5 : ¬ (1099511627776 : Int) < (k : Int) := by omega
        have a6 : ¬ (128 : Int) ≤ (m : Int) := by omega
        have HEQ : Hid (True) := Lib.hid trivial
        clear hk1
        have a7 : ((m : Int) == 0) = false := by have := hm1 (by decide); simp; omega
        have hdr : (S.drop 4).take (S.length - 4) = t := by
          rw [HR1.out h128]; exact List.take_of_length_le (by rw [← HS.out, List.length_append]; have h1 := HR1.out h128; have h2 := congrArg List.length h1; rw [List.length_drop, ← HS.out, List.length_append] at h2; omega)
        have hl1 : (4 : Int) ≤ (S.length : Int) := by omega
        go_wp2_with fail
        refine wp_region_krip (Keep (fun _ => False)) (Keep.refl _) keep0_trans 8 (by kernel_rfl) (by kernel_rfl) (Ts := [some (.inl (.pointer (some ⟨B, 0, none⟩))), some (.inl (.pointer (some ⟨B, 0, none⟩))), none, none, some (.inl (.string (bs S))), none, none, some (.inl (.string (bs t)))]) ?_
        simp only [List.take, List.drop]
        refine kAll_dn _ (fun W hW hF => kStep_of fun K Q hK => ?_) (fun K hK => ?_)
        · have hq := (keepD (Keep.refl _ _) hW).cell hp (fun h => h)
          go_simp
          exact hK _ _ (Keep.refl _ _) rfl
        go_simp
        generalize hZ : (Act.mk _ _) = Z
        refine hK Z ?_
        subst hZ
        clear hK K
        refine kAll_dn _ (fun W hW hF => kStep_of fun K Q hK => ?_) (fun K hK => ?_)
        · have hq := (keepD (Keep.refl _ _) hW).cell hp (fun h => h)
          go_simp
          exact hK _ _ (Keep.refl _ _) rfl
        go_simp
        generalize hZ : (Act.mk _ _) = Z
        refine hK Z ?_
        subst hZ
        clear hK K
        refine kAll_p (fun K hK => ?_)
        go_simp
        generalize hZ : (Act.mk _ _) = Z
        refine hK Z ?_
        subst hZ
        clear hK K
        refine kAll_p (fun K hK => ?_)
        go_simp
        generalize hZ : (Act.mk _ _) = Z
        refine hK Z ?_
        subst hZ
        clear hK K
        refine kAll_dn _ (fun W hW hF => kStep_of fun K Q hK => ?_) (fun K hK => ?_)
        · have hq := (keepD (Keep.refl _ _) hW).cell c0 (fun h => h)
          go_simp
          exact hK _ _ (Keep.refl _ _) rfl
        go_simp
        generalize hZ : (Act.mk _ _) = Z
        refine hK Z ?_
        subst hZ
        clear hK K
        refine kAll_p (fun K hK => ?_)
        go_simp
        generalize hZ : (Act.mk _ _) = Z
        refine hK Z ?_
        subst hZ
        clear hK K
        refine kAll_p (fun K hK => ?_)
        go_simp
        generalize hZ : (Act.mk _ _) = Z
        refine hK Z ?_
        subst hZ
        clear hK K
        refine kAll_dn _ (fun W hW hF => kStep_of fun K Q hK => ?_) (fun K hK => ?_)
        · have hww : IntKind.i64.wrap 4 = 4 := by decide
          go_simp
          first | exact hK _ _ (Keep.refl _ _) rfl | (rw [bs_extract, hdr]; exact hK _ _ (Keep.refl _ _) rfl)
        go_simp
        generalize hZ : (Act.mk _ _) = Z
        refine hK Z ?_
        subst hZ
        clear hK K
        refine kAll_nil (fun W hW hF => ?_)
        clear hF
        have hw := Blk.keep HB.out (keepD (Keep.refl _ _) hW) (fun h => h)
        have HW := Lib.hid hw
        have HK1 := Lib.hid (keepD (Keep.refl (fun _ => False) _) hW)
        have d0 := Blk.cell hw 0
        have g0 := Blk.frozen hw 0
        simp at d0
        clear hW hw
        go_wp2
        go_ret2
        refine ⟨by first | rfl | (rw [HEQ.out]; rfl), ?_, (HK1.out.one (B := B)).setCell (fun _ => rfl) _⟩
        have h2 := HW.out.set_ 0 (.string (bs t))
        unfold Rdr
        simpa using h2
      · rw [if_neg h128] at hcc
        obtain ⟨d, hd⟩ : ∃ d, m % 128 = d := ⟨_, rfl⟩
        have hdl : d < 128 := by omega
        rw [hd] at hcc
        have a1 : IntKind.i64.wrap ((d : Int) + 128) = (d : Int) + 128 := IntWalk.i64_in _ (by omega)
        have a2 : bits .and .i64 ((d : Int) + 128) 127 = (d : Int) := by have := i64_and_nat (d + 128) 127 (by omega) (by decide); rw [and127, show (d + 128) % 128 = d by omega] at this; exact this
        have hk1 := HKM.out
        have a3 : IntKind.i64.wrap ((d : Int) * 2097152) = (d : Int) * 2097152 := IntWalk.i64_in _ (by omega)
        obtain ⟨acc2, hacc2⟩ : ∃ a, acc + d * 2097152 = a := ⟨_, rfl⟩
        have a4 : bits .or .i64 (acc : Int) ((d : Int) * 2097152) = (acc2 : Int) := by
          have h := i64_or_nat acc (d * 2097152) (by omega) (by omega)
          have h2 := or_add acc d 21 (by omega)
          rw [show (2 : Nat) ^ 21 = 2097152 by decide] at h2
          rw [h2, hacc2] at h
          rw [← h]; congr 1
        have a5 : ¬ (1099511627776 : Int) < (acc2 : Int) := by omega
        have a6 : (128 : Int) ≤ (d : Int) + 128 := by omega
        have HN := Lib.hid (show acc2 < 2 ^ (7 * (3 + 1)) ∧ k = acc2 + (m / 128) * 2 ^ (7 * (3 + 1)) ∧ (0 < 3 + 1 → 1 ≤ m / 128) by
          rw [show (2 : Nat) ^ (7 * (3 + 1)) = 268435456 by decide]
          refine ⟨by omega, by omega, fun _ => by omega⟩)
        have HR := Lib.hid (HR2.out (by omega))
        clear hk1 hd hacc2
        go_wp2
        go_roundw
        case rel => exact ⟨3 + 1, m / 128, acc2, pre ++ [c], by omega, HPL.out, rfl, by go_num, HN.out.1, HN.out.2.1, HN.out.2.2, HR, by trivial⟩
        case measure => simp [intOf]
    · have hP : (2 : Nat) ^ (7 * 4) = 268435456 := by decide
      rw [hP] at hacc HKM
      by_cases h128 : m < 128
      · rw [if_pos h128] at hcc
        have a0 : (m : Int) % 128 = (m : Int) := by omega
        have a1 : IntKind.i64.wrap (m : Int) = (m : Int) := IntWalk.i64_in _ (by omega)
        have a2 : bits .and .i64 (m : Int) 127 = (m : Int) := by have := i64_and_nat m 127 (by omega) (by decide); rw [and127, Nat.mod_eq_of_lt h128] at this; exact this
        have hk1 := HKM.out
        have a3 : IntKind.i64.wrap ((m : Int) * 268435456) = (m : Int) * 268435456 := IntWalk.i64_in _ (by omega)
        have a4 : bits .or .i64 (acc : Int) ((m : Int) * 268435456) = (k : Int) := by
          have h := i64_or_nat acc (m * 268435456) (by omega) (by omega)
          have h2 := or_add acc m 28 (by omega)
          rw [show (2 : Nat) ^ 28 = 268435456 by decide] at h2
          rw [h2, show acc + m * 268435456 = k by omega] at h
          rw [← h]; congr 1
        have a5 : ¬ (1099511627776 : Int) < (k : Int) := by omega
        have a6 : ¬ (128 : Int) ≤ (m : Int) := by omega
        have HEQ : Hid (True) := Lib.hid trivial
        clear hk1
        have a7 : ((m : Int) == 0) = false := by have := hm1 (by decide); simp; omega
        have hdr : (S.drop 5).take (S.length - 5) = t := by
          rw [HR1.out h128]; exact List.take_of_length_le (by rw [← HS.out, List.length_append]; have h1 := HR1.out h128; have h2 := congrArg List.length h1; rw [List.length_drop, ← HS.out, List.length_append] at h2; omega)
        have hl1 : (5 : Int) ≤ (S.length : Int) := by omega
        go_wp2_with fail
        refine wp_region_krip (Keep (fun _ => False)) (Keep.refl _) keep0_trans 8 (by kernel_rfl) (by kernel_rfl) (Ts := [some (.inl (.pointer (some ⟨B, 0, none⟩))), some (.inl (.pointer (some ⟨B, 0, none⟩))), none, none, some (.inl (.string (bs S))), none, none, some (.inl (.string (bs t)))]) ?_
        simp only [List.take, List.drop]
        refine kAll_dn _ (fun W hW hF => kStep_of fun K Q hK => ?_) (fun K hK => ?_)
        · have hq := (keepD (Keep.refl _ _) hW).cell hp (fun h => h)
          go_simp
          exact hK _ _ (Keep.refl _ _) rfl
        go_simp
        generalize hZ : (Act.mk _ _) = Z
        refine hK Z ?_
        subst hZ
        clear hK K
        refine kAll_dn _ (fun W hW hF => kStep_of fun K Q hK => ?_) (fun K hK => ?_)
        · have hq := (keepD (Keep.refl _ _) hW).cell hp (fun h => h)
          go_simp
          exact hK _ _ (Keep.refl _ _) rfl
        go_simp
        generalize hZ : (Act.mk _ _) = Z
        refine hK Z ?_
        subst hZ
        clear hK K
        refine kAll_p (fun K hK => ?_)
        go_simp
        generalize hZ : (Act.mk _ _) = Z
        refine hK Z ?_
        subst hZ
        clear hK K
        refine kAll_p (fun K hK => ?_)
        go_simp
        generalize hZ : (Act.mk _ _) = Z
        refine hK Z ?_
        subst hZ
        clear hK K
        refine kAll_dn _ (fun W hW hF => kStep_of fun K Q hK => ?_) (fun K hK => ?_)
        · have hq := (keepD (Keep.refl _ _) hW).cell c0 (fun h => h)
          go_simp
          exact hK _ _ (Keep.refl _ _) rfl
        go_simp
        generalize hZ : (Act.mk _ _) = Z
        refine hK Z ?_
        subst hZ
        clear hK K
        refine kAll_p (fun K hK => ?_)
        go_simp
        generalize hZ : (Act.mk _ _) = Z
        refine hK Z ?_
        subst hZ
        clear hK K
        refine kAll_p (fun K hK => ?_)
        go_simp
        generalize hZ : (Act.mk _ _) = Z
        refine hK Z ?_
        subst hZ
        clear hK K
        refine kAll_dn _ (fun W hW hF => kStep_of fun K Q hK => ?_) (fun K hK => ?_)
        · have hww : IntKind.i64.wrap 5 = 5 := by decide
          go_simp
          first | exact hK _ _ (Keep.refl _ _) rfl | (rw [bs_extract, hdr]; exact hK _ _ (Keep.refl _ _) rfl)
        go_simp
        generalize hZ : (Act.mk _ _) = Z
        refine hK Z ?_
        subst hZ
        clear hK K
        refine kAll_nil (fun W hW hF => ?_)
        clear hF
        have hw := Blk.keep HB.out (keepD (Keep.refl _ _) hW) (fun h => h)
        have HW := Lib.hid hw
        have HK1 := Lib.hid (keepD (Keep.refl (fun _ => False) _) hW)
        have d0 := Blk.cell hw 0
        have g0 := Blk.frozen hw 0
        simp at d0
        clear hW hw
        go_wp2
        go_ret2
        refine ⟨by first | rfl | (rw [HEQ.out]; rfl), ?_, (HK1.out.one (B := B)).setCell (fun _ => rfl) _⟩
        have h2 := HW.out.set_ 0 (.string (bs t))
        unfold Rdr
        simpa using h2
      · rw [if_neg h128] at hcc
        obtain ⟨d, hd⟩ : ∃ d, m % 128 = d := ⟨_, rfl⟩
        have hdl : d < 128 := by omega
        rw [hd] at hcc
        have a1 : IntKind.i64.wrap ((d : Int) + 128) = (d : Int) + 128 := IntWalk.i64_in _ (by omega)
        have a2 : bits .and .i64 ((d : Int) + 128) 127 = (d : Int) := by have := i64_and_nat (d + 128) 127 (by omega) (by decide); rw [and127, show (d + 128) % 128 = d by omega] at this; exact this
        have hk1 := HKM.out
        have a3 : IntKind.i64.wrap ((d : Int) * 268435456) = (d : Int) * 268435456 := IntWalk.i64_in _ (by omega)
        obtain ⟨acc2, hacc2⟩ : ∃ a, acc + d * 268435456 = a := ⟨_, rfl⟩
        have a4 : bits .or .i64 (acc : Int) ((d : Int) * 268435456) = (acc2 : Int) := by
          have h := i64_or_nat acc (d * 268435456) (by omega) (by omega)
          have h2 := or_add acc d 28 (by omega)
          rw [show (2 : Nat) ^ 28 = 268435456 by decide] at h2
          rw [h2, hacc2] at h
          rw [← h]; congr 1
        have a5 : ¬ (1099511627776 : Int) < (acc2 : Int) := by omega
        have a6 : (128 : Int) ≤ (d : Int) + 128 := by omega
        have HN := Lib.hid (show acc2 < 2 ^ (7 * (4 + 1)) ∧ k = acc2 + (m / 128) * 2 ^ (7 * (4 + 1)) ∧ (0 < 4 + 1 → 1 ≤ m / 128) by
          rw [show (2 : Nat) ^ (7 * (4 + 1)) = 34359738368 by decide]
          refine ⟨by omega, by omega, fun _ => by omega⟩)
        have HR := Lib.hid (HR2.out (by omega))
        clear hk1 hd hacc2
        go_wp2
        go_roundw
        case rel => exact ⟨4 + 1, m / 128, acc2, pre ++ [c], by omega, HPL.out, rfl, by go_num, HN.out.1, HN.out.2.1, HN.out.2.2, HR, by trivial⟩
        case measure => simp [intOf]
    · have hP : (2 : Nat) ^ (7 * 5) = 34359738368 := by decide
      rw [hP] at hacc HKM
      by_cases h128 : m < 128
      · rw [if_pos h128] at hcc
        have a0 : (m : Int) % 128 = (m : Int) := by omega
        have a1 : IntKind.i64.wrap (m : Int) = (m : Int) := IntWalk.i64_in _ (by omega)
        have a2 : bits .and .i64 (m : Int) 127 = (m : Int) := by have := i64_and_nat m 127 (by omega) (by decide); rw [and127, Nat.mod_eq_of_lt h128] at this; exact this
        have hk1 := HKM.out
        have a3 : IntKind.i64.wrap ((m : Int) * 34359738368) = (m : Int) * 34359738368 := IntWalk.i64_in _ (by omega)
        have a4 : bits .or .i64 (acc : Int) ((m : Int) * 34359738368) = (k : Int) := by
          have h := i64_or_nat acc (m * 34359738368) (by omega) (by omega)
          have h2 := or_add acc m 35 (by omega)
          rw [show (2 : Nat) ^ 35 = 34359738368 by decide] at h2
          rw [h2, show acc + m * 34359738368 = k by omega] at h
          rw [← h]; congr 1
        have a5 : ¬ (1099511627776 : Int) < (k : Int) := by omega
        have a6 : ¬ (128 : Int) ≤ (m : Int) := by omega
        have HEQ : Hid (True) := Lib.hid trivial
        clear hk1
        have a7 : ((m : Int) == 0) = false := by have := hm1 (by decide); simp; omega
        have hdr : (S.drop 6).take (S.length - 6) = t := by
          rw [HR1.out h128]; exact List.take_of_length_le (by rw [← HS.out, List.length_append]; have h1 := HR1.out h128; have h2 := congrArg List.length h1; rw [List.length_drop, ← HS.out, List.length_append] at h2; omega)
        have hl1 : (6 : Int) ≤ (S.length : Int) := by omega
        go_wp2_with fail
        refine wp_region_krip (Keep (fun _ => False)) (Keep.refl _) keep0_trans 8 (by kernel_rfl) (by kernel_rfl) (Ts := [some (.inl (.pointer (some ⟨B, 0, none⟩))), some (.inl (.pointer (some ⟨B, 0, none⟩))), none, none, some (.inl (.string (bs S))), none, none, some (.inl (.string (bs t)))]) ?_
        simp only [List.take, List.drop]
        refine kAll_dn _ (fun W hW hF => kStep_of fun K Q hK => ?_) (fun K hK => ?_)
        · have hq := (keepD (Keep.refl _ _) hW).cell hp (fun h => h)
          go_simp
          exact hK _ _ (Keep.refl _ _) rfl
        go_simp
        generalize hZ : (Act.mk _ _) = Z
        refine hK Z ?_
        subst hZ
        clear hK K
        refine kAll_dn _ (fun W hW hF => kStep_of fun K Q hK => ?_) (fun K hK => ?_)
        · have hq := (keepD (Keep.refl _ _) hW).cell hp (fun h => h)
          go_simp
          exact hK _ _ (Keep.refl _ _) rfl
        go_simp
        generalize hZ : (Act.mk _ _) = Z
        refine hK Z ?_
        subst hZ
        clear hK K
        refine kAll_p (fun K hK => ?_)
        go_simp
        generalize hZ : (Act.mk _ _) = Z
        refine hK Z ?_
        subst hZ
        clear hK K
        refine kAll_p (fun K hK => ?_)
        go_simp
        generalize hZ : (Act.mk _ _) = Z
        refine hK Z ?_
        subst hZ
        clear hK K
        refine kAll_dn _ (fun W hW hF => kStep_of fun K Q hK => ?_) (fun K hK => ?_)
        · have hq := (keepD (Keep.refl _ _) hW).cell c0 (fun h => h)
          go_simp
          exact hK _ _ (Keep.refl _ _) rfl
        go_simp
        generalize hZ : (Act.mk _ _) = Z
        refine hK Z ?_
        subst hZ
        clear hK K
        refine kAll_p (fun K hK => ?_)
        go_simp
        generalize hZ : (Act.mk _ _) = Z
        refine hK Z ?_
        subst hZ
        clear hK K
        refine kAll_p (fun K hK => ?_)
        go_simp
        generalize hZ : (Act.mk _ _) = Z
        refine hK Z ?_
        subst hZ
        clear hK K
        refine kAll_dn _ (fun W hW hF => kStep_of fun K Q hK => ?_) (fun K hK => ?_)
        · have hww : IntKind.i64.wrap 6 = 6 := by decide
          go_simp
          first | exact hK _ _ (Keep.refl _ _) rfl | (rw [bs_extract, hdr]; exact hK _ _ (Keep.refl _ _) rfl)
        go_simp
        generalize hZ : (Act.mk _ _) = Z
        refine hK Z ?_
        subst hZ
        clear hK K
        refine kAll_nil (fun W hW hF => ?_)
        clear hF
        have hw := Blk.keep HB.out (keepD (Keep.refl _ _) hW) (fun h => h)
        have HW := Lib.hid hw
        have HK1 := Lib.hid (keepD (Keep.refl (fun _ => False) _) hW)
        have d0 := Blk.cell hw 0
        have g0 := Blk.frozen hw 0
        simp at d0
        clear hW hw
        go_wp2
        go_ret2
        refine ⟨by first | rfl | (rw [HEQ.out]; rfl), ?_, (HK1.out.one (B := B)).setCell (fun _ => rfl) _⟩
        have h2 := HW.out.set_ 0 (.string (bs t))
        unfold Rdr
        simpa using h2
      · rw [if_neg h128] at hcc
        have hk1 := HKM.out
        omega
end Go.Proofs.YtgoldgamjogadaaGreat

namespace Go.Proofs.YtgoldgamjogadaaGreat
open Go.RowKit Go
set_option maxRecDepth 100000
attribute [local go_sem] bs_toList bs_size bs_get
attribute [local irreducible] kAll
attribute [local go_sem] kQuiet kQuietUpon

/-- a call that reads: a value, what is wrong, the reader behind it -/
def ReadT (B : Nat) (T : Value → World → Prop) (er : Int) (st : WS) (w : World) (e : Ending) (w' : World) : Prop :=
  ∃ v, e = .returned (.tuple #[v, .int .i64 er]) ∧ T v w' ∧ Rdr w' B st ∧ Keep (fun q => B = q) w w'
set_option maxHeartbeats 1000000 in
theorem readI_er (B : Nat) (st : WS) (fv : Value) (w : World) (h : Rdr w B st) (he : st.2 ≠ 0) : Calls Tryz.prog 54 #[.pointer (some ⟨B, 0, none⟩), fv] w (ReadT B (fun v _ => v = .int .i64 0) st.2 st w) := by
  obtain ⟨s0, e0⟩ := st
  have HR := Lib.hid h
  have c1 := Blk.cell h 1
  simp at c1
  have q1 : (e0 != 0) = true := by simpa using he
  have q2 : (e0 == 0) = false := by simpa using he
  clear h he
  go_enter Tryz.func54, Tryz.ntmps54
  go_wp2_with fail
  refine wp_region_krip (Keep (fun _ => False)) (Keep.refl _) keep0_trans 7 (by kernel_rfl) (by kernel_rfl) (Ts := [none, none, none, none, some (.inl (.int .i64 e0)), none, none]) ?_
  simp only [List.take, List.drop]
  refine kAll_p (fun K hK => ?_)
  go_simp
  generalize hZ : (Act.mk _ _) = Z
  refine hK Z ?_
  subst hZ
  clear hK K
  refine kAll_p (fun K hK => ?_)
  go_simp
  generalize hZ : (Act.mk _ _) = Z
  refine hK Z ?_
  subst hZ
  clear hK K
  refine kAll_p (fun K hK => ?_)
  go_simp
  generalize hZ : (Act.mk _ _) = Z
  refine hK Z ?_
  subst hZ
  clear hK K
  refine kAll_p (fun K hK => ?_)
  go_simp
  generalize hZ : (Act.mk _ _) = Z
  refine hK Z ?_
  subst hZ
  clear hK K
  refine kAll_dn _ (fun W hW hF => kStep_of fun K Q hK => ?_) (fun K hK => ?_)
  · have hq := (keepD (Keep.refl _ _) hW).cell c1 (fun h => h)
    go_simp
    exact hK _ _ (Keep.refl _ _) rfl
  go_simp
  generalize hZ : (Act.mk _ _) = Z
  refine hK Z ?_
  subst hZ
  clear hK K
  refine kAll_p (fun K hK => ?_)
  go_simp
  generalize hZ : (Act.mk _ _) = Z
  refine hK Z ?_
  subst hZ
  clear hK K
  refine kAll_p (fun K hK => ?_)
  go_simp
  generalize hZ : (Act.mk _ _) = Z
  refine hK Z ?_
  subst hZ
  clear hK K
  refine kAll_nil (fun W hW hF => ?_)
  clear hF
  have HK := Lib.hid (keepD (Keep.refl _ _) hW)
  clear hW
  go_wp2
  go_ret2
  exact ⟨_, rfl, rfl, Blk.keep HR.out HK.out (fun h => h), HK.out.one⟩
set_option maxHeartbeats 1000000 in
theorem readI_bad (B : Nat) (s : Bs) (f : FuncId) (caps : Array Value) (T : Value → World → Prop) (er : Int) (st : WS) (w : World) (h : Rdr w B (s, 0)) (eg : ∀ args w, (callFunc f args).run Tryz.prog w = .ok (.enter f args) w) (he : er ≠ 0) (hf : ∀ W, W = w → Calls Tryz.prog f caps W (ReadT B T er st W)) :
    Calls Tryz.prog 54 #[.pointer (some ⟨B, 0, none⟩), .func (.func f) #[] caps] w (ReadT B (fun v _ => v = .int .i64 0) er ([], er) w) := by
  have c1 := Blk.cell h 1
  simp at c1
  have HF := Lib.hid hf
  have q1 : (er != 0) = true := by simpa using he
  have q2 : (er == 0) = false := by simpa using he
  clear h he hf
  go_enter Tryz.func54, Tryz.ntmps54
  go_wp2_with fail
  refine (HF.out _ rfl).mono ?_
  rintro e W1 ⟨v, rfl, hT, hr, hk⟩
  have HR := Lib.hid hr
  have HK := Lib.hid hk
  have d0 := Blk.cell hr 0
  have d1 := Blk.cell hr 1
  have f0 := Blk.frozen hr 0
  have f1 := Blk.frozen hr 1
  simp at d0 d1
  clear hT hr hk c1
  go_wp2
  go_ret2
  refine ⟨_, rfl, rfl, ?_, (HK.out.setCell (fun _ => rfl) _).setCell (fun _ => rfl) _⟩
  have h2 := (HR.out.set_ 0 (.string ⟨#[]⟩)).set_ 1 (.int .i64 er)
  show Blk _ _ _ #[.string ⟨#[]⟩, .int .i64 er]
  simpa using h2
set_option maxHeartbeats 1000000 in
theorem readI_ok (B : Nat) (s : Bs) (f : FuncId) (caps : Array Value) (T : Value → World → Prop) (st : WS) (w : World) (h : Rdr w B (s, 0)) (eg : ∀ args w, (callFunc f args).run Tryz.prog w = .ok (.enter f args) w) (hf : ∀ W, W = w → Calls Tryz.prog f caps W (ReadT B T 0 st W)) :
    Calls Tryz.prog 54 #[.pointer (some ⟨B, 0, none⟩), .func (.func f) #[] caps] w (ReadT B T 0 st w) := by
  have c1 := Blk.cell h 1
  simp at c1
  have HF := Lib.hid hf
  clear h hf
  go_enter Tryz.func54, Tryz.ntmps54
  go_wp2_with fail
  refine (HF.out _ rfl).mono ?_
  rintro e W1 ⟨v, rfl, hT, hr, hk⟩
  have HR := Lib.hid hr
  have HK := Lib.hid hk
  have HT := Lib.hid hT
  clear hT hr hk c1
  go_wp2
  go_ret2
  exact ⟨v, rfl, HT.out, HR.out, HK.out⟩
set_option maxHeartbeats 1000000 in
theorem readL_er (B : Nat) (st : WS) (fv : Value) (w : World) (h : Rdr w B st) (he : st.2 ≠ 0) : Calls Tryz.prog 95 #[.pointer (some ⟨B, 0, none⟩), fv] w (ReadT B (fun v _ => v = .slice none 0 0) st.2 st w) := by
  obtain ⟨s0, e0⟩ := st
  have HR := Lib.hid h
  have c1 := Blk.cell h 1
  simp at c1
  have q1 : (e0 != 0) = true := by simpa using he
  have q2 : (e0 == 0) = false := by simpa using he
  clear h he
  go_enter Tryz.func95, Tryz.ntmps95
  go_wp2_with fail
  refine wp_region_krip (Keep (fun _ => False)) (Keep.refl _) keep0_trans 7 (by kernel_rfl) (by kernel_rfl) (Ts := [none, none, none, none, some (.inl (.int .i64 e0)), none, none]) ?_
  simp only [List.take, List.drop]
  refine kAll_p (fun K hK => ?_)
  go_simp
  generalize hZ : (Act.mk _ _) = Z
  refine hK Z ?_
  subst hZ
  clear hK K
  refine kAll_p (fun K hK => ?_)
  go_simp
  generalize hZ : (Act.mk _ _) = Z
  refine hK Z ?_
  subst hZ
  clear hK K
  refine kAll_p (fun K hK => ?_)
  go_simp
  generalize hZ : (Act.mk _ _) = Z
  refine hK Z ?_
  subst hZ
  clear hK K
  refine kAll_p (fun K hK => ?_)
  go_simp
  generalize hZ : (Act.mk _ _) = Z
  refine hK Z ?_
  subst hZ
  clear hK K
  refine kAll_dn _ (fun W hW hF => kStep_of fun K Q hK => ?_) (fun K hK => ?_)
  · have hq := (keepD (Keep.refl _ _) hW).cell c1 (fun h => h)
    go_simp
    exact hK _ _ (Keep.refl _ _) rfl
  go_simp
  generalize hZ : (Act.mk _ _) = Z
  refine hK Z ?_
  subst hZ
  clear hK K
  refine kAll_p (fun K hK => ?_)
  go_simp
  generalize hZ : (Act.mk _ _) = Z
  refine hK Z ?_
  subst hZ
  clear hK K
  refine kAll_p (fun K hK => ?_)
  go_simp
  generalize hZ : (Act.mk _ _) = Z
  refine hK Z ?_
  subst hZ
  clear hK K
  refine kAll_nil (fun W hW hF => ?_)
  clear hF
  have HK := Lib.hid (keepD (Keep.refl _ _) hW)
  clear hW
  go_wp2
  go_ret2
  exact ⟨_, rfl, rfl, Blk.keep HR.out HK.out (fun h => h), HK.out.one⟩
set_option maxHeartbeats 1000000 in
theorem readL_bad (B : Nat) (s : Bs) (f : FuncId) (caps : Array Value) (T : Value → World → Prop) (er : Int) (st : WS) (w : World) (h : Rdr w B (s, 0)) (eg : ∀ args w, (callFunc f args).run Tryz.prog w = .ok (.enter f args) w) (he : er ≠ 0) (hf : ∀ W, W = w → Calls Tryz.prog f caps W (ReadT B T er st W)) :
    Calls Tryz.prog 95 #[.pointer (some ⟨B, 0, none⟩), .func (.func f) #[] caps] w (ReadT B (fun v _ => v = .slice none 0 0) er ([], er) w) := by
  have c1 := Blk.cell h 1
  simp at c1
  have HF := Lib.hid hf
  have q1 : (er != 0) = true := by simpa using he
  have q2 : (er == 0) = false := by simpa using he
  clear h he hf
  go_enter Tryz.func95, Tryz.ntmps95
  go_wp2_with fail
  refine (HF.out _ rfl).mono ?_
  rintro e W1 ⟨v, rfl, hT, hr, hk⟩
  have HR := Lib.hid hr
  have HK := Lib.hid hk
  have d0 := Blk.cell hr 0
  have d1 := Blk.cell hr 1
  have f0 := Blk.frozen hr 0
  have f1 := Blk.frozen hr 1
  simp at d0 d1
  clear hT hr hk c1
  go_wp2
  go_ret2
  refine ⟨_, rfl, rfl, ?_, (HK.out.setCell (fun _ => rfl) _).setCell (fun _ => rfl) _⟩
  have h2 := (HR.out.set_ 0 (.string ⟨#[]⟩)).set_ 1 (.int .i64 er)
  show Blk _ _ _ #[.string ⟨#[]⟩, .int .i64 er]
  simpa using h2
set_option maxHeartbeats 1000000 in
theorem readL_ok (B : Nat) (s : Bs) (f : FuncId) (caps : Array Value) (T : Value → World → Prop) (st : WS) (w : World) (h : Rdr w B (s, 0)) (eg : ∀ args w, (callFunc f args).run Tryz.prog w = .ok (.enter f args) w) (hf : ∀ W, W = w → Calls Tryz.prog f caps W (ReadT B T 0 st W)) :
    Calls Tryz.prog 95 #[.pointer (some ⟨B, 0, none⟩), .func (.func f) #[] caps] w (ReadT B T 0 st w) := by
  have c1 := Blk.cell h 1
  simp at c1
  have HF := Lib.hid hf
  clear h hf
  go_enter Tryz.func95, Tryz.ntmps95
  go_wp2_with fail
  refine (HF.out _ rfl).mono ?_
  rintro e W1 ⟨v, rfl, hT, hr, hk⟩
  have HR := Lib.hid hr
  have HK := Lib.hid hk
  have HT := Lib.hid hT
  clear hT hr hk c1
  go_wp2
  go_ret2
  exact ⟨v, rfl, HT.out, HR.out, HK.out⟩
theorem eg_num1 : ∀ args w, (callFunc 79 args).run Tryz.prog w = .ok (.enter 79 args) w := enters_of Tryz.func79 (by kernel_rfl) rfl
set_option maxHeartbeats 1000000 in
theorem rnum1_nil (Bp B : Nat) (w : World) (hp : w.cell? ⟨Bp, 0, none⟩ = some (.pointer (some ⟨B, 0, none⟩))) (h : Rdr w B ([], 0)) :
    Calls Tryz.prog 79 #[.pointer (some ⟨Bp, 0, none⟩)] w (ReadT B (fun v _ => v = .int .i64 0) 8 ([], 0) w) := by
  have HR := Lib.hid h
  have c0 : w.cell? ⟨B, 0, none⟩ = some (.string ⟨#[]⟩) := Blk.cell h 0
  clear h
  go_enter Tryz.func79, Tryz.ntmps79
  go_wp2
  go_loopw [3, 4] (fun nv iv wr => nv = .int .i64 0 ∧ iv = .int .i64 0 ∧ wr = w) (fun _ _ _ => 0)
  case atStart => exact ⟨rfl, rfl, rfl⟩
  case round =>
    obtain ⟨rfl, rfl, rfl⟩ := hrel
    go_wp2
    go_ret2
    exact ⟨_, rfl, rfl, HR.out, Keep.refl _ _⟩
/-- how a number is read: it stands there; nothing does; something was wrong -/
def NumR (st : WS) (v er : Int) (st' : WS) : Prop :=
  (st.2 ≠ 0 ∧ v = 0 ∧ er = st.2 ∧ st' = st) ∨ (st = ([], 0) ∧ v = 0 ∧ er = 8 ∧ st' = ([], 8)) ∨
  ∃ (k : Nat) (t : Bs), k ≤ 1099511627776 ∧ t.length ≤ 1000000 ∧ st = (numB k ++ t, 0) ∧ v = (k : Int) ∧ er = 0 ∧ st' = (t, 0)
set_option maxHeartbeats 1000000 in
theorem rNum_any (B : Nat) (st st' : WS) (v er : Int) (w : World) (h : Rdr w B st) (hn : NumR st v er st') :
    Calls Tryz.prog 46 #[.pointer (some ⟨B, 0, none⟩)] w (ReadT B (fun u _ => u = .int .i64 v) er st' w) := by
  obtain ⟨W0, hW0⟩ : ∃ W0, w.alloc (.cells #[.pointer (some ⟨B, 0, none⟩)] 70) = W0 := ⟨_, rfl⟩
  have hb : Blk W0 w.heap.size 70 #[.pointer (some ⟨B, 0, none⟩)] := by rw [← hW0]; exact Blk.new _ _ _
  have hk0 : Keep (fun _ => False) w W0 := by rw [← hW0]; exact (Keep.refl _ w).alloc _
  have c0 := hb.cell 0
  simp at c0
  have HC := Lib.hid c0
  have hr0 : Rdr W0 B st := Blk.keep h hk0 (fun h => h)
  have HR := Lib.hid hr0
  have HK := Lib.hid hk0
  have HN := Lib.hid hn
  clear hb hk0 h hr0 hn
  have hcall : Calls Tryz.prog 54 #[.pointer (some ⟨B, 0, none⟩), .func (.func 79) #[] #[.pointer (some ⟨w.heap.size, 0, none⟩)]] W0 (ReadT B (fun u _ => u = .int .i64 v) er st' W0) := by
    rcases HN.out with ⟨h1, rfl, rfl, rfl⟩ | ⟨rfl, rfl, rfl, rfl⟩ | ⟨k, t, hk, ht, rfl, rfl, rfl, rfl⟩
    · exact readI_er B _ _ W0 HR.out h1
    · exact readI_bad B [] _ _ _ 8 ([], 0) W0 HR.out eg_num1 (by decide) (fun W hW => by subst hW; exact rnum1_nil _ B W HC.out HR.out)
    · exact readI_ok B _ _ _ _ (t, 0) W0 HR.out eg_num1 (fun W hW => by
        subst hW
        refine (rnum1_any _ B k hk t ht W HC.out HR.out).mono ?_
        rintro e w' ⟨rfl, h1, h2⟩
        exact ⟨_, rfl, rfl, h1, h2⟩)
  have HCall := Lib.hid hcall
  clear hcall
  go_enter Tryz.func46, Tryz.ntmps46
  go_wp2_with fail
  refine HCall.out.mono ?_
  rintro e W1 ⟨u, rfl, rfl, h1, h2⟩
  have HR1 := Lib.hid h1
  have HK1 := Lib.hid (HK.out.one.one_trans h2)
  clear h1 h2 c0
  go_wp2
  go_ret2
  exact ⟨_, rfl, rfl, HR1.out, HK1.out⟩
/-- a call of frame's reader: a value, the reader behind it -/
def Reads (B : Nat) (T : Value → World → Prop) (st : WS) (w : World) (e : Ending) (w' : World) : Prop :=
  ∃ v, e = .returned v ∧ T v w' ∧ Rdr w' B st ∧ Keep (fun q => B = q) w w'
abbrev rdV (B : Nat) : Value := .agg #[.pointer (some ⟨B, 0, none⟩)]
set_option maxHeartbeats 1000000 in
theorem fnum_any (B : Nat) (st st' : WS) (v er : Int) (w : World) (h : Rdr w B st) (hn : NumR st v er st') :
    Calls Tryz.prog 30 #[rdV B] w (Reads B (fun u _ => u = .int .i64 v) st' w) := by
  have hk0 := (Keep.refl (fun _ => False) w).alloc (.cells #[.pointer (some ⟨B, 0, none⟩)] 73)
  have HK := Lib.hid hk0
  have HR : Hid (Rdr (w.alloc (.cells #[.pointer (some ⟨B, 0, none⟩)] 73)) B st) := Lib.hid (Blk.keep h hk0 (fun h => h))
  have HN := Lib.hid hn
  clear hk0 h hn
  go_enter Tryz.func30, Tryz.ntmps30
  go_wp2_with fail
  refine (rNum_any B st st' v er _ HR.out HN.out).mono ?_
  rintro e W1 ⟨u, rfl, rfl, h1, h2⟩
  have HR1 := Lib.hid h1
  have HK1 := Lib.hid (HK.out.one.one_trans h2)
  clear h1 h2
  go_wp2
  go_ret
  exact ⟨_, rfl, rfl, HR1.out, HK1.out⟩
set_option maxHeartbeats 1000000 in
theorem fsmall_any (B : Nat) (st st' : WS) (v er : Int) (w : World) (h : Rdr w B st) (hn : NumR st v er st') (h0 : 0 ≤ v) (h255 : v ≤ 255) :
    Calls Tryz.prog 28 #[rdV B] w (Reads B (fun u _ => u = .int .u8 v) st' w) := by
  have hb := Blk.new w 73 #[.pointer (some ⟨B, 0, none⟩)]
  have hk0 := (Keep.refl (fun _ => False) w).alloc (.cells #[.pointer (some ⟨B, 0, none⟩)] 73)
  have c0 := hb.cell 0
  simp at c0
  have HK := Lib.hid hk0
  have HR : Hid (Rdr (w.alloc (.cells #[.pointer (some ⟨B, 0, none⟩)] 73)) B st) := Lib.hid (Blk.keep h hk0 (fun h => h))
  have HN := Lib.hid hn
  have e1 : IntKind.u8.wrap v = v := by rw [IntKind.wrap_u8']; omega
  have e2 : min v 255 = v := by omega
  clear hk0 h hn hb
  go_enter Tryz.func28, Tryz.ntmps28
  go_wp2_with fail
  refine (fnum_any B st st' v er _ HR.out HN.out).mono ?_
  rintro e W1 ⟨u, rfl, rfl, h1, h2⟩
  have HR1 := Lib.hid h1
  have HK1 := Lib.hid (HK.out.one.one_trans h2)
  clear h1 h2
  go_wp2
  go_ret
  exact ⟨_, rfl, rfl, HR1.out, HK1.out⟩
def IdR (st : WS) (p : ID) (st' : WS) : Prop := ∃ m e1 e2, NumR st p.1 e1 m ∧ NumR m p.2 e2 st'
set_option maxHeartbeats 1000000 in
theorem fid_any (B : Nat) (st st' : WS) (p : ID) (w : World) (h : Rdr w B st) (hn : IdR st p st') :
    Calls Tryz.prog 29 #[rdV B] w (Reads B (fun u _ => u = idV p) st' w) := by
  obtain ⟨a, i⟩ := p
  obtain ⟨m, er1, er2, hn1, hn2⟩ := hn
  obtain ⟨W0, hW0⟩ : ∃ W0, w.alloc (.cells #[.pointer (some ⟨B, 0, none⟩)] 73) = W0 := ⟨_, rfl⟩
  have hb : Blk W0 w.heap.size 73 #[.pointer (some ⟨B, 0, none⟩)] := by rw [← hW0]; exact Blk.new _ _ _
  have hk0 : Keep (fun _ => False) w W0 := by rw [← hW0]; exact (Keep.refl _ w).alloc _
  obtain ⟨W1, hW1⟩ : ∃ W1, W0.alloc (.cells #[.int .i64 0, .int .i64 0] 24) = W1 := ⟨_, rfl⟩
  have hbo : Blk W1 W0.heap.size 24 #[.int .i64 0, .int .i64 0] := by rw [← hW1]; exact Blk.new _ _ _
  have hk1 : Keep (fun _ => False) W0 W1 := by rw [← hW1]; exact (Keep.refl _ W0).alloc _
  have c0 := (hb.keep hk1 (fun h => h)).cell 0
  simp at c0
  have HB := Lib.hid (hb.keep hk1 (fun h => h))
  have HBo := Lib.hid hbo
  have HK := Lib.hid (keep0_trans _ _ _ hk0 hk1)
  have hBl := Blk.lt h
  have HR : Hid (Rdr W1 B st) := Lib.hid (Blk.keep h (keep0_trans _ _ _ hk0 hk1) (fun h => h))
  have HS0 := Lib.hid (show W0.heap.size = w.heap.size + 1 by rw [← hW0]; simp)
  have HN1 := Lib.hid hn1
  have HN2 := Lib.hid hn2
  have HNe := Lib.hid (show ¬ B = w.heap.size by omega)
  have HNo := Lib.hid (show ¬ B = W0.heap.size by have := HS0.out; omega)
  clear hk0 h hn1 hn2 hb hbo hk1 hBl
  go_enter Tryz.func29, Tryz.ntmps29
  go_wp2_with fail
  refine (fnum_any B st m a er1 _ HR.out HN1.out).mono ?_
  rintro e W2 ⟨u, rfl, rfl, h1, h2⟩
  have HR1 := Lib.hid h1
  have HB := Lib.hid (HB.out.keep h2 HNe.out)
  have HBo := Lib.hid (HBo.out.keep h2 HNo.out)
  have HK1 := Lib.hid (HK.out.one.one_trans h2)
  have d0 := HB.out.cell 0
  simp at d0
  clear h1 h2 c0
  go_wp2_with fail
  refine (fnum_any B m st' i er2 _ HR1.out HN2.out).mono ?_
  rintro e W3 ⟨u, rfl, rfl, h1, h2⟩
  have HR2 := Lib.hid h1
  have hbo2 := HBo.out.keep h2 HNo.out
  have HBo := Lib.hid hbo2
  have HK2 := Lib.hid (HK1.out.one_trans h2)
  have o0 := hbo2.cell 0
  have o1 := hbo2.cell 1
  have p0 := hbo2.frozen 0
  have p1 := hbo2.frozen 1
  simp at o0 o1
  clear h1 h2 d0 hbo2
  go_wp2
  have hbf : Blk ((W3.setCell ⟨W0.heap.size, 0, none⟩ (.int .i64 a)).setCell ⟨W0.heap.size, 1, none⟩ (.int .i64 i)) W0.heap.size 24 #[.int .i64 a, .int .i64 i] := by
    have h := (HBo.out.set_ 0 (.int .i64 a)).set_ 1 (.int .i64 i)
    simpa using h
  have hk2 : Keep (fun q => W0.heap.size = q) W3 ((W3.setCell ⟨W0.heap.size, 0, none⟩ (.int .i64 a)).setCell ⟨W0.heap.size, 1, none⟩ (.int .i64 i)) := ((Keep.refl (fun q => W0.heap.size = q) W3).setCell (p := ⟨W0.heap.size, 0, none⟩) (fun _ => rfl) _).setCell (p := ⟨W0.heap.size, 1, none⟩) (fun _ => rfl) _
  generalize (W3.setCell ⟨W0.heap.size, 0, none⟩ (.int .i64 a)).setCell ⟨W0.heap.size, 1, none⟩ (.int .i64 i) = WF at *
  have x0 := hbf.cell 0
  have x1 := hbf.cell 1
  simp at x0 x1
  refine ⟨rfl, idV (a, i), ?_, ⟨_, rfl, rfl, Blk.keep HR2.out hk2 (fun e => HNo.out e.symm), HK2.out.trans (hk2.mono fun q _ e => .inr (by have := HS0.out; omega))⟩⟩
  unfold results
  go_simp
end Go.Proofs.YtgoldgamjogadaaGreat

namespace Go.Proofs.YtgoldgamjogadaaGreat
open Go.RowKit Go
set_option maxRecDepth 100000
attribute [local go_sem] bs_toList bs_size bs_get

theorem numR_of {k : Int} {t : Bs} (h0 : 0 ≤ k) (h1 : k ≤ 1099511627776) (ht : t.length ≤ 1000000) : NumR (numB k.toNat ++ t, 0) k 0 (t, 0) :=
  .inr (.inr ⟨k.toNat, t, by omega, ht, rfl, by omega, rfl, rfl⟩)
/-- a new block of an ID, written -/
theorem idblk_set {w : World} {g : Nat} {a i b j : Int} (h : Blk w g 24 #[.int .i64 a, .int .i64 i]) : Blk ((w.setCell ⟨g, 0, none⟩ (.int .i64 b)).setCell ⟨g, 1, none⟩ (.int .i64 j)) g 24 #[.int .i64 b, .int .i64 j] := by
  have h2 := (h.set_ 0 (.int .i64 b)).set_ 1 (.int .i64 j)
  simpa using h2
theorem keep_id2 {w : World} {g : Nat} (u v : Value) : Keep (fun q => g = q) w ((w.setCell ⟨g, 0, none⟩ u).setCell ⟨g, 1, none⟩ v) :=
  ((Keep.refl (fun q => g = q) w).setCell (p := ⟨g, 0, none⟩) (fun _ => rfl) _).setCell (p := ⟨g, 1, none⟩) (fun _ => rfl) _
set_option maxHeartbeats 2000000 in
theorem rid1_any (Bp B : Nat) (p : ID) (hp : mayID p = true) (t : Bs) (ht : t.length ≤ 1000000 - 14) (w : World) (hc : w.cell? ⟨Bp, 0, none⟩ = some (.pointer (some ⟨B, 0, none⟩))) (h : Rdr w B (idB p ++ t, 0)) :
    Calls Tryz.prog 106 #[.pointer (some ⟨Bp, 0, none⟩)] w (ReadT B (fun v _ => v = idV p) 0 (t, 0) w) := by
  obtain ⟨a, i⟩ := p
  have HM := Lib.hid hp
  unfold mayID at hp
  rw [decide_eq_true_eq] at hp
  simp only at hp
  have hn1 : NumR (idB (a, i) ++ t, 0) a 0 (numB i.toNat ++ t, 0) := by
    unfold idB
    rw [List.append_assoc]
    exact numR_of (by omega) (by omega) (by rw [List.length_append]; have := numB_len ((a, i) : ID).2.toNat; omega)
  have hn2 : NumR (numB i.toNat ++ t, 0) i 0 (t, 0) := numR_of (by omega) (by omega) (by omega)
  have HN1 := Lib.hid hn1
  have HN2 := Lib.hid hn2
  obtain ⟨W1, hW1⟩ : ∃ W1, w.alloc (.cells #[.int .i64 0, .int .i64 0] 24) = W1 := ⟨_, rfl⟩
  have hbo : Blk W1 w.heap.size 24 #[.int .i64 0, .int .i64 0] := by rw [← hW1]; exact Blk.new _ _ _
  have hk1 : Keep (fun _ => False) w W1 := by rw [← hW1]; exact (Keep.refl _ w).alloc _
  have c0 := hk1.cell hc (fun h => h)
  have hBp : Bp < w.heap.size := World.block_lt_of_cell? w _ hc
  have hBl := Blk.lt h
  have HNp := Lib.hid (show ¬ B = Bp from fun e => by
    subst e
    have h1 := Blk.cell h 0
    rw [hc] at h1
    simp at h1)
  have HNo := Lib.hid (show ¬ B = w.heap.size by omega)
  have HNq := Lib.hid (show ¬ w.heap.size = Bp by omega)
  have HBo := Lib.hid hbo
  have HC := Lib.hid c0
  have HK := Lib.hid hk1
  have HR : Hid (Rdr W1 B (idB (a, i) ++ t, 0)) := Lib.hid (Blk.keep h hk1 (fun h => h))
  clear hn1 hn2 hp hbo hk1 hc h ht hBp hBl
  go_enter Tryz.func106, Tryz.ntmps106
  go_wp2_with fail
  refine (rNum_any B _ _ a 0 _ HR.out HN1.out).mono ?_
  rintro e W2 ⟨u, rfl, rfl, h1, h2⟩
  have hbo2 := HBo.out.keep h2 HNo.out
  have HBo := Lib.hid hbo2
  have HR1 := Lib.hid h1
  have hc2 := h2.cell HC.out HNp.out
  have HC2 := Lib.hid hc2
  have HK1 := Lib.hid (HK.out.one.one_trans h2)
  have f0 := hbo2.frozen 0
  have o0 := hbo2.cell 0
  simp at o0
  obtain ⟨W3, hW3⟩ : ∃ W3, W2.setCell ⟨w.heap.size, 0, none⟩ (.int .i64 a) = W3 := ⟨_, rfl⟩
  have hb3 : Blk W3 w.heap.size 24 #[.int .i64 a, .int .i64 0] := by
    rw [← hW3]
    have h := hbo2.set_ 0 (.int .i64 a)
    simpa using h
  have hk3 : Keep (fun q => w.heap.size = q) W2 W3 := by rw [← hW3]; exact (Keep.refl (fun q => w.heap.size = q) W2).setCell (p := ⟨w.heap.size, 0, none⟩) (fun _ => rfl) _
  have HR3 : Hid (Rdr W3 B (numB i.toNat ++ t, 0)) := Lib.hid (Blk.keep h1 hk3 (fun e => HNo.out e.symm))
  have c3 := hk3.cell HC2.out HNq.out
  have HC3 := Lib.hid c3
  have HB3 := Lib.hid hb3
  have HK3 := Lib.hid (HK1.out.trans (hk3.mono fun q _ e => .inr (by omega)))
  clear h1 h2 c0 hc2 hbo2 hb3 hk3
  go_wp2_with fail
  refine (rNum_any B _ _ i 0 _ HR3.out HN2.out).mono ?_
  rintro e W4 ⟨u, rfl, rfl, h1, h2⟩
  have hb4 := HB3.out.keep h2 HNo.out
  have HR4 := Lib.hid h1
  have HK4 := Lib.hid (HK3.out.one_trans h2)
  have g0 := hb4.frozen 0
  have g1 := hb4.frozen 1
  have q0 := hb4.cell 0
  have q1 := hb4.cell 1
  simp at q0 q1
  obtain ⟨W5, hW5⟩ : ∃ W5, W4.setCell ⟨w.heap.size, 1, none⟩ (.int .i64 i) = W5 := ⟨_, rfl⟩
  have hb5 : Blk W5 w.heap.size 24 #[.int .i64 a, .int .i64 i] := by
    rw [← hW5]
    have h := hb4.set_ 1 (.int .i64 i)
    simpa using h
  have hk5 : Keep (fun q => w.heap.size = q) W4 W5 := by rw [← hW5]; exact (Keep.refl (fun q => w.heap.size = q) W4).setCell (p := ⟨w.heap.size, 1, none⟩) (fun _ => rfl) _
  have HR5 : Hid (Rdr W5 B (t, 0)) := Lib.hid (Blk.keep h1 hk5 (fun e => HNo.out e.symm))
  have HK5 := Lib.hid (HK4.out.trans (hk5.mono fun q _ e => .inr (by omega)))
  have HB5 := Lib.hid hb5
  have r0 := hb5.cell 0
  have r1 := hb5.cell 1
  have s0 := hb5.frozen 0
  have s1 := hb5.frozen 1
  simp at r0 r1
  clear h1 h2 c3 hb4 hb5 hk5
  go_wp2_with fail
  refine (cmay_any (a, i) _).mono ?_
  rintro e W6 ⟨rfl, hk6⟩
  rw [HM.out]
  have hb6 := HB5.out.keep hk6 (fun h => h)
  have HB6 := Lib.hid hb6
  have HR6 : Hid (Rdr W6 B (t, 0)) := Lib.hid (Blk.keep HR5.out hk6 (fun h => h))
  have HK6 := Lib.hid (HK5.out.one_trans hk6.one)
  have t0 := hb6.cell 0
  have t1 := hb6.cell 1
  have u0 := hb6.frozen 0
  have u1 := hb6.frozen 1
  simp at t0 t1
  clear hk6 hb6 r0 r1 s0 s1 q0 q1 g0 g1
  go_wp2
  have hbf := idblk_set (b := a) (j := i) HB6.out
  have hkf := keep_id2 (w := W6) (g := w.heap.size) (.int .i64 a) (.int .i64 i)
  generalize (W6.setCell ⟨w.heap.size, 0, none⟩ (.int .i64 a)).setCell ⟨w.heap.size, 1, none⟩ (.int .i64 i) = WF at *
  have x0 := hbf.cell 0
  have x1 := hbf.cell 1
  simp at x0 x1
  refine ⟨rfl, .tuple #[idV (a, i), .int .i64 0], ?_, ⟨_, rfl, rfl, Blk.keep HR6.out hkf (fun e => HNo.out e.symm), HK6.out.trans (hkf.mono fun q _ e => .inr (by omega))⟩⟩
  unfold results
  go_simp
theorem eg_id1 : ∀ args w, (callFunc 106 args).run Tryz.prog w = .ok (.enter 106 args) w := enters_of Tryz.func106 (by kernel_rfl) rfl
set_option maxHeartbeats 2000000 in
theorem readID_ok (B : Nat) (s : Bs) (f : FuncId) (caps : Array Value) (p : ID) (st : WS) (w : World) (h : Rdr w B (s, 0)) (eg : ∀ args w, (callFunc f args).run Tryz.prog w = .ok (.enter f args) w) (hf : ∀ W, Keep (fun _ => False) w W → Calls Tryz.prog f caps W (ReadT B (fun v _ => v = idV p) 0 st W)) :
    Calls Tryz.prog 105 #[.pointer (some ⟨B, 0, none⟩), .func (.func f) #[] caps] w (ReadT B (fun v _ => v = idV p) 0 st w) := by
  obtain ⟨a, i⟩ := p
  obtain ⟨W1, hW1⟩ : ∃ W1, w.alloc (.cells #[.int .i64 0, .int .i64 0] 24) = W1 := ⟨_, rfl⟩
  have hbo : Blk W1 w.heap.size 24 #[.int .i64 0, .int .i64 0] := by rw [← hW1]; exact Blk.new _ _ _
  have hk1 : Keep (fun _ => False) w W1 := by rw [← hW1]; exact (Keep.refl _ w).alloc _
  have c1 := (Blk.keep h hk1 (fun h => h)).cell 1
  simp at c1
  have hBl := Blk.lt h
  have HNo := Lib.hid (show ¬ B = w.heap.size by omega)
  have HBo := Lib.hid hbo
  have HF := Lib.hid (hf W1 hk1)
  have HK := Lib.hid hk1
  clear h hf hbo hk1 hBl
  go_enter Tryz.func105, Tryz.ntmps105
  go_wp2_with fail
  refine HF.out.mono ?_
  rintro e W2 ⟨v, rfl, rfl, hr, hk2⟩
  obtain ⟨W3, hW3⟩ : ∃ W3, W2.alloc (.cells #[.int .i64 a, .int .i64 i] 24) = W3 := ⟨_, rfl⟩
  have hbx : Blk W3 W2.heap.size 24 #[.int .i64 a, .int .i64 i] := by rw [← hW3]; exact Blk.new _ _ _
  have hk3 : Keep (fun _ => False) W2 W3 := by rw [← hW3]; exact (Keep.refl _ W2).alloc _
  have hb3 := (HBo.out.keep hk2 HNo.out).keep hk3 (fun h => h)
  have HB3 := Lib.hid hb3
  have HR3 : Hid (Rdr W3 B st) := Lib.hid (Blk.keep hr hk3 (fun h => h))
  have HK3 := Lib.hid ((HK.out.one.one_trans hk2).one_trans hk3.one)
  have x0 := hbx.cell 0
  have x1 := hbx.cell 1
  have y0 := hb3.cell 0
  have y1 := hb3.cell 1
  have z0 := hb3.frozen 0
  have z1 := hb3.frozen 1
  simp at x0 x1 y0 y1
  clear hr hk2 hbx hk3 hb3 c1
  go_wp2
  have hbf := idblk_set (b := a) (j := i) HB3.out
  have hkf := keep_id2 (w := W3) (g := w.heap.size) (.int .i64 a) (.int .i64 i)
  generalize (W3.setCell ⟨w.heap.size, 0, none⟩ (.int .i64 a)).setCell ⟨w.heap.size, 1, none⟩ (.int .i64 i) = WF at *
  have r0 := hbf.cell 0
  have r1 := hbf.cell 1
  simp at r0 r1
  refine ⟨rfl, .tuple #[idV (a, i), .int .i64 0], ?_, ⟨_, rfl, rfl, Blk.keep HR3.out hkf (fun e => HNo.out e.symm), HK3.out.trans (hkf.mono fun q _ e => .inr (by omega))⟩⟩
  unfold results
  go_simp
set_option maxHeartbeats 2000000 in
theorem rID_any (B : Nat) (p : ID) (hp : mayID p = true) (t : Bs) (ht : t.length ≤ 1000000 - 14) (w : World) (h : Rdr w B (idB p ++ t, 0)) :
    Calls Tryz.prog 97 #[.pointer (some ⟨B, 0, none⟩)] w (ReadT B (fun v _ => v = idV p) 0 (t, 0) w) := by
  obtain ⟨a, i⟩ := p
  obtain ⟨W0, hW0⟩ : ∃ W0, w.alloc (.cells #[.pointer (some ⟨B, 0, none⟩)] 70) = W0 := ⟨_, rfl⟩
  have hb : Blk W0 w.heap.size 70 #[.pointer (some ⟨B, 0, none⟩)] := by rw [← hW0]; exact Blk.new _ _ _
  have hk0 : Keep (fun _ => False) w W0 := by rw [← hW0]; exact (Keep.refl _ w).alloc _
  obtain ⟨W1, hW1⟩ : ∃ W1, W0.alloc (.cells #[.int .i64 0, .int .i64 0] 24) = W1 := ⟨_, rfl⟩
  have hbo : Blk W1 W0.heap.size 24 #[.int .i64 0, .int .i64 0] := by rw [← hW1]; exact Blk.new _ _ _
  have hk1 : Keep (fun _ => False) W0 W1 := by rw [← hW1]; exact (Keep.refl _ W0).alloc _
  have c0 := (hb.keep hk1 (fun h => h)).cell 0
  simp at c0
  have hBl := Blk.lt h
  have HS0 := Lib.hid (show W0.heap.size = w.heap.size + 1 by rw [← hW0]; simp)
  have HNo := Lib.hid (show ¬ B = W0.heap.size by have := HS0.out; omega)
  have HBo := Lib.hid hbo
  have HK := Lib.hid (keep0_trans _ _ _ hk0 hk1)
  have hr1 : Rdr W1 B (idB (a, i) ++ t, 0) := Blk.keep h (keep0_trans _ _ _ hk0 hk1) (fun h => h)
  have HCall := Lib.hid (readID_ok B (idB (a, i) ++ t) _ #[.pointer (some ⟨w.heap.size, 0, none⟩)] (a, i) (t, 0) W1 hr1 eg_id1 (fun W hW => rid1_any _ B (a, i) hp t ht W (hW.cell c0 (fun h => h)) (Blk.keep hr1 hW (fun h => h))))
  clear hb hk0 hbo hk1 hBl hr1 h hp ht
  go_enter Tryz.func97, Tryz.ntmps97
  go_wp2_with fail
  refine HCall.out.mono ?_
  rintro e W2 ⟨v, rfl, rfl, hr, hk2⟩
  have hb2 := HBo.out.keep hk2 HNo.out
  have HB2 := Lib.hid hb2
  have HR2 := Lib.hid hr
  have HK2 := Lib.hid (HK.out.one.one_trans hk2)
  have y0 := hb2.cell 0
  have y1 := hb2.cell 1
  have z0 := hb2.frozen 0
  have z1 := hb2.frozen 1
  simp at y0 y1
  clear hr hk2 hb2 c0
  go_wp2
  have hbf := idblk_set (b := a) (j := i) HB2.out
  have hkf := keep_id2 (w := W2) (g := W0.heap.size) (.int .i64 a) (.int .i64 i)
  generalize (W2.setCell ⟨W0.heap.size, 0, none⟩ (.int .i64 a)).setCell ⟨W0.heap.size, 1, none⟩ (.int .i64 i) = WF at *
  have r0 := hbf.cell 0
  have r1 := hbf.cell 1
  simp at r0 r1
  refine ⟨rfl, .tuple #[idV (a, i), .int .i64 0], ?_, ⟨_, rfl, rfl, Blk.keep HR2.out hkf (fun e => HNo.out e.symm), HK2.out.trans (hkf.mono fun q _ e => .inr (by have := HS0.out; omega))⟩⟩
  unfold results
  go_simp
end Go.Proofs.YtgoldgamjogadaaGreat
