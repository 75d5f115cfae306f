/-
  coveyref11.Views, Same, at one model.
  What was written is read again: plain.
  The statement's helpers: of, back.
  coveylaw11: of.
  coveylaw11.works.
  Bytes that are bent so that they are others are no frame: plain.
  coveylaw11.large.
  The statement FrameBent.
  A frame that came in, opened.
  append to a slice without room: new memory alone.
-/
import Derived.Test.YtgoldgamjogadaaGreatMgN13
import Derived.ProofKit
import Derived.OpenShut
import Derived.ChangeArms
import Derived.Lib.SmallJoins
import Derived.Deep.SlicePairs
import Derived.SizedLaws
import Derived.Test.YtgoldgamjogadaaGreatMgN1
namespace Go.Proofs.YtgoldgamjogadaaGreat
open Go.RowKit Go
set_option maxRecDepth 100000
attribute [local irreducible] kAll
attribute [local go_sem] kQuiet kQuietUpon

set_option maxHeartbeats 4000000 in
theorem views_same (m f r c s m2 f2 r2 c2 s2 : Value) (v : VwM) (w : World) (h1 : IsV w m f r c s v) (h2 : IsV w m2 f2 r2 c2 s2 v) (hfew : Few v) :
    Calls Tryz.prog 40 #[.agg #[m, f, r, c, s], .agg #[m2, f2, r2, c2, s2]] w (Tell (.bool true) w) := by
  have HV1 := Lib.hid h1
  have HV2 := Lib.hid h2
  have HFew := Lib.hid hfew
  obtain ⟨mem, fl, rows, clk, seen⟩ := v
  obtain ⟨⟨Am, nm, cm, rfl, hm⟩, ⟨Af, nf, cf, rfl, hf⟩, ⟨Ar, nr, cr, rfl, hr⟩, ⟨Ac, nc, cc, rfl, hc⟩, ⟨As, ns, cs, rfl, hs⟩, _⟩ := h1
  obtain ⟨⟨Bm, nm2, dm, rfl, hm2⟩, ⟨Bf, nf2, df, rfl, hf2⟩, ⟨Br, nr2, dr, rfl, hr2⟩, ⟨Bc, nc2, dc, rfl, hc2⟩, ⟨Bs, ns2, ds, rfl, hs2⟩, _⟩ := h2
  obtain ⟨n1, n2, n3, n4, n5, n6⟩ := hfew
  simp only at n1 n2 n3 n4 n5 n6 hm hf hr hc hs hm2 hf2 hr2 hc2 hs2
  obtain rfl : nm = nm2 := by rw [← hm.1, ← hm2.1]
  obtain rfl : nf = nf2 := by rw [← hf.1, ← hf2.1]
  obtain rfl : nr = nr2 := by rw [← hr.1, ← hr2.1]
  obtain rfl : nc = nc2 := by rw [← hc.1, ← hc2.1]
  obtain rfl : ns = ns2 := by rw [← hs.1, ← hs2.1]
  rw [hm.1] at n1
  rw [hf.1] at n2
  rw [hr.1] at n3
  rw [hc.1] at n4
  rw [hs.1] at n5
  have HM := Lib.hid hm
  have HM2 := Lib.hid hm2
  have HF := Lib.hid hf
  have HF2 := Lib.hid hf2
  have HR := Lib.hid hr
  have HR2 := Lib.hid hr2
  have HC := Lib.hid hc
  have HC2 := Lib.hid hc2
  have HS := Lib.hid hs
  have HS2 := Lib.hid hs2
  have HNo := Lib.hid n6
  obtain ⟨W0, hW0⟩ : ∃ V, w.alloc (.cells #[.slice Am nm cm, .slice Af nf cf, .slice Ar nr cr, .slice Ac nc cc, .slice As ns cs] 33) = V := ⟨_, rfl⟩
  have hbx : Blk W0 w.heap.size 33 #[.slice Am nm cm, .slice Af nf cf, .slice Ar nr cr, .slice Ac nc cc, .slice As ns cs] := by rw [← hW0]; exact Blk.new _ _ _
  have hk0 : Keep (fun _ => False) w W0 := by rw [← hW0]; exact (Keep.refl _ w).alloc _
  obtain ⟨W1, hW1⟩ : ∃ V, W0.alloc (.cells #[.slice Bm nm dm, .slice Bf nf df, .slice Br nr dr, .slice Bc nc dc, .slice Bs ns ds] 33) = V := ⟨_, rfl⟩
  have hby : Blk W1 W0.heap.size 33 #[.slice Bm nm dm, .slice Bf nf df, .slice Br nr dr, .slice Bc nc dc, .slice Bs ns ds] := by rw [← hW1]; exact Blk.new _ _ _
  have hk1 : Keep (fun _ => False) W0 W1 := by rw [← hW1]; exact (Keep.refl _ W0).alloc _
  have hkk := keep0_trans _ _ _ hk0 hk1
  have BX := Lib.hid (hbx.keep hk1 (fun h => h))
  have BY := Lib.hid hby
  have KK := Lib.hid hkk
  clear hbx hk0 hby hk1 hkk hm hf hr hc hs hm2 hf2 hr2 hc2 hs2 n6
  go_enter Tryz.func40, Tryz.ntmps40
  have x0 := BX.out.cell 0
  have y0 := BY.out.cell 0
  simp at x0 y0
  go_wp2_with fail
  refine (same_mems Am Bm nm nm cm dm mem mem _ (HM.out.keep0 KK.out) (HM2.out.keep0 KK.out) (by omega) (by omega)).mono ?_
  rintro e W ⟨rfl, hk⟩
  rw [decide_eq_true rfl]
  have BX := Lib.hid (BX.out.keep hk (fun h => h))
  have BY := Lib.hid (BY.out.keep hk (fun h => h))
  have KK := Lib.hid (keep0_trans _ _ _ KK.out hk)
  clear hk
  clear x0 y0
  have x1 := BX.out.cell 1
  have y1 := BY.out.cell 1
  simp at x1 y1
  go_wp2_with fail
  refine (same_ids Af Bf nf nf cf df fl fl _ (HF.out.keep0 KK.out) (HF2.out.keep0 KK.out) (by omega) (by omega)).mono ?_
  rintro e W ⟨rfl, hk⟩
  rw [decide_eq_true rfl]
  have BX := Lib.hid (BX.out.keep hk (fun h => h))
  have BY := Lib.hid (BY.out.keep hk (fun h => h))
  have KK := Lib.hid (keep0_trans _ _ _ KK.out hk)
  clear hk
  clear x1 y1
  have x3 := BX.out.cell 3
  have y3 := BY.out.cell 3
  simp at x3 y3
  go_wp2_with fail
  refine (same_ticks Ac Bc nc nc cc dc clk clk _ (HC.out.keep0 KK.out) (HC2.out.keep0 KK.out) (by omega) (by omega)).mono ?_
  rintro e W ⟨rfl, hk⟩
  rw [decide_eq_true rfl]
  have BX := Lib.hid (BX.out.keep hk (fun h => h))
  have BY := Lib.hid (BY.out.keep hk (fun h => h))
  have KK := Lib.hid (keep0_trans _ _ _ KK.out hk)
  clear hk
  clear x3 y3
  have x4 := BX.out.cell 4
  have y4 := BY.out.cell 4
  simp at x4 y4
  go_wp2_with fail
  refine (same_ids As Bs ns ns cs ds seen seen _ (HS.out.keep0 KK.out) (HS2.out.keep0 KK.out) (by omega) (by omega)).mono ?_
  rintro e W ⟨rfl, hk⟩
  rw [decide_eq_true rfl]
  have BX := Lib.hid (BX.out.keep hk (fun h => h))
  have BY := Lib.hid (BY.out.keep hk (fun h => h))
  have KK := Lib.hid (keep0_trans _ _ _ KK.out hk)
  clear hk
  clear x4 y4
  have x2 := BX.out.cell 2
  have y2 := BY.out.cell 2
  simp at x2 y2
  go_wp2
  go_loopw [5] (fun iv wr => ∃ k : Nat, k ≤ nr ∧ iv = .int .i64 (k : Int) ∧ Hid (Keep (fun _ => False) w wr) ∧ Hid (Blk wr w.heap.size 33 #[.slice Am nm cm, .slice Af nf cf, .slice Ar nr cr, .slice Ac nc cc, .slice As ns cs]) ∧ Hid (Blk wr W0.heap.size 33 #[.slice Bm nm dm, .slice Bf nf df, .slice Br nr dr, .slice Bc nc dc, .slice Bs ns ds])) (fun iv _ => nr - (intOf iv).toNat)
  case atStart => exact ⟨0, by omega, rfl, KK, BX, BY⟩
  case round =>
    obtain ⟨k, hk, rfl, KK, BX, BY⟩ := hrel
    have x2 := BX.out.cell 2
    have y2 := BY.out.cell 2
    simp at x2 y2
    by_cases hlt : k < nr
    · obtain ⟨g, off, v0, rfl, p0, p1, p2, p3, ⟨An, nn, cn, rfl, hn0⟩⟩ := (HR.out.keep0 KK.out).2 k hlt
      obtain ⟨g', off', v1, rfl, q0, q1, q2, q3, ⟨Bn, mm, dn, rfl, hn1⟩⟩ := (HR2.out.keep0 KK.out).2 k hlt
      obtain rfl : nn = mm := by rw [← hn0.1, ← hn1.1]
      have HN := Lib.hid hn0
      have HN1 := Lib.hid hn1
      have hkl : k < rows.length := by have := HR.out.1; omega
      have HNB := Lib.hid (show nn ≤ 10000 by rw [← hn0.1]; exact HNo.out _ (by simp [List.getD, hkl]))
      clear hn0 hn1 hkl
      generalize rows.getD k row0 = x at *
      obtain ⟨⟨a, i⟩, v, no⟩ := x
      simp only at p0 p1 p2 p3 q0 q1 q2 q3 HN HN1
      have hkI : (k : Int) < (nr : Int) := by omega
      have hkJ : (0 : Int) ≤ (k : Int) := by omega
      have e2 : IntKind.i64.wrap ((k : Int) + 1) = (k : Int) + 1 := IntWalk.i64_in _ (by omega)
      have G := gID
      have E1 : ∀ W, (binOp .neq 24 (idV (a, i)) (idV (a, i))).run Tryz.prog W = .ok (.bool false) W := fun W => by simpa using neq_ID (a, i) (a, i) W
      go_wp2_with fail
      refine wp_region_krip (Keep (fun _ => False)) (Keep.refl _) keep0_trans 44 (by kernel_rfl) (by kernel_rfl) (Ts := [none, some (.inl (.slice (some ⟨g, off, none⟩) nr cr)), none, none, none, some (.inl (idV (a, i))), none, some (.inl (.slice (some ⟨g', off', none⟩) nr dr)), none, none, none, some (.inl (idV (a, i))), none, none, none, some (.inl (.slice (some ⟨g, off, none⟩) nr cr)), none, none, none, some (.inl (.int .i64 v)), none, some (.inl (.slice (some ⟨g', off', none⟩) nr dr)), none, none, none, some (.inl (.int .i64 v)), none, none, none, none, some (.inl (.slice (some ⟨g, off, none⟩) nr cr)), none, none, none, some (.inl (.slice An nn cn)), none, some (.inl (.slice (some ⟨g', off', none⟩) nr dr)), none, none, none, some (.inl (.slice Bn nn dn)), some (.inl (.bool true)), none, none]) ?_
      simp only [List.take, List.drop]
      refine kAll_p (fun K hK => ?_)
      go_simp
      generalize hZ : (Act.mk _ _) = Z
      refine hK Z ?_
      subst hZ
      clear hK K
      refine kAll_dn _ (fun W hW hF => kStep_of fun K Q hK => ?_) (fun K hK => ?_)
      · have c0 := (BX.out.drew.keep hW (fun h => h)).cell 2
        simp at c0
        go_simp
        exact hK _ _ (Keep.refl _ _) rfl
      go_simp
      generalize hZ : (Act.mk _ _) = Z
      refine hK Z ?_
      subst hZ
      clear hK K
      refine kAll_p (fun K hK => ?_)
      go_simp
      generalize hZ : (Act.mk _ _) = Z
      refine hK Z ?_
      subst hZ
      clear hK K
      refine kAll_p (fun K hK => ?_)
      go_simp
      generalize hZ : (Act.mk _ _) = Z
      refine hK Z ?_
      subst hZ
      clear hK K
      refine kAll_p (fun K hK => ?_)
      go_simp
      generalize hZ : (Act.mk _ _) = Z
      refine hK Z ?_
      subst hZ
      clear hK K
      refine kAll_dn _ (fun W hW hF => kStep_of fun K Q hK => ?_) (fun K hK => ?_)
      · have c0 := (keepD (Keep.refl _ _) hW).cell p0 (fun h => h)
        have c1 := (keepD (Keep.refl _ _) hW).cell p1 (fun h => h)
        go_simp
        exact hK _ _ (Keep.refl _ _) rfl
      go_simp
      generalize hZ : (Act.mk _ _) = Z
      refine hK Z ?_
      subst hZ
      clear hK K
      refine kAll_p (fun K hK => ?_)
      go_simp
      generalize hZ : (Act.mk _ _) = Z
      refine hK Z ?_
      subst hZ
      clear hK K
      refine kAll_dn _ (fun W hW hF => kStep_of fun K Q hK => ?_) (fun K hK => ?_)
      · have c0 := (BY.out.drew.keep hW (fun h => h)).cell 2
        simp at c0
        go_simp
        exact hK _ _ (Keep.refl _ _) rfl
      go_simp
      generalize hZ : (Act.mk _ _) = Z
      refine hK Z ?_
      subst hZ
      clear hK K
      refine kAll_p (fun K hK => ?_)
      go_simp
      generalize hZ : (Act.mk _ _) = Z
      refine hK Z ?_
      subst hZ
      clear hK K
      refine kAll_p (fun K hK => ?_)
      go_simp
      generalize hZ : (Act.mk _ _) = Z
      refine hK Z ?_
      subst hZ
      clear hK K
      refine kAll_p (fun K hK => ?_)
      go_simp
      generalize hZ : (Act.mk _ _) = Z
      refine hK Z ?_
      subst hZ
      clear hK K
      refine kAll_dn _ (fun W hW hF => kStep_of fun K Q hK => ?_) (fun K hK => ?_)
      · have c0 := (keepD (Keep.refl _ _) hW).cell q0 (fun h => h)
        have c1 := (keepD (Keep.refl _ _) hW).cell q1 (fun h => h)
        go_simp
        exact hK _ _ (Keep.refl _ _) rfl
      go_simp
      generalize hZ : (Act.mk _ _) = Z
      refine hK Z ?_
      subst hZ
      clear hK K
      refine kAll_p (fun K hK => ?_)
      go_simp
      generalize hZ : (Act.mk _ _) = Z
      refine hK Z ?_
      subst hZ
      clear hK K
      refine kAll_p (fun K hK => ?_)
      go_simp
      generalize hZ : (Act.mk _ _) = Z
      refine hK Z ?_
      subst hZ
      clear hK K
      refine kAll_pw (by kernel_rfl) (fun K hK => ?_)
      go_simp
      generalize hZ : (Act.mk _ _) = Z
      refine hK Z ?_
      subst hZ
      clear hK K
      refine kAll_dn _ (fun W hW hF => kStep_w (by kernel_rfl) fun K Q hK => ?_) (fun K hK => ?_)
      · have c0 := (BX.out.drew.keep hW (fun h => h)).cell 2
        simp at c0
        go_simp
        exact hK _ _ (Keep.refl _ _) rfl
      go_simp
      generalize hZ : (Act.mk _ _) = Z
      refine hK Z ?_
      subst hZ
      clear hK K
      refine kAll_pw (by kernel_rfl) (fun K hK => ?_)
      go_simp
      generalize hZ : (Act.mk _ _) = Z
      refine hK Z ?_
      subst hZ
      clear hK K
      refine kAll_pw (by kernel_rfl) (fun K hK => ?_)
      go_simp
      generalize hZ : (Act.mk _ _) = Z
      refine hK Z ?_
      subst hZ
      clear hK K
      refine kAll_pw (by kernel_rfl) (fun K hK => ?_)
      go_simp
      generalize hZ : (Act.mk _ _) = Z
      refine hK Z ?_
      subst hZ
      clear hK K
      refine kAll_dn _ (fun W hW hF => kStep_w (by kernel_rfl) fun K Q hK => ?_) (fun K hK => ?_)
      · have c2 := (keepD (Keep.refl _ _) hW).cell p2 (fun h => h)
        go_simp
        exact hK _ _ (Keep.refl _ _) rfl
      go_simp
      generalize hZ : (Act.mk _ _) = Z
      refine hK Z ?_
      subst hZ
      clear hK K
      refine kAll_pw (by kernel_rfl) (fun K hK => ?_)
      go_simp
      generalize hZ : (Act.mk _ _) = Z
      refine hK Z ?_
      subst hZ
      clear hK K
      refine kAll_dn _ (fun W hW hF => kStep_w (by kernel_rfl) fun K Q hK => ?_) (fun K hK => ?_)
      · have c0 := (BY.out.drew.keep hW (fun h => h)).cell 2
        simp at c0
        go_simp
        exact hK _ _ (Keep.refl _ _) rfl
      go_simp
      generalize hZ : (Act.mk _ _) = Z
      refine hK Z ?_
      subst hZ
      clear hK K
      refine kAll_pw (by kernel_rfl) (fun K hK => ?_)
      go_simp
      generalize hZ : (Act.mk _ _) = Z
      refine hK Z ?_
      subst hZ
      clear hK K
      refine kAll_pw (by kernel_rfl) (fun K hK => ?_)
      go_simp
      generalize hZ : (Act.mk _ _) = Z
      refine hK Z ?_
      subst hZ
      clear hK K
      refine kAll_pw (by kernel_rfl) (fun K hK => ?_)
      go_simp
      generalize hZ : (Act.mk _ _) = Z
      refine hK Z ?_
      subst hZ
      clear hK K
      refine kAll_dn _ (fun W hW hF => kStep_w (by kernel_rfl) fun K Q hK => ?_) (fun K hK => ?_)
      · have c2 := (keepD (Keep.refl _ _) hW).cell q2 (fun h => h)
        go_simp
        exact hK _ _ (Keep.refl _ _) rfl
      go_simp
      generalize hZ : (Act.mk _ _) = Z
      refine hK Z ?_
      subst hZ
      clear hK K
      refine kAll_pw (by kernel_rfl) (fun K hK => ?_)
      go_simp
      generalize hZ : (Act.mk _ _) = Z
      refine hK Z ?_
      subst hZ
      clear hK K
      refine kAll_p (fun K hK => ?_)
      go_simp
      generalize hZ : (Act.mk _ _) = Z
      refine hK Z ?_
      subst hZ
      clear hK K
      refine kAll_p (fun K hK => ?_)
      go_simp
      generalize hZ : (Act.mk _ _) = Z
      refine hK Z ?_
      subst hZ
      clear hK K
      refine kAll_pw (by kernel_rfl) (fun K hK => ?_)
      go_simp
      generalize hZ : (Act.mk _ _) = Z
      refine hK Z ?_
      subst hZ
      clear hK K
      refine kAll_dn _ (fun W hW hF => kStep_w (by kernel_rfl) fun K Q hK => ?_) (fun K hK => ?_)
      · have c0 := (BX.out.drew.keep hW (fun h => h)).cell 2
        simp at c0
        go_simp
        exact hK _ _ (Keep.refl _ _) rfl
      go_simp
      generalize hZ : (Act.mk _ _) = Z
      refine hK Z ?_
      subst hZ
      clear hK K
      refine kAll_pw (by kernel_rfl) (fun K hK => ?_)
      go_simp
      generalize hZ : (Act.mk _ _) = Z
      refine hK Z ?_
      subst hZ
      clear hK K
      refine kAll_pw (by kernel_rfl) (fun K hK => ?_)
      go_simp
      generalize hZ : (Act.mk _ _) = Z
      refine hK Z ?_
      subst hZ
      clear hK K
      refine kAll_pw (by kernel_rfl) (fun K hK => ?_)
      go_simp
      generalize hZ : (Act.mk _ _) = Z
      refine hK Z ?_
      subst hZ
      clear hK K
      refine kAll_dn _ (fun W hW hF => kStep_w (by kernel_rfl) fun K Q hK => ?_) (fun K hK => ?_)
      · have c3 := (keepD (Keep.refl _ _) hW).cell p3 (fun h => h)
        go_simp
        exact hK _ _ (Keep.refl _ _) rfl
      go_simp
      generalize hZ : (Act.mk _ _) = Z
      refine hK Z ?_
      subst hZ
      clear hK K
      refine kAll_pw (by kernel_rfl) (fun K hK => ?_)
      go_simp
      generalize hZ : (Act.mk _ _) = Z
      refine hK Z ?_
      subst hZ
      clear hK K
      refine kAll_dn _ (fun W hW hF => kStep_w (by kernel_rfl) fun K Q hK => ?_) (fun K hK => ?_)
      · have c0 := (BY.out.drew.keep hW (fun h => h)).cell 2
        simp at c0
        go_simp
        exact hK _ _ (Keep.refl _ _) rfl
      go_simp
      generalize hZ : (Act.mk _ _) = Z
      refine hK Z ?_
      subst hZ
      clear hK K
      refine kAll_pw (by kernel_rfl) (fun K hK => ?_)
      go_simp
      generalize hZ : (Act.mk _ _) = Z
      refine hK Z ?_
      subst hZ
      clear hK K
      refine kAll_pw (by kernel_rfl) (fun K hK => ?_)
      go_simp
      generalize hZ : (Act.mk _ _) = Z
      refine hK Z ?_
      subst hZ
      clear hK K
      refine kAll_pw (by kernel_rfl) (fun K hK => ?_)
      go_simp
      generalize hZ : (Act.mk _ _) = Z
      refine hK Z ?_
      subst hZ
      clear hK K
      refine kAll_dn _ (fun W hW hF => kStep_w (by kernel_rfl) fun K Q hK => ?_) (fun K hK => ?_)
      · have c3 := (keepD (Keep.refl _ _) hW).cell q3 (fun h => h)
        go_simp
        exact hK _ _ (Keep.refl _ _) rfl
      go_simp
      generalize hZ : (Act.mk _ _) = Z
      refine hK Z ?_
      subst hZ
      clear hK K
      refine kAll_dn _ (fun W hW hF => kStep_w (by kernel_rfl) fun K Q hK => ?_) (fun K hK => ?_)
      · go_simp
        refine (same_ids An Bn nn nn cn dn no no W (HN.out.keep0 (keepD (Keep.refl _ _) hW)) (HN1.out.keep0 (keepD (Keep.refl _ _) hW)) (by have := HNB.out; omega) (by have := HNB.out; omega)).mono ?_
        rintro e w' ⟨rfl, hk⟩
        rw [decide_eq_true rfl]
        exact hK _ _ hk rfl
      go_simp
      generalize hZ : (Act.mk _ _) = Z
      refine hK Z ?_
      subst hZ
      clear hK K
      refine kAll_pw (by kernel_rfl) (fun K hK => ?_)
      go_simp
      generalize hZ : (Act.mk _ _) = Z
      refine hK Z ?_
      subst hZ
      clear hK K
      refine kAll_p (fun K hK => ?_)
      go_simp
      generalize hZ : (Act.mk _ _) = Z
      refine hK Z ?_
      subst hZ
      clear hK K
      refine kAll_nil (fun W hW hF => ?_)
      clear hF
      have KK2 := Lib.hid (keep0_trans _ _ _ KK.out (keepD (Keep.refl _ _) hW))
      have BX2 := Lib.hid (BX.out.drew.keep hW (fun h => h))
      have BY2 := Lib.hid (BY.out.drew.keep hW (fun h => h))
      clear hW x2 y2
      go_wp2
      go_roundw
      case rel => exact ⟨k + 1, by omega, by go_num, KK2, BX2, BY2⟩
      case measure => simp [intOf]; omega
    · obtain rfl : k = nr := by omega
      go_wp2
      go_ret
      exact ⟨rfl, KK.out⟩
set_option maxHeartbeats 4000000 in
theorem ref_same (m l r c s m2 l2 r2 c2 s2 : Value) (f : FrM) (w : World) (h1 : IsV w m l r c s f.view) (h2 : IsV w m2 l2 r2 c2 s2 f.view) (hfew : Few f.view) :
    Calls Tryz.prog 21 #[frV f m l r c s, frV f m2 l2 r2 c2 s2] w (Tell (.bool true) w) := by
  have HV1 := Lib.hid h1
  have HV2 := Lib.hid h2
  have HFew := Lib.hid hfew
  obtain ⟨kind, ⟨fa, fi⟩, ⟨ta, ti⟩, nn, tok, ⟨ba, bi⟩, v⟩ := f
  simp only at h1 h2 hfew HV1 HV2 HFew
  obtain ⟨mem, fl, rows, clk, seen⟩ := v
  obtain ⟨⟨Am, nm, cm, rfl, hm⟩, ⟨Af, nf, cf, rfl, hf⟩, ⟨Ar, nr, cr, rfl, hr⟩, ⟨Ac, nc, cc, rfl, hc⟩, ⟨As, ns, cs, rfl, hs⟩, _⟩ := h1
  obtain ⟨⟨Bm, nm2, dm, rfl, hm2⟩, ⟨Bf, nf2, df, rfl, hf2⟩, ⟨Br, nr2, dr, rfl, hr2⟩, ⟨Bc, nc2, dc, rfl, hc2⟩, ⟨Bs, ns2, ds, rfl, hs2⟩, _⟩ := h2
  obtain ⟨n1, n2, n3, n4, n5, n6⟩ := hfew
  simp only at n1 n2 n3 n4 n5 n6 hm hf hr hc hs hm2 hf2 hr2 hc2 hs2
  obtain rfl : nm = nm2 := by rw [← hm.1, ← hm2.1]
  obtain rfl : nf = nf2 := by rw [← hf.1, ← hf2.1]
  obtain rfl : nr = nr2 := by rw [← hr.1, ← hr2.1]
  obtain rfl : nc = nc2 := by rw [← hc.1, ← hc2.1]
  obtain rfl : ns = ns2 := by rw [← hs.1, ← hs2.1]
  rw [hm.1] at n1
  rw [hf.1] at n2
  rw [hr.1] at n3
  rw [hc.1] at n4
  rw [hs.1] at n5
  obtain ⟨W0, hW0⟩ : ∃ V, w.alloc (.cells #[.int .u8 (kind : Int), .int .i64 fa, .int .i64 fi, .int .i64 ta, .int .i64 ti, .int .i64 nn, .int .i64 tok, .int .i64 ba, .int .i64 bi, .slice Am nm cm, .slice Af nf cf, .slice Ar nr cr, .slice Ac nc cc, .slice As ns cs] 39) = V := ⟨_, rfl⟩
  have hbx : Blk W0 w.heap.size 39 #[.int .u8 (kind : Int), .int .i64 fa, .int .i64 fi, .int .i64 ta, .int .i64 ti, .int .i64 nn, .int .i64 tok, .int .i64 ba, .int .i64 bi, .slice Am nm cm, .slice Af nf cf, .slice Ar nr cr, .slice Ac nc cc, .slice As ns cs] := by rw [← hW0]; exact Blk.new _ _ _
  have hk0 : Keep (fun _ => False) w W0 := by rw [← hW0]; exact (Keep.refl _ w).alloc _
  obtain ⟨W1, hW1⟩ : ∃ V, W0.alloc (.cells #[.int .u8 (kind : Int), .int .i64 fa, .int .i64 fi, .int .i64 ta, .int .i64 ti, .int .i64 nn, .int .i64 tok, .int .i64 ba, .int .i64 bi, .slice Bm nm dm, .slice Bf nf df, .slice Br nr dr, .slice Bc nc dc, .slice Bs ns ds] 39) = V := ⟨_, rfl⟩
  have hby : Blk W1 W0.heap.size 39 #[.int .u8 (kind : Int), .int .i64 fa, .int .i64 fi, .int .i64 ta, .int .i64 ti, .int .i64 nn, .int .i64 tok, .int .i64 ba, .int .i64 bi, .slice Bm nm dm, .slice Bf nf df, .slice Br nr dr, .slice Bc nc dc, .slice Bs ns ds] := by rw [← hW1]; exact Blk.new _ _ _
  have hk1 : Keep (fun _ => False) W0 W1 := by rw [← hW1]; exact (Keep.refl _ W0).alloc _
  have hkk := keep0_trans _ _ _ hk0 hk1
  have BX := Lib.hid (hbx.keep hk1 (fun h => h))
  have BY := Lib.hid hby
  have KK := Lib.hid hkk
  have E1 : ∀ W, (binOp .eql 24 (idV (fa, fi)) (idV (fa, fi))).run Tryz.prog W = .ok (.bool true) W := fun W => by simpa using eql_ID (fa, fi) (fa, fi) W
  have E2 : ∀ W, (binOp .eql 24 (idV (ta, ti)) (idV (ta, ti))).run Tryz.prog W = .ok (.bool true) W := fun W => by simpa using eql_ID (ta, ti) (ta, ti) W
  have E3 : ∀ W, (binOp .eql 24 (idV (ba, bi)) (idV (ba, bi))).run Tryz.prog W = .ok (.bool true) W := fun W => by simpa using eql_ID (ba, bi) (ba, bi) W
  have G := gID
  clear hbx hk0 hby hk1 hkk hm hf hr hc hs hm2 hf2 hr2 hc2 hs2 n6
  go_enter Tryz.func21, Tryz.ntmps21
  have x0 := BX.out.cell 0
  have y0 := BY.out.cell 0
  have x1 := BX.out.cell 1
  have y1 := BY.out.cell 1
  have x2 := BX.out.cell 2
  have y2 := BY.out.cell 2
  have x3 := BX.out.cell 3
  have y3 := BY.out.cell 3
  have x4 := BX.out.cell 4
  have y4 := BY.out.cell 4
  have x5 := BX.out.cell 5
  have y5 := BY.out.cell 5
  have x6 := BX.out.cell 6
  have y6 := BY.out.cell 6
  have x7 := BX.out.cell 7
  have y7 := BY.out.cell 7
  have x8 := BX.out.cell 8
  have y8 := BY.out.cell 8
  have x9 := BX.out.cell 9
  have y9 := BY.out.cell 9
  have x10 := BX.out.cell 10
  have y10 := BY.out.cell 10
  have x11 := BX.out.cell 11
  have y11 := BY.out.cell 11
  have x12 := BX.out.cell 12
  have y12 := BY.out.cell 12
  have x13 := BX.out.cell 13
  have y13 := BY.out.cell 13
  simp at x0 y0 x1 y1 x2 y2 x3 y3 x4 y4 x5 y5 x6 y6 x7 y7 x8 y8 x9 y9 x10 y10 x11 y11 x12 y12 x13 y13
  go_wp2_with fail
  refine (views_same _ _ _ _ _ _ _ _ _ _ ⟨mem, fl, rows, clk, seen⟩ _ (HV1.out.keep0 KK.out) (HV2.out.keep0 KK.out) HFew.out).mono ?_
  rintro e W ⟨rfl, hk⟩
  have BX := Lib.hid (BX.out.keep hk (fun h => h))
  have BY := Lib.hid (BY.out.keep hk (fun h => h))
  have KK := Lib.hid (keep0_trans _ _ _ KK.out hk)
  clear hk
  clear x0 y0 x1 y1 x2 y2 x3 y3 x4 y4 x5 y5 x6 y6 x7 y7 x8 y8 x9 y9 x10 y10 x11 y11 x12 y12 x13 y13
  go_wp2
  go_ret
  exact ⟨rfl, KK.out⟩
end Go.Proofs.YtgoldgamjogadaaGreat

namespace Go.Proofs.YtgoldgamjogadaaGreat
open Go.RowKit Go

/-- what W writes, R reads -/
def WF (W : WS → WS) (R : WS → WS → Prop) : Prop := ∀ st, (W st).2 = 0 → st.2 = 0 ∧ ∃ e, (W st).1 = st.1 ++ e ∧ ∀ t, (e ++ t).length ≤ 100000 → R (e ++ t, 0) (t, 0)
/-- .. and it is a byte at least -/
def WR (W : WS → WS) (R : WS → WS → Prop) : Prop := ∀ st, (W st).2 = 0 → st.2 = 0 ∧ ∃ e, (W st).1 = st.1 ++ e ∧ e ≠ [] ∧ ∀ t, (e ++ t).length ≤ 100000 → R (e ++ t, 0) (t, 0)
theorem WR.wf {W : WS → WS} {R : WS → WS → Prop} (h : WR W R) : WF W R := fun st hs => by
  obtain ⟨h0, e, h1, _, h2⟩ := h st hs
  exact ⟨h0, e, h1, h2⟩
theorem WR.mono {W : WS → WS} {R R' : WS → WS → Prop} (h : WR W R) (hr : ∀ a b, R a b → R' a b) : WR W R' := fun st hs => by
  obtain ⟨h0, e, h1, h2, h3⟩ := h st hs
  exact ⟨h0, e, h1, h2, fun t ht => hr _ _ (h3 t ht)⟩
theorem WF.mono {W : WS → WS} {R R' : WS → WS → Prop} (h : WF W R) (hr : ∀ a b, R a b → R' a b) : WF W R' := fun st hs => by
  obtain ⟨h0, e, h1, h3⟩ := h st hs
  exact ⟨h0, e, h1, fun t ht => hr _ _ (h3 t ht)⟩
theorem WF.comp {W1 W2 : WS → WS} {R1 R2 : WS → WS → Prop} (h1 : WF W1 R1) (h2 : WF W2 R2) : WF (fun st => W2 (W1 st)) (fun a c => ∃ b, R1 a b ∧ R2 b c) := fun st hs => by
  obtain ⟨k0, e2, k1, k2⟩ := h2 _ hs
  obtain ⟨j0, e1, j1, j2⟩ := h1 st k0
  refine ⟨j0, e1 ++ e2, by rw [k1, j1, List.append_assoc], fun t ht => ⟨(e2 ++ t, 0), ?_, k2 t ?_⟩⟩
  · rw [List.append_assoc] at ht ⊢
    exact j2 _ ht
  · simp only [List.length_append] at ht ⊢; omega
theorem WR.comp {W1 W2 : WS → WS} {R1 R2 : WS → WS → Prop} (h1 : WR W1 R1) (h2 : WF W2 R2) : WR (fun st => W2 (W1 st)) (fun a c => ∃ b, R1 a b ∧ R2 b c) := fun st hs => by
  obtain ⟨k0, e2, k1, k2⟩ := h2 _ hs
  obtain ⟨j0, e1, j1, jn, j2⟩ := h1 st k0
  refine ⟨j0, e1 ++ e2, by rw [k1, j1, List.append_assoc], by simp [jn], fun t ht => ⟨(e2 ++ t, 0), ?_, k2 t ?_⟩⟩
  · rw [List.append_assoc] at ht ⊢
    exact j2 _ ht
  · simp only [List.length_append] at ht ⊢; omega
theorem putW_ok {st x : WS} (h : (putW st x).2 = 0) : st.2 = 0 ∧ putW st x = x := by
  unfold putW at h ⊢
  split at h
  · next h0 => exact ⟨h0, by rw [if_pos h0]⟩
  · next h0 => exact absurd h h0
theorem numF_ne : ∀ k n, numF k n ≠ []
  | 0, n => by simp [numF]
  | k + 1, n => by rw [numF]; split <;> simp
theorem numB_ne (n : Nat) : numB n ≠ [] := numF_ne 6 n
theorem wr_num (n : Int) : WR (fun st => numW st n) (fun a b => NumR a n 0 b) := fun st hs => by
  obtain ⟨h0, h1⟩ := putW_ok (st := st) (x := numS st.1 n) hs
  have h2 : (numS st.1 n).2 = 0 := by have := hs; simp only [numW] at this; rwa [h1] at this
  unfold numS at h2 h1
  split at h2
  · cases h2
  · next hr =>
    rw [if_neg hr] at h1
    refine ⟨h0, numB n.toNat, by show (putW st (numS st.1 n)).1 = _; unfold numS; rw [if_neg hr, h1], numB_ne _, fun t ht => numR_of (by omega) (by omega) ?_⟩
    rw [List.length_append] at ht; omega
theorem wr_id (p : ID) : WR (fun st => idW st p) (fun a b => IdR a p b) :=
  ((wr_num p.1).comp (wr_num p.2).wf).mono fun _ _ ⟨m, h1, h2⟩ => ⟨m, 0, 0, h1, h2⟩
theorem wr_ids (l : List ID) : WR (fun st => idsW st l) (fun a b => IdsR a l 0 b) := fun st hs => by
  obtain ⟨h0, h1⟩ := putW_ok (st := st) (x := idsS st.1 l) hs
  have h2 : (idsS st.1 l).2 = 0 := by have := hs; simp only [idsW] at this; rwa [h1] at this
  unfold idsS at h2 h1
  split at h2
  · cases h2
  · next h64 =>
    rw [if_neg h64] at h1
    split at h2
    · next hr =>
      rw [if_pos hr] at h1
      refine ⟨h0, idsB l, by show (putW st (idsS st.1 l)).1 = _; unfold idsS; rw [if_neg h64, if_pos hr, h1], by unfold idsB; simp [numB_ne], fun t ht => .inr ⟨t, hr, by omega, ?_, rfl, rfl, rfl⟩⟩
      rw [List.length_append] at ht; omega
    · cases h2
theorem wr_mem (x : Mem) (h0 : 0 ≤ x.st) (h1 : x.st ≤ 255) : WR (fun st => memW st x) (fun a b => MemR a x b) :=
  ((wr_id x.id).comp ((wr_num x.st).wf.comp (wr_num x.no).wf)).mono fun _ _ ⟨m1, k1, m2, k2, k3⟩ => ⟨m1, m2, 0, 0, k1, k2, k3, h0, h1⟩
theorem wr_row (x : RowM) : WR (fun st => rowW st x) (fun a b => RowR a x b) :=
  ((wr_id x.of).comp ((wr_num x.ver).wf.comp (wr_ids x.no).wf)).mono fun _ _ ⟨m1, k1, m2, k2, k3⟩ => ⟨m1, m2, 0, 0, k1, k2, k3⟩
theorem wr_tick (x : Tick) : WR (fun st => tickW st x) (fun a b => TickR a x b) :=
  ((wr_id x.1).comp (wr_num x.2).wf).mono fun _ _ ⟨m1, k1, k2⟩ => ⟨m1, 0, k1, k2⟩
theorem wf_fold {α : Type} (f : WS → α → WS) (R : WS → α → WS → Prop) : ∀ (l : List α), (∀ x ∈ l, WR (fun st => f st x) (fun a b => R a x b)) → WF (fun st => l.foldl f st) (fun a b => ChainR R a l b)
  | [], _ => fun st hs => ⟨hs, [], by simp, fun t _ => rfl⟩
  | x :: l, h => fun st hs => by
    obtain ⟨k0, e2, k1, k2⟩ := wf_fold f R l (fun y hy => h y (List.mem_cons_of_mem _ hy)) (f st x) hs
    obtain ⟨j0, e1, j1, jn, j2⟩ := h x (List.mem_cons_self ..) st k0
    refine ⟨j0, e1 ++ e2, by simp only [List.foldl_cons] at k1 ⊢; rw [k1, j1, List.append_assoc], fun t ht => ⟨(e2 ++ t, 0), ?_, ?_, k2 t ?_⟩⟩
    · rw [List.append_assoc] at ht ⊢
      exact j2 _ ht
    · have := List.length_pos_iff.2 jn
      simp only [List.length_append]; omega
    · simp only [List.length_append] at ht ⊢; omega
theorem wf_list {α : Type} (f : WS → α → WS) (R : WS → α → WS → Prop) (l : List α) (hl : l.length ≤ 10000) (h : ∀ x ∈ l, WR (fun st => f st x) (fun a b => R a x b)) : WR (fun st => l.foldl f (numsW st [(l.length : Int)])) (fun a b => ListR R a l b) :=
  ((wr_num (l.length : Int)).comp (wf_fold f R l h)).mono fun _ _ ⟨m, h1, h2⟩ => ⟨0, m, h1, h2, hl⟩
theorem wr_view (v : VwM) (hf : Few v) (hst : ∀ x ∈ v.mem, 0 ≤ x.st ∧ x.st < 256) : WR (fun st => viewW st v) (fun a b => ViewR a v b) := by
  have h1 := wf_list memW MemR v.mem hf.mem (fun x hx => wr_mem x (hst x hx).1 (by have := (hst x hx).2; omega))
  have h2 := wr_ids v.fl
  have h3 := wf_list rowW RowR v.rows hf.rows (fun x _ => wr_row x)
  have h4 := wf_list tickW TickR v.clk hf.clk (fun x _ => wr_tick x)
  have h5 := wr_ids v.seen
  exact (h1.comp (h2.wf.comp (h3.wf.comp (h4.wf.comp h5.wf)))).mono fun _ _ ⟨m1, k1, m2, k2, m3, k3, m4, k4, k5⟩ => ⟨m1, m2, m3, m4, 0, 0, k1, k2, k3, k4, k5⟩
/-- the bytes ahead of the sum, read again -/
theorem body_read (f : FrM) (hf : Few f.view) (hst : ∀ x ∈ f.view.mem, 0 ≤ x.st ∧ x.st < 256) (h : (bodyM f).2 = 0) (hl : (bodyM f).1.length ≤ 8192) :
    ∃ m1 m2 m3 m4 m5 m6, FrR ((bodyM f).1, 0) f m1 m2 m3 m4 m5 m6 ([], 0) := by
  have hw : WR (fun st => viewW (idW (numsW (idW (idW (numsW st [(f.kind : Int)]) f.frm) f.to) [f.n, f.tok]) f.abt) f.view) (fun a b => ∃ m1 m2 m3 m4 m5 m6, FrR a f m1 m2 m3 m4 m5 m6 b) :=
    ((wr_num (f.kind : Int)).comp ((wr_id f.frm).wf.comp ((wr_id f.to).wf.comp ((wr_num f.n).wf.comp ((wr_num f.tok).wf.comp ((wr_id f.abt).wf.comp (wr_view f.view hf hst).wf)))))).mono
      fun _ _ ⟨m1, k1, m2, k2, m3, k3, m4, k4, m5, k5, m6, k6, k7⟩ => ⟨m1, m2, m3, m4, m5, m6, ⟨0, k1⟩, k2, k3, ⟨0, k4⟩, ⟨0, k5⟩, k6, k7⟩
  obtain ⟨_, e, h1, _, h2⟩ := hw ([], 0) h
  have he : (bodyM f).1 = e := by
    have : (bodyM f).1 = [] ++ e := h1
    simpa using this
  have := h2 [] (by rw [← he]; simp; omega)
  rwa [List.append_nil, ← he] at this
end Go.Proofs.YtgoldgamjogadaaGreat

namespace Go.Proofs.YtgoldgamjogadaaGreat
open Go.RowKit Go
set_option maxRecDepth 100000
attribute [local go_sem] bs_toList bs_size bs_get

theorem le4_len (x : Nat) : (le4 x).length = 4 := rfl
/-- bytes that were encoded -/
theorem enc_ok {f : FrM} {s : Bs} (h : encM f = (s, 0)) : mayF f = true ∧ (bodyM f).2 = 0 ∧ s = (bodyM f).1 ++ le4 (sumM (bodyM f).1) ∧ s.length ≤ 8192 := by
  unfold encM at h
  split at h
  · next hm =>
    split at h
    · next h0 =>
      split at h
      · simp at h
      · next hl =>
        simp only [Prod.mk.injEq, and_true] at h
        subst h
        exact ⟨hm, h0, rfl, by omega⟩
    · next h0 =>
      simp only [Prod.mk.injEq] at h
      exact absurd h.2 h0
  · simp at h
/-- Decode of what was encoded -/
theorem dec_enc {f : FrM} {s : Bs} (h : encM f = (s, 0)) (hk : f.kind < 256) (hfew : Few f.view) (hst : ∀ x ∈ f.view.mem, 0 ≤ x.st ∧ x.st < 256) (w : World) :
    Calls Tryz.prog 13 #[.string (bs s)] w (fun e w' => (∃ m l r c s, e = .returned (.tuple #[frV f m l r c s, .int .i64 0]) ∧ NewV f.view w m l r c s w') ∧ Keep (fun _ => False) w w') := by
  obtain ⟨hm, h0, hs, hl⟩ := enc_ok h
  have hlen : s.length = (bodyM f).1.length + 4 := by rw [hs, List.length_append, le4_len]
  have htk : s.take (bodyM f).1.length = (bodyM f).1 := by rw [hs]; simp
  have hdr : s.drop (bodyM f).1.length = le4 (sumM (bodyM f).1) := by rw [hs]; simp
  obtain ⟨m1, m2, m3, m4, m5, m6, hr⟩ := body_read f hfew hst h0 (by omega)
  refine (dec_ok s (bodyM f).1.length hlen hl (by rw [hdr, htk]) f hk m1 m2 m3 m4 m5 m6 ([], 0) (by rw [htk]; exact hr) 0 (.inr ⟨rfl, rfl⟩) hfew hst w).mono ?_
  intro e w' hp
  unfold DecPost at hp
  rw [if_pos ⟨rfl, hm⟩] at hp
  exact hp
set_option maxHeartbeats 4000000 in
theorem back_any (f : FrM) (m l r c s : Value) (w : World) (hk : f.kind < 256) (h1 : IsV w m l r c s f.view) (hfew : Few f.view) {t : Bs} (he : encM f = (t, 0)) :
    Calls Tryz.prog 8 #[frV f m l r c s] w (Tell (.bool true) w) := by
  have HV := Lib.hid h1
  have HFew := Lib.hid hfew
  have HE := Lib.hid he
  have HSt := Lib.hid h1.stat
  obtain ⟨⟨Am, nm, cm, rfl, _⟩, ⟨Af, nf, cf, rfl, _⟩, ⟨Ar, nr, cr, rfl, _⟩, ⟨Ac, nc, cc, rfl, _⟩, ⟨As, ns, cs, rfl, _⟩, _⟩ := h1
  obtain ⟨W0, hW0⟩ : ∃ V, w.alloc (.cells #[.int .u8 (f.kind : Int), .int .i64 f.frm.1, .int .i64 f.frm.2, .int .i64 f.to.1, .int .i64 f.to.2, .int .i64 f.n, .int .i64 f.tok, .int .i64 f.abt.1, .int .i64 f.abt.2, .slice Am nm cm, .slice Af nf cf, .slice Ar nr cr, .slice Ac nc cc, .slice As ns cs] 39) = V := ⟨_, rfl⟩
  have hbx : Blk W0 w.heap.size 39 #[.int .u8 (f.kind : Int), .int .i64 f.frm.1, .int .i64 f.frm.2, .int .i64 f.to.1, .int .i64 f.to.2, .int .i64 f.n, .int .i64 f.tok, .int .i64 f.abt.1, .int .i64 f.abt.2, .slice Am nm cm, .slice Af nf cf, .slice Ar nr cr, .slice Ac nc cc, .slice As ns cs] := by rw [← hW0]; exact Blk.new _ _ _
  have hk0 : Keep (fun _ => False) w W0 := by rw [← hW0]; exact (Keep.refl _ w).alloc _
  have BX := Lib.hid hbx
  have KK := Lib.hid hk0
  have x0 := hbx.cell 0
  have x1 := hbx.cell 1
  have x2 := hbx.cell 2
  have x3 := hbx.cell 3
  have x4 := hbx.cell 4
  have x5 := hbx.cell 5
  have x6 := hbx.cell 6
  have x7 := hbx.cell 7
  have x8 := hbx.cell 8
  have x9 := hbx.cell 9
  have x10 := hbx.cell 10
  have x11 := hbx.cell 11
  have x12 := hbx.cell 12
  have x13 := hbx.cell 13
  simp at x0 x1 x2 x3 x4 x5 x6 x7 x8 x9 x10 x11 x12 x13
  clear hbx hk0 hfew he
  go_enter Tryz.func8, Tryz.ntmps8
  go_wp2_with fail
  refine (encode_any f _ _ _ _ _ _ hk (HV.out.keep0 KK.out) HFew.out).mono ?_
  rintro e W1 ⟨rfl, hk1⟩
  rw [HE.out]
  have BX := Lib.hid (BX.out.keep hk1 (fun h => h))
  have KK := Lib.hid (keep0_trans _ _ _ KK.out hk1)
  clear hk1
  clear x0 x1 x2 x3 x4 x5 x6 x7 x8 x9 x10 x11 x12 x13
  unfold pairV
  go_wp2_with fail
  refine (dec_enc HE.out hk HFew.out HSt.out _).mono ?_
  rintro e W2 ⟨⟨m2, l2, r2, c2, s2, rfl, hv⟩, hk2⟩
  obtain ⟨A1, k1, e1, rfl⟩ := hv.mem.sl
  obtain ⟨A2, k2, e2, rfl⟩ := hv.fl.sl
  obtain ⟨A3, k3, e3, rfl⟩ := hv.rows.sl
  obtain ⟨A4, k4, e4, rfl⟩ := hv.clk.sl
  obtain ⟨A5, k5, e5, rfl⟩ := hv.seen.sl
  obtain ⟨W3, hW3⟩ : ∃ V, W2.alloc (.cells #[.int .u8 (f.kind : Int), .int .i64 f.frm.1, .int .i64 f.frm.2, .int .i64 f.to.1, .int .i64 f.to.2, .int .i64 f.n, .int .i64 f.tok, .int .i64 f.abt.1, .int .i64 f.abt.2, .slice A1 k1 e1, .slice A2 k2 e2, .slice A3 k3 e3, .slice A4 k4 e4, .slice A5 k5 e5] 39) = V := ⟨_, rfl⟩
  have hby : Blk W3 W2.heap.size 39 #[.int .u8 (f.kind : Int), .int .i64 f.frm.1, .int .i64 f.frm.2, .int .i64 f.to.1, .int .i64 f.to.2, .int .i64 f.n, .int .i64 f.tok, .int .i64 f.abt.1, .int .i64 f.abt.2, .slice A1 k1 e1, .slice A2 k2 e2, .slice A3 k3 e3, .slice A4 k4 e4, .slice A5 k5 e5] := by rw [← hW3]; exact Blk.new _ _ _
  have hk3 : Keep (fun _ => False) W2 W3 := by rw [← hW3]; exact (Keep.refl _ W2).alloc _
  have BX := Lib.hid ((BX.out.keep hk2 (fun h => h)).keep hk3 (fun h => h))
  have BY := Lib.hid hby
  have HV2 := Lib.hid ((hv.keep hk3 (fun q hq e => e)).isV HSt.out)
  have KK := Lib.hid (keep0_trans _ _ _ KK.out (keep0_trans _ _ _ hk2 hk3))
  have x0 := BX.out.cell 0
  have x1 := BX.out.cell 1
  have x2 := BX.out.cell 2
  have x3 := BX.out.cell 3
  have x4 := BX.out.cell 4
  have x5 := BX.out.cell 5
  have x6 := BX.out.cell 6
  have x7 := BX.out.cell 7
  have x8 := BX.out.cell 8
  have x9 := BX.out.cell 9
  have x10 := BX.out.cell 10
  have x11 := BX.out.cell 11
  have x12 := BX.out.cell 12
  have x13 := BX.out.cell 13
  simp at x0 x1 x2 x3 x4 x5 x6 x7 x8 x9 x10 x11 x12 x13
  have y0 := BY.out.cell 0
  have y1 := BY.out.cell 1
  have y2 := BY.out.cell 2
  have y3 := BY.out.cell 3
  have y4 := BY.out.cell 4
  have y5 := BY.out.cell 5
  have y6 := BY.out.cell 6
  have y7 := BY.out.cell 7
  have y8 := BY.out.cell 8
  have y9 := BY.out.cell 9
  have y10 := BY.out.cell 10
  have y11 := BY.out.cell 11
  have y12 := BY.out.cell 12
  have y13 := BY.out.cell 13
  simp at y0 y1 y2 y3 y4 y5 y6 y7 y8 y9 y10 y11 y12 y13
  clear hby hk3 hk2 hv
  go_wp2_with fail
  refine (ref_same _ _ _ _ _ _ _ _ _ _ f _ (HV.out.keep0 KK.out) HV2.out HFew.out).mono ?_
  rintro e W4 ⟨rfl, hk4⟩
  have BX := Lib.hid (BX.out.keep hk4 (fun h => h))
  have BY := Lib.hid (BY.out.keep hk4 (fun h => h))
  have HV2 := Lib.hid (HV2.out.keep0 hk4)
  have KK := Lib.hid (keep0_trans _ _ _ KK.out hk4)
  clear hk4
  clear x0 x1 x2 x3 x4 x5 x6 x7 x8 x9 x10 x11 x12 x13
  clear y0 y1 y2 y3 y4 y5 y6 y7 y8 y9 y10 y11 y12 y13
  have x0 := BX.out.cell 0
  have x1 := BX.out.cell 1
  have x2 := BX.out.cell 2
  have x3 := BX.out.cell 3
  have x4 := BX.out.cell 4
  have x5 := BX.out.cell 5
  have x6 := BX.out.cell 6
  have x7 := BX.out.cell 7
  have x8 := BX.out.cell 8
  have x9 := BX.out.cell 9
  have x10 := BX.out.cell 10
  have x11 := BX.out.cell 11
  have x12 := BX.out.cell 12
  have x13 := BX.out.cell 13
  simp at x0 x1 x2 x3 x4 x5 x6 x7 x8 x9 x10 x11 x12 x13
  have y0 := BY.out.cell 0
  have y1 := BY.out.cell 1
  have y2 := BY.out.cell 2
  have y3 := BY.out.cell 3
  have y4 := BY.out.cell 4
  have y5 := BY.out.cell 5
  have y6 := BY.out.cell 6
  have y7 := BY.out.cell 7
  have y8 := BY.out.cell 8
  have y9 := BY.out.cell 9
  have y10 := BY.out.cell 10
  have y11 := BY.out.cell 11
  have y12 := BY.out.cell 12
  have y13 := BY.out.cell 13
  simp at y0 y1 y2 y3 y4 y5 y6 y7 y8 y9 y10 y11 y12 y13
  go_wp2_with fail
  refine (frame_same _ _ _ _ _ _ _ _ _ _ f _ (HV.out.keep0 KK.out) HV2.out HFew.out).mono ?_
  rintro e W5 ⟨rfl, hk5⟩
  have KK := Lib.hid (keep0_trans _ _ _ KK.out hk5)
  clear hk5
  clear x0 x1 x2 x3 x4 x5 x6 x7 x8 x9 x10 x11 x12 x13
  clear y0 y1 y2 y3 y4 y5 y6 y7 y8 y9 y10 y11 y12 y13
  go_wp2
  go_ret
  exact ⟨rfl, KK.out⟩
end Go.Proofs.YtgoldgamjogadaaGreat

namespace Go.Proofs.YtgoldgamjogadaaGreat
open Go.RowKit Go
set_option maxRecDepth 100000
attribute [local go_sem] bs_toList bs_size bs_get

set_option maxHeartbeats 1000000 in
theorem of_any (a : Int) (w : World) : Calls Tryz.prog 6 #[.int .i64 a] w (Tell (idV (a, 1)) w) := by
  obtain ⟨W1, hW1⟩ : ∃ W1, w.alloc (.cells #[.int .i64 0, .int .i64 0] 24) = W1 := ⟨_, rfl⟩
  have hbo : Blk W1 w.heap.size 24 #[.int .i64 0, .int .i64 0] := by rw [← hW1]; exact Blk.new _ _ _
  have hk1 : Keep (fun _ => False) w W1 := by rw [← hW1]; exact (Keep.refl _ w).alloc _
  have HB := Lib.hid hbo
  have HK := Lib.hid hk1
  have z0 := hbo.cell 0
  have z1 := hbo.cell 1
  have f0 := hbo.frozen 0
  have f1 := hbo.frozen 1
  simp at z0 z1
  clear hbo hk1
  go_enter Tryz.func6, Tryz.ntmps6
  go_wp2
  have hbf := idblk_set (b := a) (j := 1) HB.out
  have hkf := keep_id2 (w := W1) (g := w.heap.size) (.int .i64 a) (.int .i64 1)
  generalize (W1.setCell ⟨w.heap.size, 0, none⟩ (.int .i64 a)).setCell ⟨w.heap.size, 1, none⟩ (.int .i64 1) = WF at *
  have x0 := hbf.cell 0
  have x1 := hbf.cell 1
  simp at x0 x1
  refine ⟨rfl, idV (a, 1), ?_, ⟨rfl, HK.out.trans (hkf.mono fun q _ e => .inr (by omega))⟩⟩
  unfold results
  go_simp
def emptyVw : VwM := ⟨[], [], [], [], []⟩
def beatF : FrM := ⟨5, (1, 1), (2, 1), 3, 0, (0, 0), emptyVw⟩
def welcomeF : FrM := ⟨2, (1, 1), (2, 1), 0, 0, (0, 0), ⟨[⟨1, 1, 3, 1⟩], [], [], [], []⟩⟩
def badF : FrM := ⟨5, (1, 1), (2, 1), 3, 1, (0, 0), emptyVw⟩
def zeroF : FrM := ⟨0, (0, 0), (0, 0), 0, 0, (0, 0), emptyVw⟩
theorem beat_ok : (encM beatF).2 = 0 := by decide
theorem bad_enc : encM badF = ([], 4) := by decide
theorem few_empty : Few emptyVw := ⟨by simp [emptyVw], by simp [emptyVw], by simp [emptyVw], by simp [emptyVw], by simp [emptyVw], by simp [emptyVw]⟩
theorem isV_empty (w : World) : IsV w (.slice none 0 0) (.slice none 0 0) (.slice none 0 0) (.slice none 0 0) (.slice none 0 0) emptyVw :=
  ⟨⟨none, 0, 0, rfl, rfl, by simp [emptyVw], fun j hj => by omega⟩, ⟨none, 0, 0, rfl, rfl, by simp [emptyVw], fun j hj => by omega⟩, ⟨none, 0, 0, rfl, rfl, fun j hj => by omega⟩, ⟨none, 0, 0, rfl, rfl, by simp [emptyVw], fun j hj => by omega⟩, ⟨none, 0, 0, rfl, rfl, by simp [emptyVw], fun j hj => by omega⟩, fun x hx => by simp [emptyVw] at hx⟩
theorem welcome_ok : (encM welcomeF).2 = 0 := by decide
theorem bad_call (W : World) : Calls Tryz.prog 9 #[.agg #[.int .u8 5, .int .i64 1, .int .i64 1, .int .i64 2, .int .i64 1, .int .i64 3, .int .i64 1, .int .i64 0, .int .i64 0, .slice none 0 0, .slice none 0 0, .slice none 0 0, .slice none 0 0, .slice none 0 0]] W (Tell (.tuple #[.string (bs []), .int .i64 4]) W) := by
  have h := encode_any badF _ _ _ _ _ W (by decide) (isV_empty W) few_empty
  rw [bad_enc] at h
  exact h
theorem short_call (W : World) : Calls Tryz.prog 13 #[.string ⟨#[]⟩] W (Tell (.tuple #[zfrV, .int .i64 8]) W) := dec_short [] (by decide) W
theorem form_call (W : World) : Calls Tryz.prog 13 #[.string ⟨#[0, 0, 0, 0]⟩] W (Tell (.tuple #[zfrV, .int .i64 4]) W) := by
  have e8 : ∀ v e, NumR ([], 8) v e ([], 8) ↔ (v = 0 ∧ e = 8) := fun v e => by
    constructor
    · rintro (⟨_, h1, h2, _⟩ | ⟨h, _⟩ | ⟨k, t, _, _, h, _⟩)
      · exact ⟨h1, h2⟩
      · cases h
      · injection h with _ h; cases h
    · rintro ⟨rfl, rfl⟩; exact .inl ⟨by decide, rfl, rfl, rfl⟩
  have n8 : NumR ([], 8) 0 8 ([], 8) := (e8 0 8).2 ⟨rfl, rfl⟩
  have i8 : IdR ([], 8) (0, 0) ([], 8) := ⟨([], 8), 8, 8, n8, n8⟩
  have l8 : IdsR ([], 8) [] 8 ([], 8) := .inl ⟨by decide, rfl, rfl, rfl⟩
  have hv : ViewR ([], 8) emptyVw ([], 8) := ⟨_, _, _, _, 8, 8, ⟨8, _, n8, rfl, by simp [emptyVw]⟩, l8, ⟨8, _, n8, rfl, by simp [emptyVw]⟩, ⟨8, _, n8, rfl, by simp [emptyVw]⟩, l8⟩
  have hr : FrR ([], 0) zeroF ([], 8) ([], 8) ([], 8) ([], 8) ([], 8) ([], 8) ([], 8) := ⟨⟨8, .inr (.inl ⟨rfl, rfl, rfl, rfl⟩)⟩, i8, i8, ⟨8, n8⟩, ⟨8, n8⟩, i8, hv⟩
  have h := dec_ok [0, 0, 0, 0] 0 rfl (by decide) (by decide) zeroF (by decide) _ _ _ _ _ _ ([], 8) hr 8 (.inl ⟨by decide, rfl⟩) few_empty (fun x hx => by simp [zeroF, emptyVw] at hx) W
  refine h.mono ?_
  rintro e w' hp
  unfold DecPost at hp
  rw [if_neg (by decide)] at hp
  exact hp
theorem few_wel : Few welcomeF.view := ⟨by simp [welcomeF], by simp [welcomeF], by simp [welcomeF], by simp [welcomeF], by simp [welcomeF], by simp [welcomeF]⟩
theorem isV_wel {w : World} {gm : Nat} (h : Blk w gm 35 #[.int .i64 1, .int .i64 1, .int .u8 3, .int .i64 1]) : IsV w (.slice (some ⟨gm, 0, none⟩) 1 1) (.slice none 0 0) (.slice none 0 0) (.slice none 0 0) (.slice none 0 0) welcomeF.view :=
  ⟨⟨_, 1, 1, rfl, rfl, RdK.of_blk h 1 4 rfl⟩, (isV_empty w).fl, (isV_empty w).rows, (isV_empty w).clk, (isV_empty w).seen, fun x hx => by simp [welcomeF] at hx; subst hx; simp⟩
theorem beat_back (W : World) : Calls Tryz.prog 8 #[.agg #[.int .u8 5, .int .i64 1, .int .i64 1, .int .i64 2, .int .i64 1, .int .i64 3, .int .i64 0, .int .i64 0, .int .i64 0, .slice none 0 0, .slice none 0 0, .slice none 0 0, .slice none 0 0, .slice none 0 0]] W (Tell (.bool true) W) :=
  back_any beatF _ _ _ _ _ W (by decide) (isV_empty W) few_empty (t := (encM beatF).1) (by rw [← beat_ok])
theorem wel_back (W : World) (gm : Nat) (h : Blk W gm 35 #[.int .i64 1, .int .i64 1, .int .u8 3, .int .i64 1]) : Calls Tryz.prog 8 #[.agg #[.int .u8 2, .int .i64 1, .int .i64 1, .int .i64 2, .int .i64 1, .int .i64 0, .int .i64 0, .int .i64 0, .int .i64 0, .slice (some ⟨gm, 0, none⟩) 1 1, .slice none 0 0, .slice none 0 0, .slice none 0 0, .slice none 0 0]] W (Tell (.bool true) W) :=
  back_any welcomeF _ _ _ _ _ W (by decide) (isV_wel h) few_wel (t := (encM welcomeF).1) (by rw [← welcome_ok])
end Go.Proofs.YtgoldgamjogadaaGreat

namespace Go.Proofs.YtgoldgamjogadaaGreat
open Go.RowKit Go
set_option maxRecDepth 100000

set_option maxHeartbeats 8000000 in
theorem works_any (w : World) : Calls Tryz.prog 5 #[] w (Tell (.bool true) w) := by
  have KK := Lib.hid (Keep.refl (fun _ => False) w)
  go_enter Tryz.func5, Tryz.ntmps5
  go_wp2_with fail
  refine (of_any 1 _).mono ?_
  rintro e W1 ⟨rfl, hk⟩
  have KK := Lib.hid (keep0_trans _ _ _ KK.out hk)
  clear hk
  go_wp2_with fail
  refine (of_any 2 _).mono ?_
  rintro e W2 ⟨rfl, hk⟩
  have KK := Lib.hid (keep0_trans _ _ _ KK.out hk)
  clear hk
  go_upto_region 2 with (fail)
  have hb := Blk.new W2 39 #[.int .u8 5, .int .i64 1, .int .i64 1, .int .i64 2, .int .i64 1, .int .i64 3, .int .i64 0, .int .i64 0, .int .i64 0, .slice none 0 0, .slice none 0 0, .slice none 0 0, .slice none 0 0, .slice none 0 0]
  have hk := (Keep.refl (fun _ => False) W2).alloc (.cells #[.int .u8 5, .int .i64 1, .int .i64 1, .int .i64 2, .int .i64 1, .int .i64 3, .int .i64 0, .int .i64 0, .int .i64 0, .slice none 0 0, .slice none 0 0, .slice none 0 0, .slice none 0 0, .slice none 0 0] 39)
  generalize W2.alloc (.cells #[.int .u8 5, .int .i64 1, .int .i64 1, .int .i64 2, .int .i64 1, .int .i64 3, .int .i64 0, .int .i64 0, .int .i64 0, .slice none 0 0, .slice none 0 0, .slice none 0 0, .slice none 0 0, .slice none 0 0] 39) = V3 at *
  have KK := Lib.hid (keep0_trans _ _ _ KK.out hk)
  have H1 := Lib.hid hb
  clear hk hb
  go_wp2_with fail
  refine (of_any 1 _).mono ?_
  rintro e W4 ⟨rfl, hk⟩
  have H1 := Lib.hid (H1.out.keep hk (fun h => h))
  have KK := Lib.hid (keep0_trans _ _ _ KK.out hk)
  clear hk
  go_wp2_with fail
  refine (of_any 2 _).mono ?_
  rintro e W5 ⟨rfl, hk⟩
  have H1 := Lib.hid (H1.out.keep hk (fun h => h))
  have KK := Lib.hid (keep0_trans _ _ _ KK.out hk)
  clear hk
  go_wp2_with fail
  refine (of_any 1 _).mono ?_
  rintro e W6 ⟨rfl, hk⟩
  have H1 := Lib.hid (H1.out.keep hk (fun h => h))
  have KK := Lib.hid (keep0_trans _ _ _ KK.out hk)
  clear hk
  obtain ⟨V7, hV7⟩ : ∃ V, W6.alloc (.cells #[.int .i64 1, .int .i64 1, .int .u8 3, .int .i64 1] 35) = V := ⟨_, rfl⟩
  have hb : Blk V7 W6.heap.size 35 #[.int .i64 1, .int .i64 1, .int .u8 3, .int .i64 1] := by rw [← hV7]; exact Blk.new _ _ _
  have hk : Keep (fun _ => False) W6 V7 := by rw [← hV7]; exact (Keep.refl _ _).alloc _
  have H1 := Lib.hid (H1.out.keep hk (fun h => h))
  have KK := Lib.hid (keep0_trans _ _ _ KK.out hk)
  have HM := Lib.hid hb
  clear hk hb
  go_upto_region 3 with (fail)
  have hb := Blk.new V7 39 #[.int .u8 2, .int .i64 1, .int .i64 1, .int .i64 2, .int .i64 1, .int .i64 0, .int .i64 0, .int .i64 0, .int .i64 0, .slice (some ⟨W6.heap.size, 0, none⟩) 1 1, .slice none 0 0, .slice none 0 0, .slice none 0 0, .slice none 0 0]
  have hk := (Keep.refl (fun _ => False) V7).alloc (.cells #[.int .u8 2, .int .i64 1, .int .i64 1, .int .i64 2, .int .i64 1, .int .i64 0, .int .i64 0, .int .i64 0, .int .i64 0, .slice (some ⟨W6.heap.size, 0, none⟩) 1 1, .slice none 0 0, .slice none 0 0, .slice none 0 0, .slice none 0 0] 39)
  generalize V7.alloc (.cells #[.int .u8 2, .int .i64 1, .int .i64 1, .int .i64 2, .int .i64 1, .int .i64 0, .int .i64 0, .int .i64 0, .int .i64 0, .slice (some ⟨W6.heap.size, 0, none⟩) 1 1, .slice none 0 0, .slice none 0 0, .slice none 0 0, .slice none 0 0] 39) = V8 at *
  have H1 := Lib.hid (H1.out.keep hk (fun h => h))
  have HM := Lib.hid (HM.out.keep hk (fun h => h))
  have KK := Lib.hid (keep0_trans _ _ _ KK.out hk)
  have H2 := Lib.hid hb
  clear hk hb
  have x0 := H1.out.cell 0
  have x1 := H1.out.cell 1
  have x2 := H1.out.cell 2
  have x3 := H1.out.cell 3
  have x4 := H1.out.cell 4
  have x5 := H1.out.cell 5
  have x6 := H1.out.cell 6
  have x7 := H1.out.cell 7
  have x8 := H1.out.cell 8
  have x9 := H1.out.cell 9
  have x10 := H1.out.cell 10
  have x11 := H1.out.cell 11
  have x12 := H1.out.cell 12
  have x13 := H1.out.cell 13
  simp at x0 x1 x2 x3 x4 x5 x6 x7 x8 x9 x10 x11 x12 x13
  have KP := KK
  have P1 := H1
  have P2 := H2
  have PM := HM
  go_upto_region 4 with (fail)
  have hb := Blk.new V8 39 #[.int .u8 5, .int .i64 1, .int .i64 1, .int .i64 2, .int .i64 1, .int .i64 3, .int .i64 0, .int .i64 0, .int .i64 0, .slice none 0 0, .slice none 0 0, .slice none 0 0, .slice none 0 0, .slice none 0 0]
  have hk := (Keep.refl (fun _ => False) V8).alloc (.cells #[.int .u8 5, .int .i64 1, .int .i64 1, .int .i64 2, .int .i64 1, .int .i64 3, .int .i64 0, .int .i64 0, .int .i64 0, .slice none 0 0, .slice none 0 0, .slice none 0 0, .slice none 0 0, .slice none 0 0] 39)
  generalize V8.alloc (.cells #[.int .u8 5, .int .i64 1, .int .i64 1, .int .i64 2, .int .i64 1, .int .i64 3, .int .i64 0, .int .i64 0, .int .i64 0, .slice none 0 0, .slice none 0 0, .slice none 0 0, .slice none 0 0, .slice none 0 0] 39) = V9 at *
  have H1 := Lib.hid (H1.out.keep hk (fun h => h))
  have HM := Lib.hid (HM.out.keep hk (fun h => h))
  have H2 := Lib.hid (H2.out.keep hk (fun h => h))
  have KK := Lib.hid (keep0_trans _ _ _ KK.out hk)
  have H3 := Lib.hid hb
  have KG3 := Lib.hid (show w.heap.size ≤ V8.heap.size from KP.out.size)
  have N13 := Lib.hid (show W2.heap.size ≠ V8.heap.size by have := Blk.lt P1.out; omega)
  have N23 := Lib.hid (show V7.heap.size ≠ V8.heap.size by have := Blk.lt P2.out; omega)
  have NM3 := Lib.hid (show W6.heap.size ≠ V8.heap.size by have := Blk.lt PM.out; omega)
  clear hk hb
  have z6 := H3.out.cell 6
  have f6 := H3.out.frozen 6
  simp at z6
  obtain ⟨VS, hVS⟩ : ∃ V, V9.setCell ⟨V8.heap.size, 6, none⟩ (.int .i64 1) = V := ⟨_, rfl⟩
  have hn1 := Blk.lt H1.out
  have hs1 : ∀ {g : Nat} {t : TypeId} {cs : Array Value}, Blk V9 g t cs → g ≠ V8.heap.size → Blk VS g t cs := fun h hne => by rw [← hVS]; exact h.far (p := ⟨V8.heap.size, 6, none⟩) hne _
  have hb3 : Blk VS V8.heap.size 39 #[.int .u8 5, .int .i64 1, .int .i64 1, .int .i64 2, .int .i64 1, .int .i64 3, .int .i64 1, .int .i64 0, .int .i64 0, .slice none 0 0, .slice none 0 0, .slice none 0 0, .slice none 0 0, .slice none 0 0] := by
    rw [← hVS]
    have h := H3.out.set_ 6 (.int .i64 1)
    simpa using h
  have KK := Lib.hid (KK.out.new (p := ⟨V8.heap.size, 6, none⟩) KG3.out (.int .i64 1))
  rw [hVS] at KK
  have H1 := Lib.hid (hs1 H1.out N13.out)
  have H2 := Lib.hid (hs1 H2.out N23.out)
  have HM := Lib.hid (hs1 HM.out NM3.out)
  have H3 := Lib.hid hb3
  clear hn1 hs1 hb3
  have y0 := H3.out.cell 0
  have y1 := H3.out.cell 1
  have y2 := H3.out.cell 2
  have y3 := H3.out.cell 3
  have y4 := H3.out.cell 4
  have y5 := H3.out.cell 5
  have y6 := H3.out.cell 6
  have y7 := H3.out.cell 7
  have y8 := H3.out.cell 8
  have y9 := H3.out.cell 9
  have y10 := H3.out.cell 10
  have y11 := H3.out.cell 11
  have y12 := H3.out.cell 12
  have y13 := H3.out.cell 13
  simp at y0 y1 y2 y3 y4 y5 y6 y7 y8 y9 y10 y11 y12 y13
  go_wp2_with fail
  refine (bad_call _).mono ?_
  rintro e W10 ⟨rfl, hk⟩
  have H1 := Lib.hid (H1.out.keep hk (fun h => h))
  have HM := Lib.hid (HM.out.keep hk (fun h => h))
  have H2 := Lib.hid (H2.out.keep hk (fun h => h))
  have H3 := Lib.hid (H3.out.keep hk (fun h => h))
  have KK := Lib.hid (keep0_trans _ _ _ KK.out hk)
  clear hk
  clear y0 y1 y2 y3 y4 y5 y6 y7 y8 y9 y10 y11 y12 y13
  go_wp2_with fail
  refine (short_call _).mono ?_
  rintro e W11 ⟨rfl, hk⟩
  have H1 := Lib.hid (H1.out.keep hk (fun h => h))
  have HM := Lib.hid (HM.out.keep hk (fun h => h))
  have H2 := Lib.hid (H2.out.keep hk (fun h => h))
  have H3 := Lib.hid (H3.out.keep hk (fun h => h))
  have KK := Lib.hid (keep0_trans _ _ _ KK.out hk)
  clear hk
  go_upto_region 7 with (fail)
  have hb := Blk.new W11 39 #[.int .u8 0, .int .i64 0, .int .i64 0, .int .i64 0, .int .i64 0, .int .i64 0, .int .i64 0, .int .i64 0, .int .i64 0, .slice none 0 0, .slice none 0 0, .slice none 0 0, .slice none 0 0, .slice none 0 0]
  have hk := (Keep.refl (fun _ => False) W11).alloc (.cells #[.int .u8 0, .int .i64 0, .int .i64 0, .int .i64 0, .int .i64 0, .int .i64 0, .int .i64 0, .int .i64 0, .int .i64 0, .slice none 0 0, .slice none 0 0, .slice none 0 0, .slice none 0 0, .slice none 0 0] 39)
  generalize W11.alloc (.cells #[.int .u8 0, .int .i64 0, .int .i64 0, .int .i64 0, .int .i64 0, .int .i64 0, .int .i64 0, .int .i64 0, .int .i64 0, .slice none 0 0, .slice none 0 0, .slice none 0 0, .slice none 0 0, .slice none 0 0] 39) = V12 at *
  have H1 := Lib.hid (H1.out.keep hk (fun h => h))
  have HM := Lib.hid (HM.out.keep hk (fun h => h))
  have H2 := Lib.hid (H2.out.keep hk (fun h => h))
  have H3 := Lib.hid (H3.out.keep hk (fun h => h))
  have KK := Lib.hid (keep0_trans _ _ _ KK.out hk)
  have H6 := Lib.hid hb
  clear hk hb
  go_wp2_with fail
  refine (form_call _).mono ?_
  rintro e W13 ⟨rfl, hk⟩
  have H1 := Lib.hid (H1.out.keep hk (fun h => h))
  have HM := Lib.hid (HM.out.keep hk (fun h => h))
  have H2 := Lib.hid (H2.out.keep hk (fun h => h))
  have H3 := Lib.hid (H3.out.keep hk (fun h => h))
  have H6 := Lib.hid (H6.out.keep hk (fun h => h))
  have KK := Lib.hid (keep0_trans _ _ _ KK.out hk)
  clear hk
  go_upto_region 8 with (fail)
  have hb := Blk.new W13 39 #[.int .u8 0, .int .i64 0, .int .i64 0, .int .i64 0, .int .i64 0, .int .i64 0, .int .i64 0, .int .i64 0, .int .i64 0, .slice none 0 0, .slice none 0 0, .slice none 0 0, .slice none 0 0, .slice none 0 0]
  have hk := (Keep.refl (fun _ => False) W13).alloc (.cells #[.int .u8 0, .int .i64 0, .int .i64 0, .int .i64 0, .int .i64 0, .int .i64 0, .int .i64 0, .int .i64 0, .int .i64 0, .slice none 0 0, .slice none 0 0, .slice none 0 0, .slice none 0 0, .slice none 0 0] 39)
  generalize W13.alloc (.cells #[.int .u8 0, .int .i64 0, .int .i64 0, .int .i64 0, .int .i64 0, .int .i64 0, .int .i64 0, .int .i64 0, .int .i64 0, .slice none 0 0, .slice none 0 0, .slice none 0 0, .slice none 0 0, .slice none 0 0] 39) = V14 at *
  have H1 := Lib.hid (H1.out.keep hk (fun h => h))
  have HM := Lib.hid (HM.out.keep hk (fun h => h))
  have H2 := Lib.hid (H2.out.keep hk (fun h => h))
  have H3 := Lib.hid (H3.out.keep hk (fun h => h))
  have H6 := Lib.hid (H6.out.keep hk (fun h => h))
  have KK := Lib.hid (keep0_trans _ _ _ KK.out hk)
  have H8 := Lib.hid hb
  clear hk hb
  clear x0 x1 x2 x3 x4 x5 x6 x7 x8 x9 x10 x11 x12 x13
  have x0 := H1.out.cell 0
  have x1 := H1.out.cell 1
  have x2 := H1.out.cell 2
  have x3 := H1.out.cell 3
  have x4 := H1.out.cell 4
  have x5 := H1.out.cell 5
  have x6 := H1.out.cell 6
  have x7 := H1.out.cell 7
  have x8 := H1.out.cell 8
  have x9 := H1.out.cell 9
  have x10 := H1.out.cell 10
  have x11 := H1.out.cell 11
  have x12 := H1.out.cell 12
  have x13 := H1.out.cell 13
  simp at x0 x1 x2 x3 x4 x5 x6 x7 x8 x9 x10 x11 x12 x13
  go_wp2_with fail
  refine (beat_back _).mono ?_
  rintro e W15 ⟨rfl, hk⟩
  have H1 := Lib.hid (H1.out.keep hk (fun h => h))
  have HM := Lib.hid (HM.out.keep hk (fun h => h))
  have H2 := Lib.hid (H2.out.keep hk (fun h => h))
  have H3 := Lib.hid (H3.out.keep hk (fun h => h))
  have H6 := Lib.hid (H6.out.keep hk (fun h => h))
  have H8 := Lib.hid (H8.out.keep hk (fun h => h))
  have KK := Lib.hid (keep0_trans _ _ _ KK.out hk)
  clear hk
  clear x0 x1 x2 x3 x4 x5 x6 x7 x8 x9 x10 x11 x12 x13
  have x0 := H2.out.cell 0
  have x1 := H2.out.cell 1
  have x2 := H2.out.cell 2
  have x3 := H2.out.cell 3
  have x4 := H2.out.cell 4
  have x5 := H2.out.cell 5
  have x6 := H2.out.cell 6
  have x7 := H2.out.cell 7
  have x8 := H2.out.cell 8
  have x9 := H2.out.cell 9
  have x10 := H2.out.cell 10
  have x11 := H2.out.cell 11
  have x12 := H2.out.cell 12
  have x13 := H2.out.cell 13
  simp at x0 x1 x2 x3 x4 x5 x6 x7 x8 x9 x10 x11 x12 x13
  go_wp2_with fail
  refine (wel_back _ W6.heap.size HM.out).mono ?_
  rintro e W16 ⟨rfl, hk⟩
  have H1 := Lib.hid (H1.out.keep hk (fun h => h))
  have HM := Lib.hid (HM.out.keep hk (fun h => h))
  have H2 := Lib.hid (H2.out.keep hk (fun h => h))
  have H3 := Lib.hid (H3.out.keep hk (fun h => h))
  have H6 := Lib.hid (H6.out.keep hk (fun h => h))
  have H8 := Lib.hid (H8.out.keep hk (fun h => h))
  have KK := Lib.hid (keep0_trans _ _ _ KK.out hk)
  clear hk
  clear x0 x1 x2 x3 x4 x5 x6 x7 x8 x9 x10 x11 x12 x13
  go_wp2
  go_ret
  exact ⟨rfl, KK.out⟩
end Go.Proofs.YtgoldgamjogadaaGreat

namespace Go.Proofs.YtgoldgamjogadaaGreat
open Go.RowKit Go

theorem bendS_out (l : Bs) (at_ : Int) (x k j : Nat) (h : ¬ (at_ + k = (j : Int))) : (bendS l at_ x k)[j]? = l[j]? := by
  unfold bendS
  split
  · next hc => exact List.getElem?_set_ne (by omega)
  · rfl
theorem bendM_out (s : Bs) (at_ : Int) (x j : Nat) : ∀ k : Nat, (∀ i : Nat, i < k → ¬ (at_ + (i : Int) = (j : Int))) → (bendM s at_ x k)[j]? = s[j]?
  | 0, _ => rfl
  | k + 1, h => (bendS_out _ _ _ _ _ (h k (by omega))).trans (bendM_out s at_ x j k (fun i hi => h i (by omega)))
/-- what is bent lies within four bytes -/
theorem bend_window (s : Bs) (at_ : Int) (x : Nat) (hs : 4 ≤ s.length) : ∃ p a b q, a.length = 4 ∧ b.length = 4 ∧ s = p ++ a ++ q ∧ bendM s at_ x 4 = p ++ b ++ q := by
  obtain ⟨i, hi, hw⟩ : ∃ i : Nat, i + 4 ≤ s.length ∧ ∀ j : Nat, j < s.length → (j < i ∨ i + 4 ≤ j) → ∀ k : Nat, k < 4 → ¬ (at_ + (k : Int) = (j : Int)) := by
    by_cases h0 : at_ < 0
    · exact ⟨0, by omega, fun j hj h k hk => by omega⟩
    · by_cases h1 : at_ + 4 ≤ (s.length : Int)
      · exact ⟨at_.toNat, by omega, fun j hj h k hk => by omega⟩
      · exact ⟨s.length - 4, by omega, fun j hj h k hk => by omega⟩
  have hl := bend_len s at_ x 4
  have hout : ∀ j, (j < i ∨ i + 4 ≤ j) → (bendM s at_ x 4)[j]? = s[j]? := fun j h => by
    rcases Nat.lt_or_ge j s.length with hj | hj
    · exact bendM_out s at_ x j 4 (fun k hk => hw j hj h k hk)
    · rw [List.getElem?_eq_none (by omega), List.getElem?_eq_none hj]
  have sp : ∀ l : Bs, l = l.take i ++ (l.drop i).take 4 ++ l.drop (i + 4) := fun l => by
    rw [List.append_assoc, show l.drop (i + 4) = (l.drop i).drop 4 by rw [List.drop_drop], List.take_append_drop, List.take_append_drop]
  refine ⟨s.take i, (s.drop i).take 4, ((bendM s at_ x 4).drop i).take 4, s.drop (i + 4), by simp; omega, by simp; omega, sp s, ?_⟩
  have h1 : (bendM s at_ x 4).take i = s.take i := List.ext_getElem? fun j => by
    rw [List.getElem?_take, List.getElem?_take]
    split
    · next h => exact hout j (.inl h)
    · rfl
  have h2 : (bendM s at_ x 4).drop (i + 4) = s.drop (i + 4) := List.ext_getElem? fun j => by
    rw [List.getElem?_drop, List.getElem?_drop]
    exact hout _ (.inr (by omega))
  have := sp (bendM s at_ x 4)
  rw [h1, h2] at this
  exact this
/-- bent bytes have no right sum -/
theorem bent_sum {body : Bs} {at_ : Int} {x n : Nat} (hne : bendM (body ++ le4 (sumM body)) at_ x 4 ≠ body ++ le4 (sumM body)) :
    (bendM (body ++ le4 (sumM body)) at_ x 4).drop n ≠ le4 (sumM ((bendM (body ++ le4 (sumM body)) at_ x 4).take n)) := by
  intro he
  have hlen : 4 ≤ (body ++ le4 (sumM body)).length := by rw [List.length_append, le4_len]; omega
  obtain ⟨p, a, b, q, ha, hb, h1, h2⟩ := bend_window (body ++ le4 (sumM body)) at_ x hlen
  have h3 : (bendM (body ++ le4 (sumM body)) at_ x 4).take n ++ le4 (sumM ((bendM (body ++ le4 (sumM body)) at_ x 4).take n)) = p ++ b ++ q := by
    rw [← he, List.take_append_drop, h2]
  have hab := bent ha hb h1 h3
  apply hne
  rw [h2, h1, hab]
/-- Decode of a frame's bytes, bent -/
theorem dec_bent {f : FrM} {s : Bs} (h : encM f = (s, 0)) (at_ : Int) (x : Nat) (hne : bendM s at_ x 4 ≠ s) (w : World) :
    Calls Tryz.prog 13 #[.string (bs (bendM s at_ x 4))] w (Tell (.tuple #[zfrV, .int .i64 9]) w) := by
  obtain ⟨hm, h0, hs, hl⟩ := enc_ok h
  have hlen : s.length = (bodyM f).1.length + 4 := by rw [hs, List.length_append, le4_len]
  have hbl := bend_len s at_ x 4
  refine dec_sum _ (bodyM f).1.length (by omega) (by omega) ?_ w
  subst hs
  exact bent_sum hne
end Go.Proofs.YtgoldgamjogadaaGreat

namespace Go.Proofs.YtgoldgamjogadaaGreat
open Go.RowKit Go
set_option maxRecDepth 100000

/-- lengths that memory can bear -/
structure Fits (v : VwM) : Prop where
  mem : v.mem.length ≤ 500000000000000000
  fl : v.fl.length ≤ 500000000000000000
  rows : v.rows.length ≤ 500000000000000000
  clk : v.clk.length ≤ 500000000000000000
  seen : v.seen.length ≤ 500000000000000000
  no : ∀ r ∈ v.rows, r.no.length ≤ 500000000000000000
def noSum (l : List RowM) : Nat := (l.map (fun r => r.no.length)).sum
theorem noSum_take {l : List RowM} {k : Nat} (hk : k < l.length) : noSum (l.take (k + 1)) = noSum (l.take k) + (l.getD k row0).no.length := by
  unfold noSum
  rw [List.take_succ_eq_append_getElem hk, List.map_append, List.sum_append]
  simp [List.getD, hk]
theorem noSum_mem {l : List RowM} {r : RowM} (h : r ∈ l) : r.no.length ≤ noSum l := by
  unfold noSum
  induction l with
  | nil => cases h
  | cons x l ih =>
    rw [List.map_cons, List.sum_cons]
    rcases List.mem_cons.1 h with rfl | h
    · omega
    · have := ih h; omega
def LargeP (v : VwM) (e : Ending) : Prop := ∃ b : Bool, e = .returned (.bool b) ∧ (b = false → Few v)
set_option maxHeartbeats 8000000 in
theorem large_any (f : FrM) (m l r c s : Value) (w : World) (h : IsV w m l r c s f.view) (hf : Fits f.view) :
    Calls Tryz.prog 11 #[frV f m l r c s] w (fun e w' => LargeP f.view e ∧ Keep (fun _ => False) w w') := by
  obtain ⟨g1, g2, g3, g4, g5, g6⟩ := hf
  obtain ⟨⟨Am, nm, cm, rfl, hm⟩, ⟨Af, nf, cf, rfl, hfl⟩, ⟨Ar, nr, cr, rfl, hr⟩, ⟨Ac, nc, cc, rfl, hc⟩, ⟨As, ns, cs, rfl, hs⟩, _⟩ := h
  rw [hm.1] at g1
  rw [hfl.1] at g2
  rw [hr.1] at g3
  rw [hc.1] at g4
  rw [hs.1] at g5
  have HL := Lib.hid (show f.view.mem.length = nm ∧ f.view.fl.length = nf ∧ f.view.rows.length = nr ∧ f.view.clk.length = nc ∧ f.view.seen.length = ns from ⟨hm.1, hfl.1, hr.1, hc.1, hs.1⟩)
  obtain ⟨W0, hW0⟩ : ∃ V, w.alloc (.cells #[.int .u8 (f.kind : Int), .int .i64 f.frm.1, .int .i64 f.frm.2, .int .i64 f.to.1, .int .i64 f.to.2, .int .i64 f.n, .int .i64 f.tok, .int .i64 f.abt.1, .int .i64 f.abt.2, .slice Am nm cm, .slice Af nf cf, .slice Ar nr cr, .slice Ac nc cc, .slice As ns cs] 39) = V := ⟨_, rfl⟩
  have hbx : Blk W0 w.heap.size 39 #[.int .u8 (f.kind : Int), .int .i64 f.frm.1, .int .i64 f.frm.2, .int .i64 f.to.1, .int .i64 f.to.2, .int .i64 f.n, .int .i64 f.tok, .int .i64 f.abt.1, .int .i64 f.abt.2, .slice Am nm cm, .slice Af nf cf, .slice Ar nr cr, .slice Ac nc cc, .slice As ns cs] := by rw [← hW0]; exact Blk.new _ _ _
  have hk0 : Keep (fun _ => False) w W0 := by rw [← hW0]; exact (Keep.refl _ w).alloc _
  have hb3 := Blk.new W0 33 #[.slice Am nm cm, .slice Af nf cf, .slice Ar nr cr, .slice Ac nc cc, .slice As ns cs]
  have hk3 := (Keep.refl (fun _ => False) W0).alloc (.cells #[.slice Am nm cm, .slice Af nf cf, .slice Ar nr cr, .slice Ac nc cc, .slice As ns cs] 33)
  have KK := Lib.hid (keep0_trans _ _ _ hk0 hk3)
  have HB := Lib.hid hb3
  have HR := Lib.hid (hr.keep0 (keep0_trans _ _ _ hk0 hk3))
  have HNo := Lib.hid g6
  have x9 := hbx.cell 9
  have x10 := hbx.cell 10
  have x11 := hbx.cell 11
  have x12 := hbx.cell 12
  have x13 := hbx.cell 13
  simp at x9 x10 x11 x12 x13
  have e1 : IntKind.i64.wrap ((nm : Int) + (nf : Int)) = (nm : Int) + (nf : Int) := IntWalk.i64_in _ (by omega)
  have e2 : IntKind.i64.wrap ((nm : Int) + (nf : Int) + (nc : Int)) = (nm : Int) + (nf : Int) + (nc : Int) := IntWalk.i64_in _ (by omega)
  have e3 : IntKind.i64.wrap ((nm : Int) + (nf : Int) + (nc : Int) + (ns : Int)) = (nm : Int) + (nf : Int) + (nc : Int) + (ns : Int) := IntWalk.i64_in _ (by omega)
  have e4 : IntKind.i64.wrap ((nm : Int) + (nf : Int) + (nc : Int) + (ns : Int) + (nr : Int)) = (nm : Int) + (nf : Int) + (nc : Int) + (ns : Int) + (nr : Int) := IntWalk.i64_in _ (by omega)
  clear hm hfl hr hc hs g6 hbx hk0 hb3 hk3
  go_enter Tryz.func11, Tryz.ntmps11
  go_upto_region 3 with (fail)
  clear x9 x10 x11 x12 x13 e1 e2 e3 e4
  generalize W0.alloc (.cells #[.slice Am nm cm, .slice Af nf cf, .slice Ar nr cr, .slice Ac nc cc, .slice As ns cs] 33) = W1 at *
  go_wp2
  go_loopw [4, 5] (fun nv iv wr => ∃ k A : Nat, k ≤ nr ∧ A = nm + nf + nc + ns + nr + noSum (f.view.rows.take k) ∧ nv = .int .i64 (A : Int) ∧ iv = .int .i64 (k : Int) ∧ A < 4000000000000000000 ∧ wr = W1) (fun _ iv _ => nr - (intOf iv).toNat)
  case atStart => exact ⟨0, _, by omega, rfl, by simp [noSum], rfl, by simp [noSum]; omega, rfl⟩
  case round =>
    obtain ⟨k, A, hk, hA, rfl, rfl, hA2, rfl⟩ := hrel
    have HA := Lib.hid hA
    clear hA
    have z2 := HB.out.cell 2
    simp at z2
    by_cases hlt : k < nr
    · have q1 : (k : Int) < (nr : Int) := by omega
      by_cases h5 : (A : Int) < 5000
      · obtain ⟨g, off, v0, rfl, p0, p1, p2, p3, ⟨An, nn, cn, rfl, hn0⟩⟩ := HR.out.2 k hlt
        have hkl : k < f.view.rows.length := by rw [HL.out.2.2.1]; exact hlt
        have hnn : nn ≤ 500000000000000000 := by rw [← hn0.1]; exact HNo.out _ (by simp [List.getD, hkl])
        have HT := Lib.hid (show noSum (f.view.rows.take (k + 1)) = noSum (f.view.rows.take k) + nn by rw [noSum_take hkl, hn0.1])
        have q2 : (0 : Int) ≤ (k : Int) := by omega
        have e5 : IntKind.i64.wrap ((k : Int) + 1) = (k : Int) + 1 := IntWalk.i64_in _ (by omega)
        have e6 : IntKind.i64.wrap ((A : Int) + (nn : Int)) = (A : Int) + (nn : Int) := IntWalk.i64_in _ (by omega)
        clear hn0 hkl p0 p1 p2
        go_wp2
        go_roundw
        case rel => exact ⟨k + 1, A + nn, by omega, by rw [HT.out]; have := HA.out; omega, by go_num, by go_num, by omega, by trivial⟩
        case measure => simp [intOf]; omega
      · have q4 : (5000 : Int) ≤ (A : Int) := by omega
        go_wp2
        go_ret
        exact ⟨⟨true, rfl, fun h => by cases h⟩, KK.out⟩
    · obtain rfl : k = nr := by omega
      by_cases h5 : (A : Int) < 5000
      · have HFw := Lib.hid (show Few f.view by
          have h := HA.out
          obtain ⟨l1, l2, l3, l4, l5⟩ := HL.out
          rw [List.take_of_length_le (by omega)] at h
          exact ⟨by omega, by omega, by omega, by omega, by omega, fun r hr => by have := noSum_mem hr; omega⟩)
        have q4 : ¬ (5000 : Int) ≤ (A : Int) := by omega
        go_wp2
        go_ret
        exact ⟨⟨false, rfl, fun _ => HFw.out⟩, KK.out⟩
      · have q4 : (5000 : Int) ≤ (A : Int) := by omega
        go_wp2
        go_ret
        exact ⟨⟨true, rfl, fun h => by cases h⟩, KK.out⟩
end Go.Proofs.YtgoldgamjogadaaGreat

namespace Go.Proofs.YtgoldgamjogadaaGreat
open Go.RowKit Go
set_option maxRecDepth 100000
attribute [local go_sem] bs_toList bs_size bs_get

set_option maxHeartbeats 8000000 in
theorem frameBent_tell (f : FrM) (m l r c s : Value) (a : Int) (x : Nat) (w : World) (hk : f.kind < 256) (h : IsV w m l r c s f.view) (hf : Fits f.view) (hat : -9223372036854775808 ≤ a) (hx : x < 2 ^ 32) :
    Calls Tryz.prog 4 #[frV f m l r c s, .int .i64 a, .int .u32 (x : Int)] w (Tell (.bool true) w) := by
  have HV := Lib.hid h
  have HSt := Lib.hid h.stat
  have HFi := Lib.hid hf
  have HAT := Lib.hid hat
  have HX := Lib.hid hx
  obtain ⟨⟨Am, nm, cm, rfl, _⟩, ⟨Af, nf, cf, rfl, _⟩, ⟨Ar, nr, cr, rfl, _⟩, ⟨Ac, nc, cc, rfl, _⟩, ⟨As, ns, cs, rfl, _⟩, _⟩ := h
  obtain ⟨W0, hW0⟩ : ∃ V, w.alloc (.cells #[.int .u8 (f.kind : Int), .int .i64 f.frm.1, .int .i64 f.frm.2, .int .i64 f.to.1, .int .i64 f.to.2, .int .i64 f.n, .int .i64 f.tok, .int .i64 f.abt.1, .int .i64 f.abt.2, .slice Am nm cm, .slice Af nf cf, .slice Ar nr cr, .slice Ac nc cc, .slice As ns cs] 39) = V := ⟨_, rfl⟩
  have hbx : Blk W0 w.heap.size 39 #[.int .u8 (f.kind : Int), .int .i64 f.frm.1, .int .i64 f.frm.2, .int .i64 f.to.1, .int .i64 f.to.2, .int .i64 f.n, .int .i64 f.tok, .int .i64 f.abt.1, .int .i64 f.abt.2, .slice Am nm cm, .slice Af nf cf, .slice Ar nr cr, .slice Ac nc cc, .slice As ns cs] := by rw [← hW0]; exact Blk.new _ _ _
  have hk0 : Keep (fun _ => False) w W0 := by rw [← hW0]; exact (Keep.refl _ w).alloc _
  have BX := Lib.hid hbx
  have KK := Lib.hid hk0
  clear hbx hk0 hf hat hx
  go_enter Tryz.func4, Tryz.ntmps4
  go_wp2_with fail
  refine (works_any _).mono ?_
  rintro e W1 ⟨rfl, hk1⟩
  have BX := Lib.hid (BX.out.keep hk1 (fun h => h))
  have KK := Lib.hid (keep0_trans _ _ _ KK.out hk1)
  clear hk1
  have x0 := BX.out.cell 0
  have x1 := BX.out.cell 1
  have x2 := BX.out.cell 2
  have x3 := BX.out.cell 3
  have x4 := BX.out.cell 4
  have x5 := BX.out.cell 5
  have x6 := BX.out.cell 6
  have x7 := BX.out.cell 7
  have x8 := BX.out.cell 8
  have x9 := BX.out.cell 9
  have x10 := BX.out.cell 10
  have x11 := BX.out.cell 11
  have x12 := BX.out.cell 12
  have x13 := BX.out.cell 13
  simp at x0 x1 x2 x3 x4 x5 x6 x7 x8 x9 x10 x11 x12 x13
  go_wp2_with fail
  refine (large_any f _ _ _ _ _ _ (HV.out.keep0 KK.out) HFi.out).mono ?_
  rintro e W2 ⟨⟨b, rfl, hb⟩, hk2⟩
  have BX := Lib.hid (BX.out.keep hk2 (fun h => h))
  have KK := Lib.hid (keep0_trans _ _ _ KK.out hk2)
  clear hk2
  clear x0 x1 x2 x3 x4 x5 x6 x7 x8 x9 x10 x11 x12 x13
  cases b
  · have HFew := Lib.hid (hb rfl)
    clear hb
    have x0 := BX.out.cell 0
    have x1 := BX.out.cell 1
    have x2 := BX.out.cell 2
    have x3 := BX.out.cell 3
    have x4 := BX.out.cell 4
    have x5 := BX.out.cell 5
    have x6 := BX.out.cell 6
    have x7 := BX.out.cell 7
    have x8 := BX.out.cell 8
    have x9 := BX.out.cell 9
    have x10 := BX.out.cell 10
    have x11 := BX.out.cell 11
    have x12 := BX.out.cell 12
    have x13 := BX.out.cell 13
    simp at x0 x1 x2 x3 x4 x5 x6 x7 x8 x9 x10 x11 x12 x13
    go_wp2_with fail
    refine (encode_any f _ _ _ _ _ _ hk (HV.out.keep0 KK.out) HFew.out).mono ?_
    rintro e W3 ⟨rfl, hk3⟩
    have KK := Lib.hid (keep0_trans _ _ _ KK.out hk3)
    clear hk3
    clear x0 x1 x2 x3 x4 x5 x6 x7 x8 x9 x10 x11 x12 x13
    obtain ⟨⟨t, er⟩, hE⟩ : ∃ e, encM f = e := ⟨_, rfl⟩
    rw [hE]
    unfold pairV
    by_cases he : er = 0
    · subst he
      have HE := Lib.hid hE
      have h4 := enc_ok hE
      have hl4 : 4 ≤ t.length := by rw [h4.2.2.1, List.length_append, le4_len]; omega
      have HTL := Lib.hid (show t.length ≤ 8192 from h4.2.2.2)
      obtain ⟨g, hg, hge⟩ := mod_u64 a (t.length : Int) (by omega) (by have := HTL.out; omega)
      have eN : ¬ (t.length : Int) = 0 := by omega
      have eN2 : ((t.length : Int) == 0) = false := by simpa using eN
      have eL : IntKind.u64.wrap (t.length : Int) = (t.length : Int) := by
        have := HTL.out
        simp [IntKind.wrap, IntKind.bits, IntKind.signed]
        omega
      clear hE h4 hl4
      go_wp2
      obtain ⟨W4, hW4⟩ : ∃ V, W3.alloc (.cells #[.int .i64 a, .int .i64 (g : Int)] 3) = V := ⟨_, rfl⟩
      have HSL := Lib.hid (show Blk W4 W3.heap.size 3 #[.int .i64 a, .int .i64 (g : Int)] by rw [← hW4]; exact Blk.new _ _ _)
      have KK := Lib.hid (keep0_trans _ _ _ KK.out (show Keep (fun _ => False) W3 W4 by rw [← hW4]; exact (Keep.refl _ W3).alloc _))
      rw [hW4]
      clear hW4
      generalize W3.heap.size = B at *
      go_loopw [38] (fun jv wr => ∃ q : Nat, q ≤ 2 ∧ jv = .int .i64 (q : Int) ∧ Hid (Keep (fun _ => False) w wr) ∧ Hid (Blk wr B 3 #[.int .i64 a, .int .i64 (g : Int)])) (fun jv _ => (2 - intOf jv).toNat)
      case atStart => exact ⟨0, by omega, rfl, KK, HSL⟩
      case round =>
        obtain ⟨q, hq, rfl, KK, HSL⟩ := hrel
        by_cases hlt : q < 2
        · obtain ⟨v, hv, hcell⟩ : ∃ v : Int, -9223372036854775808 ≤ v ∧ wr.cell? ⟨B, q, none⟩ = some (.int .i64 v) := by
            rcases (by omega : q = 0 ∨ q = 1) with rfl | rfl
            · exact ⟨a, HAT.out, by have := HSL.out.cell 0; exact this.trans rfl⟩
            · exact ⟨(g : Int), by omega, by have := HSL.out.cell 1; exact this.trans rfl⟩
          have q1 : (q : Int) < 2 := by omega
          have q2 : (0 : Int) ≤ (q : Int) := by omega
          have q3 : IntKind.i64.wrap ((q : Int) + 1) = (q : Int) + 1 := IntWalk.i64_in _ (by omega)
          go_wp2_with fail
          refine (bend_any t (by have := HTL.out; omega) v hv x HX.out _).mono ?_
          rintro e W6 ⟨rfl, hk6⟩
          have KK6 := Lib.hid (keep0_trans _ _ _ KK.out hk6)
          have HS6 := Lib.hid (HSL.out.keep hk6 (fun h => h))
          have HBL := Lib.hid (bend_len t v x 4)
          clear hk6 hcell
          by_cases hts : bendM t v x 4 = t
          · rw [hts]
            clear hts
            go_wp2_with fail
            refine (dec_enc HE.out hk HFew.out HSt.out _).mono ?_
            rintro e W7 ⟨⟨m2, l2, r2, c2, s2, rfl, hv7⟩, hk7⟩
            obtain ⟨A1, k1, e1, rfl⟩ := hv7.mem.sl
            obtain ⟨A2, k2, e2, rfl⟩ := hv7.fl.sl
            obtain ⟨A3, k3, e3, rfl⟩ := hv7.rows.sl
            obtain ⟨A4, k4, e4, rfl⟩ := hv7.clk.sl
            obtain ⟨A5, k5, e5, rfl⟩ := hv7.seen.sl
            have KK7 := Lib.hid (keep0_trans _ _ _ KK6.out (keep0_trans _ _ _ hk7 ((Keep.refl (fun _ => False) W7).alloc (.cells #[.int .u8 (f.kind : Int), .int .i64 f.frm.1, .int .i64 f.frm.2, .int .i64 f.to.1, .int .i64 f.to.2, .int .i64 f.n, .int .i64 f.tok, .int .i64 f.abt.1, .int .i64 f.abt.2, .slice A1 k1 e1, .slice A2 k2 e2, .slice A3 k3 e3, .slice A4 k4 e4, .slice A5 k5 e5] 39))))
            have HS7 := Lib.hid ((HS6.out.keep hk7 (fun h => h)).keep ((Keep.refl (fun _ => False) W7).alloc (.cells #[.int .u8 (f.kind : Int), .int .i64 f.frm.1, .int .i64 f.frm.2, .int .i64 f.to.1, .int .i64 f.to.2, .int .i64 f.n, .int .i64 f.tok, .int .i64 f.abt.1, .int .i64 f.abt.2, .slice A1 k1 e1, .slice A2 k2 e2, .slice A3 k3 e3, .slice A4 k4 e4, .slice A5 k5 e5] 39)) (fun h => h))
            have eqd : (t == t) = true := by simp
            have eqe : (t != t) = false := by simp
            clear hv7 hk7
            go_wp2
            go_roundw
            case rel => exact ⟨q + 1, by omega, by go_num, KK7, HS7⟩
            case measure => simp [intOf]; omega
          · have HD := Lib.hid (fun W => dec_bent HE.out v x hts W)
            have eqe : (bendM t v x 4 == t) = false := by rw [beq_eq_false_iff_ne]; exact hts
            have eqf : (bendM t v x 4 != t) = true := by rw [bne, eqe]; rfl
            clear hts
            generalize bendM t v x 4 = t2 at *
            go_wp2_with fail
            refine (HD.out _).mono ?_
            rintro e W7 ⟨rfl, hk7⟩
            have KK7 := Lib.hid (keep0_trans _ _ _ KK6.out (keep0_trans _ _ _ hk7 ((Keep.refl (fun _ => False) W7).alloc (.cells #[.int .u8 0, .int .i64 0, .int .i64 0, .int .i64 0, .int .i64 0, .int .i64 0, .int .i64 0, .int .i64 0, .int .i64 0, .slice none 0 0, .slice none 0 0, .slice none 0 0, .slice none 0 0, .slice none 0 0] 39))))
            have HS7 := Lib.hid ((HS6.out.keep hk7 (fun h => h)).keep ((Keep.refl (fun _ => False) W7).alloc (.cells #[.int .u8 0, .int .i64 0, .int .i64 0, .int .i64 0, .int .i64 0, .int .i64 0, .int .i64 0, .int .i64 0, .int .i64 0, .slice none 0 0, .slice none 0 0, .slice none 0 0, .slice none 0 0, .slice none 0 0] 39)) (fun h => h))
            clear hk7
            go_wp2
            go_roundw
            case rel => exact ⟨q + 1, by omega, by go_num, KK7, HS7⟩
            case measure => simp [intOf]; omega
        · obtain rfl : q = 2 := by omega
          go_wp2
          go_ret
          exact ⟨rfl, KK.out⟩
    · have h2 : (er != 0) = true := by simpa using he
      have h3 : (er == 0) = false := by simpa using he
      clear hE he
      go_wp2
      go_ret
      exact ⟨rfl, KK.out⟩
  · clear hb
    go_wp2_with fail
    refine (works_any _).mono ?_
    rintro e W3 ⟨rfl, hk3⟩
    have KK := Lib.hid (keep0_trans _ _ _ KK.out hk3)
    clear hk3
    go_wp2
    go_ret
    exact ⟨rfl, KK.out⟩
end Go.Proofs.YtgoldgamjogadaaGreat

namespace Go.Proofs.YtgoldgamjogadaaGreat
open Go.RowKit Go.WideShapes Go.Joins Go.Deep
set_option maxRecDepth 100000

theorem Tryz.cellsI : Tryz.prog.cellsOf 3 = 1 := by kernel_rfl
theorem Tryz.cellsU : Tryz.prog.cellsOf 5 = 1 := by kernel_rfl
theorem Tryz.cellsId : Tryz.prog.cellsOf 24 = 2 := by kernel_rfl
theorem Tryz.cellsMem : Tryz.prog.cellsOf 35 = 4 := by kernel_rfl
theorem Tryz.cellsTick : Tryz.prog.cellsOf 27 = 3 := by kernel_rfl
theorem Tryz.cellsRow : Tryz.prog.cellsOf 37 = 4 := by kernel_rfl
theorem Tryz.cellsView : Tryz.prog.cellsOf 33 = 5 := by kernel_rfl
theorem Tryz.cellsFr : Tryz.prog.cellsOf 39 = 14 := by kernel_rfl
theorem Tryz.cellsSl : Tryz.prog.cellsOf 29 = 1 ∧ Tryz.prog.cellsOf 30 = 1 ∧ Tryz.prog.cellsOf 31 = 1 ∧ Tryz.prog.cellsOf 28 = 1 := ⟨by kernel_rfl, by kernel_rfl, by kernel_rfl, by kernel_rfl⟩
theorem flat_getQ {α : Type} (enc : α → List Value) (k : Nat) (hk : ∀ x, (enc x).length = k) : ∀ (l : List α) (i j : Nat) (hi : i < l.length), j < k → (l.flatMap enc)[i * k + j]? = (enc l[i])[j]?
  | x :: l, 0, j, _, hj => by
    rw [List.flatMap_cons, List.getElem?_append_left (by rw [hk]; omega)]; simp
  | x :: l, i + 1, j, hi, hj => by
    rw [List.flatMap_cons, List.getElem?_append_right (by rw [hk, Nat.add_mul]; omega), hk, Nat.add_mul, Nat.one_mul, show i * k + k + j - k = i * k + j by omega]
    rw [flat_getQ enc k hk l i j (by simpa using hi) hj]; rfl
theorem flat_lenQ {α : Type} (enc : α → List Value) (k : Nat) (hk : ∀ x, (enc x).length = k) (l : List α) : (l.flatMap enc).length = l.length * k := by
  induction l with
  | nil => simp
  | cons x l ih => rw [List.flatMap_cons, List.length_append, hk, ih, List.length_cons, Nat.add_mul]; omega
theorem weightsAll_mem {H : Type} {P : Program} {e : TypeId} : ∀ {l : List (DataW H)} {d : DataW H}, d ∈ l → ∀ n ∈ d.weights P e, n ∈ DataW.weightsAll P e l
  | d0 :: l, d, hd, n, hn => by
    simp only [DataW.weightsAll, List.mem_append]
    rcases List.mem_cons.1 hd with rfl | hd
    · exact Or.inl hn
    · exact Or.inr (weightsAll_mem hd n hn)
  | [], _, hd, _, _ => by simp at hd
/-- what it reads takes no more than the reach -/
def Wgh {H : Type} (P : Program) (t : TypeId) (d : DataW H) : Prop := ∀ n ∈ d.weights P t, n ≤ reachBytes
theorem Wgh.part {H : Type} {P : Program} {t : TypeId} {fs : Array Field} {parts : List (DataW H)} (h : Wgh P t (.agg parts)) (ht : P.underlying t = some (.struct fs)) {j : Nat} {f : Field} {d : DataW H} (hf : fs[j]? = some f) (hd : parts[j]? = some d) : Wgh P f.type d := fun n hn =>
  h n (by
    simp only [DataW.weights, ht]
    exact DataW.weights_mem_each (j := j) (by simp [hf]) hd n hn)
/-- a slice of elements of k cells that came in, each with a property -/
theorem open_listQ {H : Type} {encH : TypeId × Value → H} {P : Program} {W : World} {spare : Nat → Bool} {b : Bool} {t e : TypeId} {k fuel base : Nat} {c : Value} {y : DataW H × List MemPlace} {α : Type} [Inhabited α] (enc : α → List Value) (Q : α → Prop) (henc : ∀ x, (enc x).length = k)
    (ht : P.underlying t = some (.slice e)) (ce : P.cellsOf e = k) (hk : 0 < k) (hw : Wgh P t y.1)
    (each : ∀ (n : Nat) (cs : List Value) (z : DataW H × List MemPlace), cs.length = k → Wgh P e z.1 → DataW.trod encH P W base spare b n e cs = some z → ∃ x : α, cs = enc x ∧ Q x)
    (hf : DataW.trod encH P W base spare b fuel t [c] = some y) : ∃ (A : Option Addr) (n cap : Nat) (l : List α), c = .slice A n cap ∧ n ≤ cap ∧ cap ≤ maxLen ∧ l.length = n ∧ RdK W k A n (l.flatMap enc) ∧ (∀ x ∈ l, Q x) ∧ n * P.bytesOf e ≤ reachBytes := by
  rcases open_slice ht hf with ⟨hcs, _⟩ | ⟨a, len, cap, m, n, D, Pl, hcs, _, hl, hm, hmm, hy, hx⟩
  · injection hcs with hcs
    exact ⟨none, 0, 0, [], hcs, Nat.le_refl _, by simp [maxLen], rfl, ⟨by simp, fun j hj => by omega⟩, (fun x hx => by cases hx), by simp⟩
  · injection hcs with hcs
    have hlm : len ≤ m := by rw [hmm]; split <;> omega
    rw [hy] at hw
    have hw1 : len * P.bytesOf e ≤ reachBytes := by
      have := hw _ (by simp only [DataW.weights, ht]; exact List.mem_cons_self ..)
      rw [List.length_map, List.length_range, Nat.add_mul] at this
      omega
    have hw2 : ∀ i, i < len → Wgh P e (D i) := fun i hi n hn => hw n (by
      simp only [DataW.weights, ht]
      exact List.mem_cons_of_mem _ (List.mem_append_left _ (weightsAll_mem (List.mem_map.2 ⟨i, List.mem_range.2 hi, rfl⟩) n hn)))
    have ev : ∀ i, i < len → ∃ x : α, (∀ j, j < k → W.cell? (a.add (i * k + j)) = (enc x)[j]?) ∧ Q x := by
      intro i hi
      obtain ⟨cs', h1, h2⟩ := hx i (by omega)
      rw [ce] at h1
      obtain ⟨_, hlen, hcell⟩ := World.cells?_some h1
      obtain ⟨x, rfl, hQ⟩ := each _ _ _ hlen (hw2 i hi) h2
      refine ⟨x, fun j hj => ?_, hQ⟩
      have := hcell j hj
      rw [add_add] at this
      exact this
    obtain ⟨S, hS⟩ := choose_lt (α := α) ev
    refine ⟨some a, len, cap, (List.range len).map S, hcs, hl, hm, by simp, ⟨by rw [flat_lenQ enc k henc]; simp, fun j hj => ?_⟩, fun x hx => ?_, hw1⟩
    · have hi : j / k < len := (Nat.div_lt_iff_lt_mul hk).2 hj
      have hjk : j % k < k := Nat.mod_lt _ hk
      have hdm : j / k * k + j % k = j := by rw [Nat.mul_comm]; exact Nat.div_add_mod j k
      have h1 := (hS (j / k) hi).1 (j % k) hjk
      rw [hdm] at h1
      have hlt : j % k < (enc (S (j / k))).length := by rw [henc]; exact hjk
      rw [List.getElem?_eq_getElem hlt] at h1
      obtain ⟨g, off, spot⟩ := a
      have hspot : spot = none := by
        have h0 := (hS 0 (Nat.lt_of_le_of_lt (Nat.zero_le _) hi)).1 0 hk
        have hlt0 : 0 < (enc (S 0)).length := by rw [henc]; exact hk
        rw [List.getElem?_eq_getElem hlt0] at h0
        have := World.cell?_spot h0
        simpa [Addr.add] using this
      subst hspot
      rw [Addr.add_lit] at h1
      refine ⟨g, off, _, rfl, ?_, h1⟩
      have := flat_getQ enc k henc ((List.range len).map S) (j / k) (j % k) (by simpa using hi) hjk
      rw [hdm] at this
      rw [this]
      simp
    · obtain ⟨q, hq, rfl⟩ := List.mem_map.1 hx
      exact (hS q (List.mem_range.1 hq)).2
instance : Inhabited Mem := ⟨zeroMem⟩
instance : Inhabited Tick := ⟨tick0⟩
section
variable {H : Type} {enc : TypeId × Value → H} {W : World} {base : Nat} {b : Bool} {spare : Nat → Bool}
theorem each_id (n : Nat) (cs : List Value) (z : DataW H × List MemPlace) (hl : cs.length = 2) (h : DataW.trod enc Tryz.prog W base spare b n 24 cs = some z) : ∃ x : ID, cs = cID x ∧ True := by
  obtain ⟨xs, k, _, _, _, hlen, hfs⟩ := DataW.trod_struct Tryz.underlying24 h
  have hlen' : xs.length = 2 := hlen
  have h0 := hfs 0 _ rfl
  have h1 := hfs 1 _ rfl
  rw [List.getElem?_eq_getElem (by omega : 0 < xs.length)] at h0
  rw [List.getElem?_eq_getElem (by omega : 1 < xs.length)] at h1
  match cs, hl with
  | [v0, v1], _ =>
    simp [Tryz.cellsI] at h0 h1
    obtain ⟨x, e0, _, _⟩ := DataW.trod_int Tryz.underlying3 h0
    obtain ⟨y, e1, _, _⟩ := DataW.trod_int Tryz.underlying3 h1
    injection e0 with e0
    injection e1 with e1
    subst e0 e1
    exact ⟨(x, y), rfl, trivial⟩
theorem each_mem (n : Nat) (cs : List Value) (z : DataW H × List MemPlace) (hl : cs.length = 4) (h : DataW.trod enc Tryz.prog W base spare b n 35 cs = some z) : ∃ x : Mem, cs = cMem x ∧ (0 ≤ x.st ∧ x.st < 256) := by
  obtain ⟨xs, k, _, _, _, hlen, hfs⟩ := DataW.trod_struct Tryz.underlying35 h
  have hlen' : xs.length = 3 := hlen
  have h0 := hfs 0 _ rfl
  have h1 := hfs 1 _ rfl
  have h2 := hfs 2 _ rfl
  rw [List.getElem?_eq_getElem (by omega : 0 < xs.length)] at h0
  rw [List.getElem?_eq_getElem (by omega : 1 < xs.length)] at h1
  rw [List.getElem?_eq_getElem (by omega : 2 < xs.length)] at h2
  match cs, hl with
  | [v0, v1, v2, v3], _ =>
    simp [Tryz.cellsI, Tryz.cellsU, Tryz.cellsId] at h0 h1 h2
    obtain ⟨p, hp, _⟩ := each_id _ _ _ rfl h0
    obtain ⟨x, e0, _, w0⟩ := DataW.trod_int Tryz.underlying5 h1
    obtain ⟨y, e1, _, _⟩ := DataW.trod_int Tryz.underlying3 h2
    injection e0 with e0
    injection e1 with e1
    injection hp with q0 q1
    injection q1 with q1 _
    subst e0 e1 q0 q1
    exact ⟨⟨p.1, p.2, x, y⟩, rfl, by have := w0; simp [Lit.wf, IntKind.min, IntKind.max, IntKind.bits, IntKind.signed] at this; simp only; omega⟩
theorem each_tick (n : Nat) (cs : List Value) (z : DataW H × List MemPlace) (hl : cs.length = 3) (h : DataW.trod enc Tryz.prog W base spare b n 27 cs = some z) : ∃ x : Tick, cs = cT x ∧ True := by
  obtain ⟨xs, k, _, _, _, hlen, hfs⟩ := DataW.trod_struct Tryz.underlying27 h
  have hlen' : xs.length = 2 := hlen
  have h0 := hfs 0 _ rfl
  have h1 := hfs 1 _ rfl
  rw [List.getElem?_eq_getElem (by omega : 0 < xs.length)] at h0
  rw [List.getElem?_eq_getElem (by omega : 1 < xs.length)] at h1
  match cs, hl with
  | [v0, v1, v2], _ =>
    simp [Tryz.cellsI, Tryz.cellsId] at h0 h1
    obtain ⟨p, hp, _⟩ := each_id _ _ _ rfl h0
    obtain ⟨y, e1, _, _⟩ := DataW.trod_int Tryz.underlying3 h1
    injection e1 with e1
    injection hp with q0 q1
    injection q1 with q1 _
    subst e1 q0 q1
    exact ⟨(p, y), rfl, trivial⟩
theorem Tryz.bytesId : Tryz.prog.bytesOf 24 = 16 := by kernel_rfl
theorem Tryz.bytesMem : Tryz.prog.bytesOf 35 = 32 := by kernel_rfl
theorem Tryz.bytesTick : Tryz.prog.bytesOf 27 = 24 := by kernel_rfl
theorem Tryz.bytesRow : Tryz.prog.bytesOf 37 = 48 := by kernel_rfl
theorem open_ids {fuel : Nat} {c : Value} {y : DataW H × List MemPlace} (hw : Wgh Tryz.prog 29 y.1) (hf : DataW.trod enc Tryz.prog W base spare b fuel 29 [c] = some y) : ∃ l : List ID, IsI W c l ∧ l.length ≤ 140737488351232 := by
  obtain ⟨A, n, cap, l, rfl, h1, h2, h3, h4, _, h6⟩ := open_listQ cID (fun _ => True) (fun _ => rfl) Tryz.underlying29 Tryz.cellsId (by omega) hw (fun n cs z hl _ h => each_id n cs z hl h) hf
  rw [Tryz.bytesId] at h6
  unfold reachBytes at h6
  exact ⟨l, ⟨A, n, cap, rfl, h3, h4⟩, by omega⟩
theorem each_row (n : Nat) (cs : List Value) (z : DataW H × List MemPlace) (hl : cs.length = 4) (hw : Wgh Tryz.prog 37 z.1) (h : DataW.trod enc Tryz.prog W base spare b n 37 cs = some z) : ∃ x : RowM × Value, cs = [.int .i64 x.1.of.1, .int .i64 x.1.of.2, .int .i64 x.1.ver, x.2] ∧ (IsI W x.2 x.1.no ∧ x.1.no.length ≤ 140737488351232) := by
  obtain ⟨xs, k, _, hz, _, hlen, hfs⟩ := DataW.trod_struct Tryz.underlying37 h
  rw [hz] at hw
  have hlen' : xs.length = 3 := hlen
  have h0 := hfs 0 _ rfl
  have h1 := hfs 1 _ rfl
  have h2 := hfs 2 _ rfl
  rw [List.getElem?_eq_getElem (by omega : 0 < xs.length)] at h0
  rw [List.getElem?_eq_getElem (by omega : 1 < xs.length)] at h1
  rw [List.getElem?_eq_getElem (by omega : 2 < xs.length)] at h2
  match cs, hl with
  | [v0, v1, v2, v3], _ =>
    simp [Tryz.cellsI, Tryz.cellsId, Tryz.cellsSl] at h0 h1 h2
    obtain ⟨p, hp, _⟩ := each_id _ _ _ rfl h0
    obtain ⟨y, e1, _, _⟩ := DataW.trod_int Tryz.underlying3 h1
    obtain ⟨l, hI, hml⟩ := open_ids (hw.part Tryz.underlying37 (j := 2) rfl (by simp [hlen'])) h2
    injection e1 with e1
    injection hp with q0 q1
    injection q1 with q1 _
    subst e1 q0 q1
    exact ⟨(⟨p, y, l⟩, v3), rfl, hI, hml⟩
instance : Inhabited (RowM × Value) := ⟨(row0, .bool false)⟩
theorem open_rows {fuel : Nat} {c : Value} {y : DataW H × List MemPlace} (hw : Wgh Tryz.prog 31 y.1) (hf : DataW.trod enc Tryz.prog W base spare b fuel 31 [c] = some y) : ∃ l : List RowM, IsR W c l ∧ l.length ≤ 140737488351232 ∧ ∀ r ∈ l, r.no.length ≤ 140737488351232 := by
  obtain ⟨A, n, cap, l, rfl, h1, h2, h3, h4, h5, h6⟩ := open_listQ (fun x : RowM × Value => [.int .i64 x.1.of.1, .int .i64 x.1.of.2, .int .i64 x.1.ver, x.2]) (fun x => IsI W x.2 x.1.no ∧ x.1.no.length ≤ 140737488351232) (fun _ => rfl) Tryz.underlying31 Tryz.cellsRow (by omega) hw each_row hf
  rw [Tryz.bytesRow] at h6
  unfold reachBytes at h6
  refine ⟨l.map (·.1), ⟨A, n, cap, rfl, by simpa using h3, fun i hi => ?_⟩, by simp; omega, fun r hr => ?_⟩
  · have hil : i < l.length := by omega
    have cell : ∀ j, j < 4 → ∃ g off x, A = some ⟨g, off, none⟩ ∧ ([.int .i64 l[i].1.of.1, .int .i64 l[i].1.of.2, .int .i64 l[i].1.ver, l[i].2] : List Value)[j]? = some x ∧ W.cell? ⟨g, off + (i * 4 + j), none⟩ = some x := fun j hj => by
      obtain ⟨g, off, x, e, hx, hc⟩ := h4.2 (i * 4 + j) (by omega)
      rw [flat_getQ _ 4 (fun _ => rfl) l i j hil hj] at hx
      exact ⟨g, off, x, e, hx, hc⟩
    obtain ⟨g, off, x0, rfl, e0, c0⟩ := cell 0 (by omega)
    obtain ⟨g1, off1, x1, e, e1, c1⟩ := cell 1 (by omega)
    cases e
    obtain ⟨g2, off2, x2, e, e2, c2⟩ := cell 2 (by omega)
    cases e
    obtain ⟨g3, off3, x3, e, e3, c3⟩ := cell 3 (by omega)
    cases e
    cases e0
    cases e1
    cases e2
    cases e3
    have hgd : (l.map (·.1)).getD i row0 = l[i].1 := by simp [List.getD_eq_getElem?_getD, hil]
    rw [hgd]
    exact ⟨g, off, l[i].2, rfl, c0, by rw [Nat.add_assoc]; exact c1, by rw [Nat.add_assoc]; exact c2, by rw [Nat.add_assoc]; exact c3, (h5 _ (List.getElem_mem _)).1⟩
  · obtain ⟨x, hx, rfl⟩ := List.mem_map.1 hr
    exact (h5 x hx).2
/-- v is a frame that came in. -/
def IsFrW (w : World) (v : Value) : Prop := ∃ (f : FrM) (m l r c s : Value), v = frV f m l r c s ∧ f.kind < 256 ∧ IsV w m l r c s f.view ∧ Fits f.view
theorem each_view {n : Nat} {cs : List Value} {z : DataW H × List MemPlace} (hl : cs.length = 5) (hw : Wgh Tryz.prog 33 z.1) (h : DataW.trod enc Tryz.prog W base spare b n 33 cs = some z) : ∃ (v : VwM) (m l r c s : Value), cs = [m, l, r, c, s] ∧ IsV W m l r c s v ∧ Fits v := by
  obtain ⟨xs, k, _, hz, _, hlen, hfs⟩ := DataW.trod_struct Tryz.underlying33 h
  rw [hz] at hw
  have hlen' : xs.length = 5 := hlen
  have h0 := hfs 0 _ rfl
  have h1 := hfs 1 _ rfl
  have h2 := hfs 2 _ rfl
  have h3 := hfs 3 _ rfl
  have h4 := hfs 4 _ rfl
  rw [List.getElem?_eq_getElem (by omega : 0 < xs.length)] at h0
  rw [List.getElem?_eq_getElem (by omega : 1 < xs.length)] at h1
  rw [List.getElem?_eq_getElem (by omega : 2 < xs.length)] at h2
  rw [List.getElem?_eq_getElem (by omega : 3 < xs.length)] at h3
  rw [List.getElem?_eq_getElem (by omega : 4 < xs.length)] at h4
  match cs, hl with
  | [v0, v1, v2, v3, v4], _ =>
    simp [Tryz.cellsSl] at h0 h1 h2 h3 h4
    have g0 := hw.part Tryz.underlying33 (j := 0) (d := xs[0].1) rfl (by simp [hlen'])
    have g1 := hw.part Tryz.underlying33 (j := 1) (d := xs[1].1) rfl (by simp [hlen'])
    have g2 := hw.part Tryz.underlying33 (j := 2) (d := xs[2].1) rfl (by simp [hlen'])
    have g3 := hw.part Tryz.underlying33 (j := 3) (d := xs[3].1) rfl (by simp [hlen'])
    have g4 := hw.part Tryz.underlying33 (j := 4) (d := xs[4].1) rfl (by simp [hlen'])
    obtain ⟨A0, n0, k0, l0, rfl, a1, a2, a3, a4, a5, a6⟩ := open_listQ cMem (fun x : Mem => 0 ≤ x.st ∧ x.st < 256) (fun _ => rfl) Tryz.underlying30 Tryz.cellsMem (by omega) g0 (fun n cs z hl _ h => each_mem n cs z hl h) h0
    obtain ⟨l1, b1, b2⟩ := open_ids g1 h1
    obtain ⟨l2, c1, c2, c3⟩ := open_rows g2 h2
    obtain ⟨A3, n3, k3, l3, rfl, d1, d2, d3, d4, _, d6⟩ := open_listQ cT (fun _ : Tick => True) (fun _ => rfl) Tryz.underlying28 Tryz.cellsTick (by omega) g3 (fun n cs z hl _ h => each_tick n cs z hl h) h3
    obtain ⟨l4, e1, e2⟩ := open_ids g4 h4
    rw [Tryz.bytesMem] at a6
    rw [Tryz.bytesTick] at d6
    unfold reachBytes at a6 d6
    exact ⟨⟨l0, l1, l2, l3, l4⟩, _, _, _, _, _, rfl, ⟨⟨A0, n0, k0, rfl, a3, a4⟩, b1, c1, ⟨A3, n3, k3, rfl, d3, d4⟩, e1, a5⟩, ⟨by simp only; omega, by simp only; omega, by simp only; omega, by simp only; omega, by simp only; omega, fun r hr => by have := c3 r hr; omega⟩⟩
theorem open_frameW {v : Value} {d : DataW H} {p : List MemPlace} (hv : Value.okWide Tryz.prog W .any base 39 v) (h : DataW.Trod enc Tryz.prog W 0 spare b 39 v d p) (hw : Wgh Tryz.prog 39 d) : IsFrW W v := by
  obtain ⟨cs, rfl, hsz⟩ := okWide_struct Tryz.underlying39 hv
  rw [Tryz.cellsFr] at hsz
  obtain ⟨L⟩ := cs
  obtain ⟨fuel, hf⟩ := h
  obtain ⟨xs, n, _, hz, _, hlen, hfs⟩ := DataW.trod_struct Tryz.underlying39 hf
  have hlen' : xs.length = 7 := hlen
  rw [(Prod.mk.inj hz).1] at hw
  have h0 := hfs 0 _ rfl
  have h1 := hfs 1 _ rfl
  have h2 := hfs 2 _ rfl
  have h3 := hfs 3 _ rfl
  have h4 := hfs 4 _ rfl
  have h5 := hfs 5 _ rfl
  have h6 := hfs 6 _ rfl
  rw [List.getElem?_eq_getElem (by omega : 0 < xs.length)] at h0
  rw [List.getElem?_eq_getElem (by omega : 1 < xs.length)] at h1
  rw [List.getElem?_eq_getElem (by omega : 2 < xs.length)] at h2
  rw [List.getElem?_eq_getElem (by omega : 3 < xs.length)] at h3
  rw [List.getElem?_eq_getElem (by omega : 4 < xs.length)] at h4
  rw [List.getElem?_eq_getElem (by omega : 5 < xs.length)] at h5
  rw [List.getElem?_eq_getElem (by omega : 6 < xs.length)] at h6
  match L, hsz with
  | [u0, u1, u2, u3, u4, u5, u6, u7, u8, u9, u10, u11, u12, u13], _ =>
    simp [Value.cells, Tryz.cellsU, Tryz.cellsId, Tryz.cellsI, Tryz.cellsView] at h0 h1 h2 h3 h4 h5 h6
    obtain ⟨k, ek, _, wk⟩ := DataW.trod_int Tryz.underlying5 h0
    obtain ⟨p1, hp1, _⟩ := each_id _ _ _ rfl h1
    obtain ⟨p2, hp2, _⟩ := each_id _ _ _ rfl h2
    obtain ⟨x3, e3, _, _⟩ := DataW.trod_int Tryz.underlying3 h3
    obtain ⟨x4, e4, _, _⟩ := DataW.trod_int Tryz.underlying3 h4
    obtain ⟨p5, hp5, _⟩ := each_id _ _ _ rfl h5
    have g6 := hw.part Tryz.underlying39 (j := 6) (d := xs[6].1) rfl (by simp [hlen'])
    obtain ⟨vw, vm, vl, vr, vc, vs, e6, hV, hF⟩ := each_view rfl g6 h6
    cases ek
    cases hp1
    cases hp2
    cases e3
    cases e4
    cases hp5
    cases e6
    have wk' : 0 ≤ k ∧ k < 256 := by have := wk; simp [Lit.wf, IntKind.min, IntKind.max, IntKind.bits, IntKind.signed] at this; omega
    refine ⟨⟨k.toNat, p1, p2, x3, x4, p5, vw⟩, u9, u10, u11, u12, u13, ?_, by simp only; omega, hV, hF⟩
    have : ((k.toNat : Nat) : Int) = k := Int.toNat_of_nonneg wk'.1
    simp only [frV, this]
end
theorem walkFrameBent {w : World} (v0 : Value) (w0 : IsFrW w v0) (a1 : Int) (w1 : (Lit.int .i64 a1).wf = true) (a2 : Int) (w2 : (Lit.int .u32 a2).wf = true) :
    Calls Tryz.prog 4 #[v0, .int .i64 a1, .int .u32 a2] w fun e w' => e = .returned (.bool true) ∧ Below w.heap.size w w' := by
  obtain ⟨f, m, l, r, c, s, rfl, hk, hv, hf⟩ := w0
  have h1 := w1
  have h2 := w2
  simp [Lit.wf, IntKind.min, IntKind.max, IntKind.bits, IntKind.signed] at h1 h2
  obtain ⟨x, rfl⟩ : ∃ x : Nat, a2 = (x : Int) := ⟨a2.toNat, by omega⟩
  exact (frameBent_tell f m l r c s a1 x w hk hv hf (by omega) (by omega)).mono fun _ _ ⟨h, k⟩ => ⟨h, k.b⟩
end Go.Proofs.YtgoldgamjogadaaGreat

namespace Go.Proofs.YtgoldgamjogadaaGreat
open Go.RowKit
section
variable {w w' : World} {e : TypeId} {k : Nat} {row : Option Nat} {A : Option Addr} {xs : List Value}
theorem run_append_new {P : Program} (t ty : TypeId) (i : TypeInfo) (z : Value) (bytes : Nat) (ht : P.underlying t = some (.slice e)) (hi : P.info? e = some i) (hz : i.zero = some z)
    (hsize : i.size = k) (hby : i.bytes = bytes) (hzs : z.cells.size = k) (hk : 0 < k) (h : SlK w e k row A 0 0 xs) {B : Option Addr} {m d : Nat} {ys : List Value} (hy : RdK w k B m ys) (h1 : ∀ u ∈ ys, u.oneCell' = true)
    (h63 : m ≤ maxLen) (hbytes : m * bytes ≤ 140737488355328) :
    ∃ row' A' c' w', (Builtin.append_ #[t, t] ty #[.slice A 0 0, .slice B m d]).run P w = .ok (.slice A' m c') w' ∧ SlK w' e k row' A' m c' ys ∧ Keep (fun _ => False) w w' ∧ (row' = row ∨ ∃ g, row' = some g ∧ w.heap.size ≤ g) := by
  have hxs : xs = [] := List.eq_nil_of_length_eq_zero (by simpa using h.1)
  subst hxs
  by_cases hm : m = 0
  · subst hm
    have hys : ys = [] := List.eq_nil_of_length_eq_zero (by simpa using hy.1)
    subst hys
    refine ⟨row, A, 0, w, ?_, h, Keep.refl _ _, .inl rfl⟩
    cases A <;> cases B <;> simp [Builtin.append_, run_underlying ht, sizeOf, typeInfo, hi, Builtin.lenOf, Builtin.firstCells, storeCells, loadCells, loadCellsFrom]
  · obtain ⟨row', A', c', w', hr, h2, h3⟩ := run_append_slK (P := P) t ty i z bytes ht hi hz hsize hby hzs hk h (d := d) hy h1 (by omega) (by rw [Nat.zero_add]; exact hbytes)
    rw [Nat.zero_add] at hr h2
    refine ⟨row', A', c', w', hr, by simpa using h2, ?_⟩
    rcases h3 with ⟨h3, _⟩ | ⟨_, _, h4, _⟩ | ⟨h4, g, h5, h6⟩
    · exact absurd h3 hm
    · have := h2.2.1; omega
    · exact ⟨h4, .inr ⟨g, h5, h6⟩⟩
theorem wp_append_new {P : Program} {o : Oper} {a : Act} {K : Act → World → Prop} {Q : Exit → Act → World → Prop} (s x : Operand) (t : TypeId)
    (ho : o.op = .call { callee := .builtin .append, args := #[s, x], argTypes := #[t, t] })
    (i : TypeInfo) (z : Value) (bytes : Nat) (ht : P.underlying t = some (.slice e)) (hi : P.info? e = some i) (hz : i.zero = some z)
    (hsize : i.size = k) (hby : i.bytes = bytes) (hzs : z.cells.size = k) (hk : 0 < k) (h : SlK w e k row A 0 0 xs) (hs : a.eval s = .slice A 0 0) {B : Option Addr} {m d : Nat} {ys : List Value} (hx : a.eval x = .slice B m d) (hy : RdK w k B m ys) (h1 : ∀ u ∈ ys, u.oneCell' = true)
    (h63 : m ≤ maxLen) (hbytes : m * bytes ≤ 140737488355328)
    (hK : ∀ row' A' c' w', SlK w' e k row' A' m c' ys → Keep (fun _ => False) w w' → (row' = row ∨ ∃ g, row' = some g ∧ w.heap.size ≤ g) → K (a.put o.dst (.slice A' m c')) w') : o.wp P a w K Q := by
  obtain ⟨row', A', c', w', hr, h2, h3, h4⟩ := run_append_new (P := P) t o.type i z bytes ht hi hz hsize hby hzs hk h (d := d) hy h1 h63 hbytes
  unfold Oper.wp execOp
  simp only [ho, resolve, invoke, builtin, Sem.run_bind, Sem.run_pure, Result.andThen_ok, List.map_toArray, List.map_cons, List.map_nil, hs, hx, hr]
  exact hK row' A' c' w' h2 h3 h4
theorem wpList_append_new {P : Program} {ops : Array Oper} {rest : List Oper} {o : Oper} {a : Act} {Q : Exit → Act → World → Prop} (hgd : o.guard = none) (s x : Operand) (t : TypeId)
    (ho : o.op = .call { callee := .builtin .append, args := #[s, x], argTypes := #[t, t] })
    (i : TypeInfo) (z : Value) (bytes : Nat) (ht : P.underlying t = some (.slice e)) (hi : P.info? e = some i) (hz : i.zero = some z)
    (hsize : i.size = k) (hby : i.bytes = bytes) (hzs : z.cells.size = k) (hk : 0 < k) (h : SlK w e k row A 0 0 xs) (hs : a.eval s = .slice A 0 0) {B : Option Addr} {m d : Nat} {ys : List Value} (hx : a.eval x = .slice B m d) (hy : RdK w k B m ys) (h1 : ∀ u ∈ ys, u.oneCell' = true)
    (h63 : m ≤ maxLen) (hbytes : m * bytes ≤ 140737488355328)
    (hK : ∀ row' A' c' w', SlK w' e k row' A' m c' ys → Keep (fun _ => False) w w' → (row' = row ∨ ∃ g, row' = some g ∧ w.heap.size ≤ g) → wpList P ops Q rest (a.put o.dst (.slice A' m c')) w') : wpList P ops Q (o :: rest) a w :=
  wpList_plain hgd fun _ hK' => wp_append_new s x t ho i z bytes ht hi hz hsize hby hzs hk h hs hx hy h1 h63 hbytes fun r' A' c' w' h2 h3 h4 => hK' _ _ (hK r' A' c' w' h2 h3 h4)
end
end Go.Proofs.YtgoldgamjogadaaGreat
