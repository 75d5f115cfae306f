/-
  Roster: RosterRow: Join is commutative, associative, idempotent. Written by gen_row.py.
-/
import Derived.Test.YthlfgjlnjmjppaaRosV
namespace Go.Proofs.Ythlfgjlnjmjppaa
open Go.RowKit
attribute [local irreducible] kAll
attribute [local go_sem] kQuiet kQuietUpon


set_option maxRecDepth 100000 in
set_option maxHeartbeats 2000000 in
theorem row_any (va vb vc : Value) (a b c : LI) (w : World) (ha : IsL w va a.1 a.2) (hb : IsL w vb b.1 b.2) (hc : IsL w vc c.1 c.2) :
    Calls Try.prog 5 #[va, vb, vc] w (Tell (.bool true) w) := by
  obtain ⟨Aa, na, ca, Ba_, ma, da, rfl, ha1, ha2⟩ := ha
  obtain ⟨Ab, nb, cb, Bb_, mb, db, rfl, hb1, hb2⟩ := hb
  obtain ⟨Ac, nc, cc, Bc_, mc, dc, rfl, hc1, hc2⟩ := hc
  have hk0 : Keep (fun _ => False) w (((w.alloc (.cells #[.slice Aa na ca, .slice Ba_ ma da] 25)).alloc (.cells #[.slice Ab nb cb, .slice Bb_ mb db] 25)).alloc (.cells #[.slice Ac nc cc, .slice Bc_ mc dc] 25)) := (((Keep.refl _ w).alloc _).alloc _).alloc _
  have b0 := ((Blk.new w 25 #[.slice Aa na ca, .slice Ba_ ma da]).alloc (.cells #[.slice Ab nb cb, .slice Bb_ mb db] 25)).alloc (.cells #[.slice Ac nc cc, .slice Bc_ mc dc] 25)
  have b1 := (Blk.new_ (w := w.alloc (.cells #[.slice Aa na ca, .slice Ba_ ma da] 25)) (B := w.heap.size + 1) (by simp) 25 #[.slice Ab nb cb, .slice Bb_ mb db]).alloc (.cells #[.slice Ac nc cc, .slice Bc_ mc dc] 25)
  have b2 := Blk.new_ (w := (w.alloc (.cells #[.slice Aa na ca, .slice Ba_ ma da] 25)).alloc (.cells #[.slice Ab nb cb, .slice Bb_ mb db] 25)) (B := w.heap.size + 1 + 1) (by simp) 25 #[.slice Ac nc cc, .slice Bc_ mc dc]
  generalize hw0 : ((w.alloc (.cells #[.slice Aa na ca, .slice Ba_ ma da] 25)).alloc (.cells #[.slice Ab nb cb, .slice Bb_ mb db] 25)).alloc (.cells #[.slice Ac nc cc, .slice Bc_ mc dc] 25) = w0 at *
  have HW0 := Lib.hid hw0
  have K0 := Lib.hid hk0
  have Ba := Lib.hid b0
  have Bb := Lib.hid b1
  have Bc := Lib.hid b2
  have FA : Hid (∀ W, Keep (fun _ => False) w0 W → IsL W (.agg #[.slice Aa na ca, .slice Ba_ ma da]) a.1 a.2) := Lib.hid fun W h => ⟨_, _, _, _, _, _, rfl, ha1.keep0 (keep0_trans _ _ _ hk0 h), ha2.keep0 (keep0_trans _ _ _ hk0 h)⟩
  have FB : Hid (∀ W, Keep (fun _ => False) w0 W → IsL W (.agg #[.slice Ab nb cb, .slice Bb_ mb db]) b.1 b.2) := Lib.hid fun W h => ⟨_, _, _, _, _, _, rfl, hb1.keep0 (keep0_trans _ _ _ hk0 h), hb2.keep0 (keep0_trans _ _ _ hk0 h)⟩
  have FC : Hid (∀ W, Keep (fun _ => False) w0 W → IsL W (.agg #[.slice Ac nc cc, .slice Bc_ mc dc]) c.1 c.2) := Lib.hid fun W h => ⟨_, _, _, _, _, _, rfl, hc1.keep0 (keep0_trans _ _ _ hk0 h), hc2.keep0 (keep0_trans _ _ _ hk0 h)⟩
  clear hk0 b0 b1 b2 ha1 ha2 hb1 hb2 hc1 hc2 hw0
  go_enter Try.func5, Try.ntmps5
  go_upto_region 1 with (fail)
  rw [HW0.out]
  clear HW0
  cases hbig : [a, b, c].any bigL
  · have HBig := Lib.hid hbig
    have hs : bigL a = false ∧ bigL b = false ∧ bigL c = false := by simpa using hbig
    have LA := Lib.hid (len_small hs.1)
    have LB := Lib.hid (len_small hs.2.1)
    have LC := Lib.hid (len_small hs.2.2)
    clear hs hbig
    refine wp_region_kord (Keep (fun _ => False)) (Keep.refl _) keep0_trans 9 (Ts := [some (.inl (.bool true)), none, none, some (.inl (.agg #[.slice Aa na ca, .slice Ba_ ma da])), some (.inl (.agg #[.slice Ab nb cb, .slice Bb_ mb db])), some (.inl (.agg #[.slice Ac nc cc, .slice Bc_ mc dc])), some (.inr (fun v W => IsLv W v [a, b, c])), some (.inl (.bool false)), none]) ?_
    simp only [List.take, List.drop]
    refine kAll_dn _ (fun W hW hF => kStep_of fun K Q hK => ?_) (fun K hK => ?_)
    · go_simp
      refine (works_any W).mono ?_
      rintro e w' ⟨rfl, hk⟩
      exact hK _ _ hk rfl
    go_simp
    generalize hZ : (Act.mk _ _) = Z
    refine hK Z ?_
    subst hZ
    clear hK K
    refine kAll_p (fun K hK => ?_)
    go_simp
    generalize hZ : (Act.mk _ _) = Z
    refine hK Z ?_
    subst hZ
    clear hK K
    refine kAll_p (fun K hK => ?_)
    go_simp
    generalize hZ : (Act.mk _ _) = Z
    refine hK Z ?_
    subst hZ
    clear hK K
    refine kAll_dn _ (fun W hW hF => kStep_w (by kernel_rfl) fun K Q hK => ?_) (fun K hK => ?_)
    · have e0 := (Ba.out.keep hW (fun h => h)).cell 0
      have e1 := (Ba.out.keep hW (fun h => h)).cell 1
      simp at e0 e1
      go_simp
      exact hK _ _ (Keep.refl _ _) rfl
    go_simp
    generalize hZ : (Act.mk _ _) = Z
    refine hK Z ?_
    subst hZ
    clear hK K
    refine kAll_dn _ (fun W hW hF => kStep_w (by kernel_rfl) fun K Q hK => ?_) (fun K hK => ?_)
    · have e0 := (Bb.out.keep hW (fun h => h)).cell 0
      have e1 := (Bb.out.keep hW (fun h => h)).cell 1
      simp at e0 e1
      go_simp
      exact hK _ _ (Keep.refl _ _) rfl
    go_simp
    generalize hZ : (Act.mk _ _) = Z
    refine hK Z ?_
    subst hZ
    clear hK K
    refine kAll_dn _ (fun W hW hF => kStep_w (by kernel_rfl) fun K Q hK => ?_) (fun K hK => ?_)
    · have e0 := (Bc.out.keep hW (fun h => h)).cell 0
      have e1 := (Bc.out.keep hW (fun h => h)).cell 1
      simp at e0 e1
      go_simp
      exact hK _ _ (Keep.refl _ _) rfl
    go_simp
    generalize hZ : (Act.mk _ _) = Z
    refine hK Z ?_
    subst hZ
    clear hK K
    refine kAll_tn _ (fun v W W' hk h => h.keep0 hk) (fun W hW hF => kStep_w (by kernel_rfl) fun K Q hK => ?_) (fun u0 K hK => ?_)
    · have h0 := FA.out W (hW)
      have h1 := FB.out W (hW)
      have h2 := FC.out W (hW)
      go_simp
      exact hK _ _ ((Keep.refl _ _).alloc _) (isLv3 h0 h1 h2)
    go_simp
    generalize hZ : (Act.mk _ _) = Z
    refine hK Z ?_
    subst hZ
    clear hK K
    refine kAll_dn _ (fun W hW hF => kStep_w (by kernel_rfl) fun K Q hK => ?_) (fun K hK => ?_)
    · have h0 : (fun v W => IsLv W v [a, b, c]) u0 W := kHas_at hF 0 rfl (by kernel_rfl)
      obtain ⟨A9, n9, c9, rfl, h9⟩ := h0
      go_simp
      refine (large_is _ [a, b, c] W false ⟨_, _, _, rfl, h9⟩ (by simp) HBig.out).mono ?_
      rintro e w' ⟨rfl, hk⟩
      exact hK _ _ hk rfl
    go_simp
    generalize hZ : (Act.mk _ _) = Z
    refine hK Z ?_
    subst hZ
    clear hK K
    refine kAll_p (fun K hK => ?_)
    go_simp
    generalize hZ : (Act.mk _ _) = Z
    refine hK Z ?_
    subst hZ
    clear hK K
    refine kAll_nil (fun W1 hW hF => ?_)
    clear hF
    have KW := Lib.hid (keep0_trans _ _ _ K0.out hW)
    have Ba1 := Lib.hid (Ba.out.keep hW (fun h => h))
    have Bb1 := Lib.hid (Bb.out.keep hW (fun h => h))
    have Bc1 := Lib.hid (Bc.out.keep hW (fun h => h))
    have FA1 := Lib.hid (fun W h => FA.out W (keep0_trans _ _ _ hW h))
    have FB1 := Lib.hid (fun W h => FB.out W (keep0_trans _ _ _ hW h))
    have FC1 := Lib.hid (fun W h => FC.out W (keep0_trans _ _ _ hW h))
    clear hW Ba Bb Bc FA FB FC
    have e0 := Ba1.out.cell 0
    have e1 := Ba1.out.cell 1
    have f0 := Bb1.out.cell 0
    have f1 := Bb1.out.cell 1
    simp at e0 e1 f0 f1
    go_wp2_with fail
    refine (joinl_any _ _ a b _ (FA1.out _ (Keep.refl _ _)) (FB1.out _ (Keep.refl _ _)) LA.out LB.out).mono ?_
    rintro e w2 ⟨u, rfl, hu, hk⟩
    obtain ⟨x, hx⟩ : ∃ x, x = joinL a b := ⟨_, rfl⟩
    have LX := Lib.hid (len_join a b)
    rw [← hx] at hu LX
    obtain ⟨Ax, nx, cx, Bx_, mx, dx, rfl, hx1, hx2⟩ := hu
    have HX := Lib.hid hx
    have kx : Keep (fun _ => False) W1 (w2.alloc (.cells #[.slice Ax nx cx, .slice Bx_ mx dx] 25)) := hk.alloc _
    have bx := Blk.new w2 25 #[.slice Ax nx cx, .slice Bx_ mx dx]
    have fx : ∀ W, Keep (fun _ => False) (w2.alloc (.cells #[.slice Ax nx cx, .slice Bx_ mx dx] 25)) W → IsL W (.agg #[.slice Ax nx cx, .slice Bx_ mx dx]) x.1 x.2 := fun W h => ⟨_, _, _, _, _, _, rfl, hx1.keep0 (keep0_trans _ _ _ ((Keep.refl _ w2).alloc _) h), hx2.keep0 (keep0_trans _ _ _ ((Keep.refl _ w2).alloc _) h)⟩
    have KX := Lib.hid kx
    have FX := Lib.hid fx
    have Bx := Lib.hid bx
    clear kx fx bx hx1 hx2 hx hk e0 e1 f0 f1
    go_wp2_with fail
    generalize hw3 : w2.alloc (.cells #[.slice Ax nx cx, .slice Bx_ mx dx] 25) = w3 at *
    clear hw3
    have Ba := Lib.hid (Ba1.out.keep KX.out (fun h => h))
    have Bb := Lib.hid (Bb1.out.keep KX.out (fun h => h))
    have Bc := Lib.hid (Bc1.out.keep KX.out (fun h => h))
    have FA := Lib.hid (fun W h => FA1.out W (keep0_trans _ _ _ KX.out h))
    have FB := Lib.hid (fun W h => FB1.out W (keep0_trans _ _ _ KX.out h))
    have FC := Lib.hid (fun W h => FC1.out W (keep0_trans _ _ _ KX.out h))
    have KW3 := Lib.hid (keep0_trans _ _ _ KW.out KX.out)
    clear Ba1 Bb1 Bc1 FA1 FB1 FC1 KX KW
    refine wp_region_krip (Keep (fun _ => False)) (Keep.refl _) keep0_trans 34 (by kernel_rfl) (by kernel_rfl) (Ts := [some (.inl (.agg #[.slice Ax nx cx, .slice Bx_ mx dx])), some (.inl (.agg #[.slice Ab nb cb, .slice Bb_ mb db])), some (.inl (.agg #[.slice Aa na ca, .slice Ba_ ma da])), some (.inr (fun v W => IsL W v (joinL b a).1 (joinL b a).2)), some (.inl (.bool true)), none, none, some (.inl (.agg #[.slice Ax nx cx, .slice Bx_ mx dx])), some (.inl (.agg #[.slice Ac nc cc, .slice Bc_ mc dc])), some (.inr (fun v W => IsL W v (joinL x c).1 (joinL x c).2)), some (.inl (.agg #[.slice Aa na ca, .slice Ba_ ma da])), some (.inl (.agg #[.slice Ab nb cb, .slice Bb_ mb db])), some (.inl (.agg #[.slice Ac nc cc, .slice Bc_ mc dc])), some (.inr (fun v W => IsL W v (joinL b c).1 (joinL b c).2)), some (.inr (fun v W => IsL W v (joinL a (joinL b c)).1 (joinL a (joinL b c)).2)), some (.inl (.bool true)), none, none, none, some (.inl (.agg #[.slice Ax nx cx, .slice Bx_ mx dx])), some (.inl (.agg #[.slice Aa na ca, .slice Ba_ ma da])), some (.inr (fun v W => IsL W v (joinL x a).1 (joinL x a).2)), some (.inl (.agg #[.slice Ax nx cx, .slice Bx_ mx dx])), some (.inl (.bool true)), none, none, none, some (.inl (.agg #[.slice Ax nx cx, .slice Bx_ mx dx])), some (.inl (.agg #[.slice Ax nx cx, .slice Bx_ mx dx])), some (.inr (fun v W => IsL W v (joinL x x).1 (joinL x x).2)), some (.inl (.agg #[.slice Ax nx cx, .slice Bx_ mx dx])), some (.inl (.bool true)), none, none]) ?_
    simp only [List.take, List.drop]
    refine kAll_dn _ (fun W hW hF => kStep_of fun K Q hK => ?_) (fun K hK => ?_)
    · have e0 := (Bx.out.drew.keep hW (fun h => h)).cell 0
      have e1 := (Bx.out.drew.keep hW (fun h => h)).cell 1
      simp at e0 e1
      go_simp
      exact hK _ _ (Keep.refl _ _) rfl
    go_simp
    generalize hZ : (Act.mk _ _) = Z
    refine hK Z ?_
    subst hZ
    clear hK K
    refine kAll_dn _ (fun W hW hF => kStep_of fun K Q hK => ?_) (fun K hK => ?_)
    · have e0 := (Bb.out.drew.keep hW (fun h => h)).cell 0
      have e1 := (Bb.out.drew.keep hW (fun h => h)).cell 1
      simp at e0 e1
      go_simp
      exact hK _ _ (Keep.refl _ _) rfl
    go_simp
    generalize hZ : (Act.mk _ _) = Z
    refine hK Z ?_
    subst hZ
    clear hK K
    refine kAll_dn _ (fun W hW hF => kStep_of fun K Q hK => ?_) (fun K hK => ?_)
    · have e0 := (Ba.out.drew.keep hW (fun h => h)).cell 0
      have e1 := (Ba.out.drew.keep hW (fun h => h)).cell 1
      simp at e0 e1
      go_simp
      exact hK _ _ (Keep.refl _ _) rfl
    go_simp
    generalize hZ : (Act.mk _ _) = Z
    refine hK Z ?_
    subst hZ
    clear hK K
    refine kAll_tn _ (fun v W W' hk h => h.keep0 hk) (fun W hW hF => kStep_of fun K Q hK => ?_) (fun u0 K hK => ?_)
    · have h0 := FB.out W (keepD (Keep.refl _ _) hW)
      have h1 := FA.out W (keepD (Keep.refl _ _) hW)
      go_simp
      refine (joinl_any _ _ b a W h0 h1 LB.out LA.out).mono ?_
      rintro e w' ⟨u, rfl, hu, hk⟩
      exact hK _ _ hk hu
    go_simp
    generalize hZ : (Act.mk _ _) = Z
    refine hK Z ?_
    subst hZ
    clear hK K
    refine kAll_dn _ (fun W hW hF => kStep_of fun K Q hK => ?_) (fun K hK => ?_)
    · have h0 := FX.out W (keepD (Keep.refl _ _) hW)
      have h1 : (fun v W => IsL W v (joinL b a).1 (joinL b a).2) u0 W := kHas_at hF 0 rfl (by kernel_rfl)
      go_simp
      refine (samel_is _ _ x (joinL b a) W true h0 h1 LX.out (len_join _ _) (decide_eq_true (HX.out.trans (join_comm a b)))).mono ?_
      rintro e w' ⟨rfl, hk⟩
      exact hK _ _ hk rfl
    go_simp
    generalize hZ : (Act.mk _ _) = Z
    refine hK Z ?_
    subst hZ
    clear hK K
    refine kAll_p (fun K hK => ?_)
    go_simp
    generalize hZ : (Act.mk _ _) = Z
    refine hK Z ?_
    subst hZ
    clear hK K
    refine kAll_p (fun K hK => ?_)
    go_simp
    generalize hZ : (Act.mk _ _) = Z
    refine hK Z ?_
    subst hZ
    clear hK K
    refine kAll_dn _ (fun W hW hF => kStep_w (by kernel_rfl) fun K Q hK => ?_) (fun K hK => ?_)
    · have e0 := (Bx.out.drew.keep hW (fun h => h)).cell 0
      have e1 := (Bx.out.drew.keep hW (fun h => h)).cell 1
      simp at e0 e1
      go_simp
      exact hK _ _ (Keep.refl _ _) rfl
    go_simp
    generalize hZ : (Act.mk _ _) = Z
    refine hK Z ?_
    subst hZ
    clear hK K
    refine kAll_dn _ (fun W hW hF => kStep_w (by kernel_rfl) fun K Q hK => ?_) (fun K hK => ?_)
    · have e0 := (Bc.out.drew.keep hW (fun h => h)).cell 0
      have e1 := (Bc.out.drew.keep hW (fun h => h)).cell 1
      simp at e0 e1
      go_simp
      exact hK _ _ (Keep.refl _ _) rfl
    go_simp
    generalize hZ : (Act.mk _ _) = Z
    refine hK Z ?_
    subst hZ
    clear hK K
    refine kAll_tn _ (fun v W W' hk h => h.keep0 hk) (fun W hW hF => kStep_w (by kernel_rfl) fun K Q hK => ?_) (fun u1 K hK => ?_)
    · have h0 := FX.out W (keepD (Keep.refl _ _) hW)
      have h1 := FC.out W (keepD (Keep.refl _ _) hW)
      go_simp
      refine (joinl_any _ _ x c W h0 h1 LX.out LC.out).mono ?_
      rintro e w' ⟨u, rfl, hu, hk⟩
      exact hK _ _ hk hu
    go_simp
    generalize hZ : (Act.mk _ _) = Z
    refine hK Z ?_
    subst hZ
    clear hK K
    refine kAll_dn _ (fun W hW hF => kStep_w (by kernel_rfl) fun K Q hK => ?_) (fun K hK => ?_)
    · have e0 := (Ba.out.drew.keep hW (fun h => h)).cell 0
      have e1 := (Ba.out.drew.keep hW (fun h => h)).cell 1
      simp at e0 e1
      go_simp
      exact hK _ _ (Keep.refl _ _) rfl
    go_simp
    generalize hZ : (Act.mk _ _) = Z
    refine hK Z ?_
    subst hZ
    clear hK K
    refine kAll_dn _ (fun W hW hF => kStep_w (by kernel_rfl) fun K Q hK => ?_) (fun K hK => ?_)
    · have e0 := (Bb.out.drew.keep hW (fun h => h)).cell 0
      have e1 := (Bb.out.drew.keep hW (fun h => h)).cell 1
      simp at e0 e1
      go_simp
      exact hK _ _ (Keep.refl _ _) rfl
    go_simp
    generalize hZ : (Act.mk _ _) = Z
    refine hK Z ?_
    subst hZ
    clear hK K
    refine kAll_dn _ (fun W hW hF => kStep_w (by kernel_rfl) fun K Q hK => ?_) (fun K hK => ?_)
    · have e0 := (Bc.out.drew.keep hW (fun h => h)).cell 0
      have e1 := (Bc.out.drew.keep hW (fun h => h)).cell 1
      simp at e0 e1
      go_simp
      exact hK _ _ (Keep.refl _ _) rfl
    go_simp
    generalize hZ : (Act.mk _ _) = Z
    refine hK Z ?_
    subst hZ
    clear hK K
    refine kAll_tn _ (fun v W W' hk h => h.keep0 hk) (fun W hW hF => kStep_w (by kernel_rfl) fun K Q hK => ?_) (fun u2 K hK => ?_)
    · have h0 := FB.out W (keepD (Keep.refl _ _) hW)
      have h1 := FC.out W (keepD (Keep.refl _ _) hW)
      go_simp
      refine (joinl_any _ _ b c W h0 h1 LB.out LC.out).mono ?_
      rintro e w' ⟨u, rfl, hu, hk⟩
      exact hK _ _ hk hu
    go_simp
    generalize hZ : (Act.mk _ _) = Z
    refine hK Z ?_
    subst hZ
    clear hK K
    refine kAll_tn _ (fun v W W' hk h => h.keep0 hk) (fun W hW hF => kStep_w (by kernel_rfl) fun K Q hK => ?_) (fun u3 K hK => ?_)
    · have h0 := FA.out W (keepD (Keep.refl _ _) hW)
      have h1 : (fun v W => IsL W v (joinL b c).1 (joinL b c).2) u2 W := kHas_at hF 0 rfl (by kernel_rfl)
      go_simp
      refine (joinl_any _ _ a (joinL b c) W h0 h1 LA.out (len_join _ _)).mono ?_
      rintro e w' ⟨u, rfl, hu, hk⟩
      exact hK _ _ hk hu
    go_simp
    generalize hZ : (Act.mk _ _) = Z
    refine hK Z ?_
    subst hZ
    clear hK K
    refine kAll_dn _ (fun W hW hF => kStep_w (by kernel_rfl) fun K Q hK => ?_) (fun K hK => ?_)
    · have h0 : (fun v W => IsL W v (joinL x c).1 (joinL x c).2) u1 W := kHas_at hF 2 rfl (by kernel_rfl)
      have h1 : (fun v W => IsL W v (joinL a (joinL b c)).1 (joinL a (joinL b c)).2) u3 W := kHas_at hF 0 rfl (by kernel_rfl)
      go_simp
      refine (samel_is _ _ (joinL x c) (joinL a (joinL b c)) W true h0 h1 (len_join _ _) (len_join _ _) (decide_eq_true (by rw [HX.out]; exact join_assoc a b c))).mono ?_
      rintro e w' ⟨rfl, hk⟩
      exact hK _ _ hk rfl
    go_simp
    generalize hZ : (Act.mk _ _) = Z
    refine hK Z ?_
    subst hZ
    clear hK K
    refine kAll_pw (by kernel_rfl) (fun K hK => ?_)
    go_simp
    generalize hZ : (Act.mk _ _) = Z
    refine hK Z ?_
    subst hZ
    clear hK K
    refine kAll_p (fun K hK => ?_)
    go_simp
    generalize hZ : (Act.mk _ _) = Z
    refine hK Z ?_
    subst hZ
    clear hK K
    refine kAll_p (fun K hK => ?_)
    go_simp
    generalize hZ : (Act.mk _ _) = Z
    refine hK Z ?_
    subst hZ
    clear hK K
    refine kAll_dn _ (fun W hW hF => kStep_w (by kernel_rfl) fun K Q hK => ?_) (fun K hK => ?_)
    · have e0 := (Bx.out.drew.keep hW (fun h => h)).cell 0
      have e1 := (Bx.out.drew.keep hW (fun h => h)).cell 1
      simp at e0 e1
      go_simp
      exact hK _ _ (Keep.refl _ _) rfl
    go_simp
    generalize hZ : (Act.mk _ _) = Z
    refine hK Z ?_
    subst hZ
    clear hK K
    refine kAll_dn _ (fun W hW hF => kStep_w (by kernel_rfl) fun K Q hK => ?_) (fun K hK => ?_)
    · have e0 := (Ba.out.drew.keep hW (fun h => h)).cell 0
      have e1 := (Ba.out.drew.keep hW (fun h => h)).cell 1
      simp at e0 e1
      go_simp
      exact hK _ _ (Keep.refl _ _) rfl
    go_simp
    generalize hZ : (Act.mk _ _) = Z
    refine hK Z ?_
    subst hZ
    clear hK K
    refine kAll_tn _ (fun v W W' hk h => h.keep0 hk) (fun W hW hF => kStep_w (by kernel_rfl) fun K Q hK => ?_) (fun u4 K hK => ?_)
    · have h0 := FX.out W (keepD (Keep.refl _ _) hW)
      have h1 := FA.out W (keepD (Keep.refl _ _) hW)
      go_simp
      refine (joinl_any _ _ x a W h0 h1 LX.out LA.out).mono ?_
      rintro e w' ⟨u, rfl, hu, hk⟩
      exact hK _ _ hk hu
    go_simp
    generalize hZ : (Act.mk _ _) = Z
    refine hK Z ?_
    subst hZ
    clear hK K
    refine kAll_dn _ (fun W hW hF => kStep_w (by kernel_rfl) fun K Q hK => ?_) (fun K hK => ?_)
    · have e0 := (Bx.out.drew.keep hW (fun h => h)).cell 0
      have e1 := (Bx.out.drew.keep hW (fun h => h)).cell 1
      simp at e0 e1
      go_simp
      exact hK _ _ (Keep.refl _ _) rfl
    go_simp
    generalize hZ : (Act.mk _ _) = Z
    refine hK Z ?_
    subst hZ
    clear hK K
    refine kAll_dn _ (fun W hW hF => kStep_w (by kernel_rfl) fun K Q hK => ?_) (fun K hK => ?_)
    · have h0 : (fun v W => IsL W v (joinL x a).1 (joinL x a).2) u4 W := kHas_at hF 0 rfl (by kernel_rfl)
      have h1 := FX.out W (keepD (Keep.refl _ _) hW)
      go_simp
      refine (samel_is _ _ (joinL x a) x W true h0 h1 (len_join _ _) LX.out (decide_eq_true (by rw [HX.out]; exact join_again a b))).mono ?_
      rintro e w' ⟨rfl, hk⟩
      exact hK _ _ hk rfl
    go_simp
    generalize hZ : (Act.mk _ _) = Z
    refine hK Z ?_
    subst hZ
    clear hK K
    refine kAll_pw (by kernel_rfl) (fun K hK => ?_)
    go_simp
    generalize hZ : (Act.mk _ _) = Z
    refine hK Z ?_
    subst hZ
    clear hK K
    refine kAll_p (fun K hK => ?_)
    go_simp
    generalize hZ : (Act.mk _ _) = Z
    refine hK Z ?_
    subst hZ
    clear hK K
    refine kAll_p (fun K hK => ?_)
    go_simp
    generalize hZ : (Act.mk _ _) = Z
    refine hK Z ?_
    subst hZ
    clear hK K
    refine kAll_dn _ (fun W hW hF => kStep_w (by kernel_rfl) fun K Q hK => ?_) (fun K hK => ?_)
    · have e0 := (Bx.out.drew.keep hW (fun h => h)).cell 0
      have e1 := (Bx.out.drew.keep hW (fun h => h)).cell 1
      simp at e0 e1
      go_simp
      exact hK _ _ (Keep.refl _ _) rfl
    go_simp
    generalize hZ : (Act.mk _ _) = Z
    refine hK Z ?_
    subst hZ
    clear hK K
    refine kAll_dn _ (fun W hW hF => kStep_w (by kernel_rfl) fun K Q hK => ?_) (fun K hK => ?_)
    · have e0 := (Bx.out.drew.keep hW (fun h => h)).cell 0
      have e1 := (Bx.out.drew.keep hW (fun h => h)).cell 1
      simp at e0 e1
      go_simp
      exact hK _ _ (Keep.refl _ _) rfl
    go_simp
    generalize hZ : (Act.mk _ _) = Z
    refine hK Z ?_
    subst hZ
    clear hK K
    refine kAll_tn _ (fun v W W' hk h => h.keep0 hk) (fun W hW hF => kStep_w (by kernel_rfl) fun K Q hK => ?_) (fun u5 K hK => ?_)
    · have h0 := FX.out W (keepD (Keep.refl _ _) hW)
      have h1 := FX.out W (keepD (Keep.refl _ _) hW)
      go_simp
      refine (joinl_any _ _ x x W h0 h1 LX.out LX.out).mono ?_
      rintro e w' ⟨u, rfl, hu, hk⟩
      exact hK _ _ hk hu
    go_simp
    generalize hZ : (Act.mk _ _) = Z
    refine hK Z ?_
    subst hZ
    clear hK K
    refine kAll_dn _ (fun W hW hF => kStep_w (by kernel_rfl) fun K Q hK => ?_) (fun K hK => ?_)
    · have e0 := (Bx.out.drew.keep hW (fun h => h)).cell 0
      have e1 := (Bx.out.drew.keep hW (fun h => h)).cell 1
      simp at e0 e1
      go_simp
      exact hK _ _ (Keep.refl _ _) rfl
    go_simp
    generalize hZ : (Act.mk _ _) = Z
    refine hK Z ?_
    subst hZ
    clear hK K
    refine kAll_dn _ (fun W hW hF => kStep_w (by kernel_rfl) fun K Q hK => ?_) (fun K hK => ?_)
    · have h0 : (fun v W => IsL W v (joinL x x).1 (joinL x x).2) u5 W := kHas_at hF 0 rfl (by kernel_rfl)
      have h1 := FX.out W (keepD (Keep.refl _ _) hW)
      go_simp
      refine (samel_is _ _ (joinL x x) x W true h0 h1 (len_join _ _) LX.out (decide_eq_true (by rw [HX.out]; exact join_self a b))).mono ?_
      rintro e w' ⟨rfl, hk⟩
      exact hK _ _ hk rfl
    go_simp
    generalize hZ : (Act.mk _ _) = Z
    refine hK Z ?_
    subst hZ
    clear hK K
    refine kAll_pw (by kernel_rfl) (fun K hK => ?_)
    go_simp
    generalize hZ : (Act.mk _ _) = Z
    refine hK Z ?_
    subst hZ
    clear hK K
    refine kAll_p (fun K hK => ?_)
    go_simp
    generalize hZ : (Act.mk _ _) = Z
    refine hK Z ?_
    subst hZ
    clear hK K
    refine kAll_nil (fun W4 hW hF => ?_)
    clear hF
    have hW' := keepD (Keep.refl _ _) hW
    have KW4 := Lib.hid (keep0_trans _ _ _ KW3.out hW')
    have Ba4 := Lib.hid (Ba.out.keep hW' (fun h => h))
    have FA4 := Lib.hid (fun W h => FA.out W (keep0_trans _ _ _ hW' h))
    clear hW hW' Ba FA
    have Ba := Ba4
    have FA := FA4
    clear Ba4 FA4
    cases hmay : mayT a.1 a.2
    · have HMay := Lib.hid hmay
      clear hmay
      go_wp2_with fail
      refine wp_region_krip (Keep (fun _ => False)) (Keep.refl _) keep0_trans 20 (by kernel_rfl) (by kernel_rfl) (Ts := [none, some (.inl (.slice Aa na ca)), none, some (.inl (.slice Ba_ ma da)), some (.inl (.bool false)), none, none, none, none, none, none, none, none, none, none, none, none, none, none, none]) ?_
      simp only [List.take, List.drop]
      refine kAll_p (fun K hK => ?_)
      go_simp
      generalize hZ : (Act.mk _ _) = Z
      refine hK Z ?_
      subst hZ
      clear hK K
      refine kAll_dn _ (fun W hW hF => kStep_of fun K Q hK => ?_) (fun K hK => ?_)
      · have e0 := (Ba.out.drew.keep hW (fun h => h)).cell 0
        simp at e0
        go_simp
        exact hK _ _ (Keep.refl _ _) rfl
      go_simp
      generalize hZ : (Act.mk _ _) = Z
      refine hK Z ?_
      subst hZ
      clear hK K
      refine kAll_p (fun K hK => ?_)
      go_simp
      generalize hZ : (Act.mk _ _) = Z
      refine hK Z ?_
      subst hZ
      clear hK K
      refine kAll_dn _ (fun W hW hF => kStep_of fun K Q hK => ?_) (fun K hK => ?_)
      · have e1 := (Ba.out.drew.keep hW (fun h => h)).cell 1
        simp at e1
        go_simp
        exact hK _ _ (Keep.refl _ _) rfl
      go_simp
      generalize hZ : (Act.mk _ _) = Z
      refine hK Z ?_
      subst hZ
      clear hK K
      refine kAll_dn _ (fun W hW hF => kStep_of fun K Q hK => ?_) (fun K hK => ?_)
      · have h0 := FA.out W (keepD (Keep.refl _ _) hW)
        have hl := LA.out
        go_simp
        refine (rmay_is _ _ (a).1 (a).2 W false (isM_of h0) (isF_of h0) hl.1 hl.2 HMay.out).mono ?_
        rintro e w' ⟨rfl, hk⟩
        exact hK _ _ hk rfl
      go_simp
      generalize hZ : (Act.mk _ _) = Z
      refine hK Z ?_
      subst hZ
      clear hK K
      refine kAll_p (fun K hK => ?_)
      go_simp
      generalize hZ : (Act.mk _ _) = Z
      refine hK Z ?_
      subst hZ
      clear hK K
      refine kAll_p (fun K hK => ?_)
      go_simp
      generalize hZ : (Act.mk _ _) = Z
      refine hK Z ?_
      subst hZ
      clear hK K
      refine kAll_skip (by kernel_rfl) ?_
      refine kAll_skip (by kernel_rfl) ?_
      refine kAll_skip (by kernel_rfl) ?_
      refine kAll_skip (by kernel_rfl) ?_
      refine kAll_skip (by kernel_rfl) ?_
      refine kAll_skip (by kernel_rfl) ?_
      refine kAll_skip (by kernel_rfl) ?_
      refine kAll_skip (by kernel_rfl) ?_
      refine kAll_skip (by kernel_rfl) ?_
      refine kAll_skip (by kernel_rfl) ?_
      refine kAll_skip (by kernel_rfl) ?_
      refine kAll_skip (by kernel_rfl) ?_
      refine kAll_p (fun K hK => ?_)
      go_simp
      generalize hZ : (Act.mk _ _) = Z
      refine hK Z ?_
      subst hZ
      clear hK K
      refine kAll_nil (fun W5 hW hF => ?_)
      clear hF
      go_wp2
      go_ret
      exact ⟨rfl, keep0_trans _ _ _ KW4.out (keepD (Keep.refl _ _) hW)⟩
    · have HMay := Lib.hid hmay
      clear hmay
      go_wp2_with fail
      refine wp_region_krip (Keep (fun _ => False)) (Keep.refl _) keep0_trans 20 (by kernel_rfl) (by kernel_rfl) (Ts := [none, some (.inl (.slice Aa na ca)), none, some (.inl (.slice Ba_ ma da)), some (.inl (.bool true)), none, none, some (.inl (.agg #[.slice Aa na ca, .slice Ba_ ma da])), some (.inl (.agg #[.slice Aa na ca, .slice Ba_ ma da])), some (.inr (fun v W => IsL W v (joinL a a).1 (joinL a a).2)), some (.inl (.agg #[.slice Aa na ca, .slice Ba_ ma da])), some (.inl (.bool true)), none, some (.inl (.agg #[.slice Aa na ca, .slice Ba_ ma da])), none, some (.inr (fun v W => IsL W v (joinL a (([], []) : LI)).1 (joinL a (([], []) : LI)).2)), some (.inl (.agg #[.slice Aa na ca, .slice Ba_ ma da])), some (.inl (.bool true)), none, none]) ?_
      simp only [List.take, List.drop]
      refine kAll_p (fun K hK => ?_)
      go_simp
      generalize hZ : (Act.mk _ _) = Z
      refine hK Z ?_
      subst hZ
      clear hK K
      refine kAll_dn _ (fun W hW hF => kStep_of fun K Q hK => ?_) (fun K hK => ?_)
      · have e0 := (Ba.out.drew.keep hW (fun h => h)).cell 0
        simp at e0
        go_simp
        exact hK _ _ (Keep.refl _ _) rfl
      go_simp
      generalize hZ : (Act.mk _ _) = Z
      refine hK Z ?_
      subst hZ
      clear hK K
      refine kAll_p (fun K hK => ?_)
      go_simp
      generalize hZ : (Act.mk _ _) = Z
      refine hK Z ?_
      subst hZ
      clear hK K
      refine kAll_dn _ (fun W hW hF => kStep_of fun K Q hK => ?_) (fun K hK => ?_)
      · have e1 := (Ba.out.drew.keep hW (fun h => h)).cell 1
        simp at e1
        go_simp
        exact hK _ _ (Keep.refl _ _) rfl
      go_simp
      generalize hZ : (Act.mk _ _) = Z
      refine hK Z ?_
      subst hZ
      clear hK K
      refine kAll_dn _ (fun W hW hF => kStep_of fun K Q hK => ?_) (fun K hK => ?_)
      · have h0 := FA.out W (keepD (Keep.refl _ _) hW)
        have hl := LA.out
        go_simp
        refine (rmay_is _ _ (a).1 (a).2 W true (isM_of h0) (isF_of h0) hl.1 hl.2 HMay.out).mono ?_
        rintro e w' ⟨rfl, hk⟩
        exact hK _ _ hk rfl
      go_simp
      generalize hZ : (Act.mk _ _) = Z
      refine hK Z ?_
      subst hZ
      clear hK K
      refine kAll_p (fun K hK => ?_)
      go_simp
      generalize hZ : (Act.mk _ _) = Z
      refine hK Z ?_
      subst hZ
      clear hK K
      refine kAll_p (fun K hK => ?_)
      go_simp
      generalize hZ : (Act.mk _ _) = Z
      refine hK Z ?_
      subst hZ
      clear hK K
      refine kAll_dn _ (fun W hW hF => kStep_w (by kernel_rfl) fun K Q hK => ?_) (fun K hK => ?_)
      · have e0 := (Ba.out.drew.keep hW (fun h => h)).cell 0
        have e1 := (Ba.out.drew.keep hW (fun h => h)).cell 1
        simp at e0 e1
        go_simp
        exact hK _ _ (Keep.refl _ _) rfl
      go_simp
      generalize hZ : (Act.mk _ _) = Z
      refine hK Z ?_
      subst hZ
      clear hK K
      refine kAll_dn _ (fun W hW hF => kStep_w (by kernel_rfl) fun K Q hK => ?_) (fun K hK => ?_)
      · have e0 := (Ba.out.drew.keep hW (fun h => h)).cell 0
        have e1 := (Ba.out.drew.keep hW (fun h => h)).cell 1
        simp at e0 e1
        go_simp
        exact hK _ _ (Keep.refl _ _) rfl
      go_simp
      generalize hZ : (Act.mk _ _) = Z
      refine hK Z ?_
      subst hZ
      clear hK K
      refine kAll_tn _ (fun v W W' hk h => h.keep0 hk) (fun W hW hF => kStep_w (by kernel_rfl) fun K Q hK => ?_) (fun u0 K hK => ?_)
      · have h0 := FA.out W (keepD (Keep.refl _ _) hW)
        have h1 := FA.out W (keepD (Keep.refl _ _) hW)
        go_simp
        refine (joinl_any _ _ a a W h0 h1 LA.out LA.out).mono ?_
        rintro e w' ⟨u, rfl, hu, hk⟩
        exact hK _ _ hk hu
      go_simp
      generalize hZ : (Act.mk _ _) = Z
      refine hK Z ?_
      subst hZ
      clear hK K
      refine kAll_dn _ (fun W hW hF => kStep_w (by kernel_rfl) fun K Q hK => ?_) (fun K hK => ?_)
      · have e0 := (Ba.out.drew.keep hW (fun h => h)).cell 0
        have e1 := (Ba.out.drew.keep hW (fun h => h)).cell 1
        simp at e0 e1
        go_simp
        exact hK _ _ (Keep.refl _ _) rfl
      go_simp
      generalize hZ : (Act.mk _ _) = Z
      refine hK Z ?_
      subst hZ
      clear hK K
      refine kAll_dn _ (fun W hW hF => kStep_w (by kernel_rfl) fun K Q hK => ?_) (fun K hK => ?_)
      · have h0 : (fun v W => IsL W v (joinL a a).1 (joinL a a).2) u0 W := kHas_at hF 0 rfl (by kernel_rfl)
        have h1 := FA.out W (keepD (Keep.refl _ _) hW)
        go_simp
        refine (samel_is _ _ (joinL a a) a W true h0 h1 (len_join _ _) LA.out (decide_eq_true (join_own a (mayT_iff.1 HMay.out)))).mono ?_
        rintro e w' ⟨rfl, hk⟩
        exact hK _ _ hk rfl
      go_simp
      generalize hZ : (Act.mk _ _) = Z
      refine hK Z ?_
      subst hZ
      clear hK K
      refine kAll_pw (by kernel_rfl) (fun K hK => ?_)
      go_simp
      generalize hZ : (Act.mk _ _) = Z
      refine hK Z ?_
      subst hZ
      clear hK K
      refine kAll_dn _ (fun W hW hF => kStep_w (by kernel_rfl) fun K Q hK => ?_) (fun K hK => ?_)
      · have e0 := (Ba.out.drew.keep hW (fun h => h)).cell 0
        have e1 := (Ba.out.drew.keep hW (fun h => h)).cell 1
        simp at e0 e1
        go_simp
        exact hK _ _ (Keep.refl _ _) rfl
      go_simp
      generalize hZ : (Act.mk _ _) = Z
      refine hK Z ?_
      subst hZ
      clear hK K
      refine kAll_pw (by kernel_rfl) (fun K hK => ?_)
      go_simp
      generalize hZ : (Act.mk _ _) = Z
      refine hK Z ?_
      subst hZ
      clear hK K
      refine kAll_tn _ (fun v W W' hk h => h.keep0 hk) (fun W hW hF => kStep_w (by kernel_rfl) fun K Q hK => ?_) (fun u1 K hK => ?_)
      · have h0 := FA.out W (keepD (Keep.refl _ _) hW)
        have h1 : IsL W (.agg #[.slice none 0 0, .slice none 0 0]) [] [] := ⟨_, _, _, _, _, _, rfl, RdMem.nil_ _, RdI.nil_ _⟩
        go_simp
        refine (joinl_any _ _ a (([], []) : LI) W h0 h1 LA.out len_empty).mono ?_
        rintro e w' ⟨u, rfl, hu, hk⟩
        exact hK _ _ hk hu
      go_simp
      generalize hZ : (Act.mk _ _) = Z
      refine hK Z ?_
      subst hZ
      clear hK K
      refine kAll_dn _ (fun W hW hF => kStep_w (by kernel_rfl) fun K Q hK => ?_) (fun K hK => ?_)
      · have e0 := (Ba.out.drew.keep hW (fun h => h)).cell 0
        have e1 := (Ba.out.drew.keep hW (fun h => h)).cell 1
        simp at e0 e1
        go_simp
        exact hK _ _ (Keep.refl _ _) rfl
      go_simp
      generalize hZ : (Act.mk _ _) = Z
      refine hK Z ?_
      subst hZ
      clear hK K
      refine kAll_dn _ (fun W hW hF => kStep_w (by kernel_rfl) fun K Q hK => ?_) (fun K hK => ?_)
      · have h0 : (fun v W => IsL W v (joinL a (([], []) : LI)).1 (joinL a (([], []) : LI)).2) u1 W := kHas_at hF 0 rfl (by kernel_rfl)
        have h1 := FA.out W (keepD (Keep.refl _ _) hW)
        go_simp
        refine (samel_is _ _ (joinL a (([], []) : LI)) a W true h0 h1 (len_join _ _) LA.out (decide_eq_true (join_empty a (mayT_iff.1 HMay.out)))).mono ?_
        rintro e w' ⟨rfl, hk⟩
        exact hK _ _ hk rfl
      go_simp
      generalize hZ : (Act.mk _ _) = Z
      refine hK Z ?_
      subst hZ
      clear hK K
      refine kAll_pw (by kernel_rfl) (fun K hK => ?_)
      go_simp
      generalize hZ : (Act.mk _ _) = Z
      refine hK Z ?_
      subst hZ
      clear hK K
      refine kAll_p (fun K hK => ?_)
      go_simp
      generalize hZ : (Act.mk _ _) = Z
      refine hK Z ?_
      subst hZ
      clear hK K
      refine kAll_nil (fun W5 hW hF => ?_)
      clear hF
      go_wp2
      go_ret
      exact ⟨rfl, keep0_trans _ _ _ KW4.out (keepD (Keep.refl _ _) hW)⟩
  · have HBig := Lib.hid hbig
    clear hbig
    refine wp_region_kord (Keep (fun _ => False)) (Keep.refl _) keep0_trans 9 (Ts := [some (.inl (.bool true)), none, none, some (.inl (.agg #[.slice Aa na ca, .slice Ba_ ma da])), some (.inl (.agg #[.slice Ab nb cb, .slice Bb_ mb db])), some (.inl (.agg #[.slice Ac nc cc, .slice Bc_ mc dc])), some (.inr (fun v W => IsLv W v [a, b, c])), some (.inl (.bool true)), none]) ?_
    simp only [List.take, List.drop]
    refine kAll_dn _ (fun W hW hF => kStep_of fun K Q hK => ?_) (fun K hK => ?_)
    · go_simp
      refine (works_any W).mono ?_
      rintro e w' ⟨rfl, hk⟩
      exact hK _ _ hk rfl
    go_simp
    generalize hZ : (Act.mk _ _) = Z
    refine hK Z ?_
    subst hZ
    clear hK K
    refine kAll_p (fun K hK => ?_)
    go_simp
    generalize hZ : (Act.mk _ _) = Z
    refine hK Z ?_
    subst hZ
    clear hK K
    refine kAll_p (fun K hK => ?_)
    go_simp
    generalize hZ : (Act.mk _ _) = Z
    refine hK Z ?_
    subst hZ
    clear hK K
    refine kAll_dn _ (fun W hW hF => kStep_w (by kernel_rfl) fun K Q hK => ?_) (fun K hK => ?_)
    · have e0 := (Ba.out.keep hW (fun h => h)).cell 0
      have e1 := (Ba.out.keep hW (fun h => h)).cell 1
      simp at e0 e1
      go_simp
      exact hK _ _ (Keep.refl _ _) rfl
    go_simp
    generalize hZ : (Act.mk _ _) = Z
    refine hK Z ?_
    subst hZ
    clear hK K
    refine kAll_dn _ (fun W hW hF => kStep_w (by kernel_rfl) fun K Q hK => ?_) (fun K hK => ?_)
    · have e0 := (Bb.out.keep hW (fun h => h)).cell 0
      have e1 := (Bb.out.keep hW (fun h => h)).cell 1
      simp at e0 e1
      go_simp
      exact hK _ _ (Keep.refl _ _) rfl
    go_simp
    generalize hZ : (Act.mk _ _) = Z
    refine hK Z ?_
    subst hZ
    clear hK K
    refine kAll_dn _ (fun W hW hF => kStep_w (by kernel_rfl) fun K Q hK => ?_) (fun K hK => ?_)
    · have e0 := (Bc.out.keep hW (fun h => h)).cell 0
      have e1 := (Bc.out.keep hW (fun h => h)).cell 1
      simp at e0 e1
      go_simp
      exact hK _ _ (Keep.refl _ _) rfl
    go_simp
    generalize hZ : (Act.mk _ _) = Z
    refine hK Z ?_
    subst hZ
    clear hK K
    refine kAll_tn _ (fun v W W' hk h => h.keep0 hk) (fun W hW hF => kStep_w (by kernel_rfl) fun K Q hK => ?_) (fun u0 K hK => ?_)
    · have h0 := FA.out W (hW)
      have h1 := FB.out W (hW)
      have h2 := FC.out W (hW)
      go_simp
      exact hK _ _ ((Keep.refl _ _).alloc _) (isLv3 h0 h1 h2)
    go_simp
    generalize hZ : (Act.mk _ _) = Z
    refine hK Z ?_
    subst hZ
    clear hK K
    refine kAll_dn _ (fun W hW hF => kStep_w (by kernel_rfl) fun K Q hK => ?_) (fun K hK => ?_)
    · have h0 : (fun v W => IsLv W v [a, b, c]) u0 W := kHas_at hF 0 rfl (by kernel_rfl)
      obtain ⟨A9, n9, c9, rfl, h9⟩ := h0
      go_simp
      refine (large_is _ [a, b, c] W true ⟨_, _, _, rfl, h9⟩ (by simp) HBig.out).mono ?_
      rintro e w' ⟨rfl, hk⟩
      exact hK _ _ hk rfl
    go_simp
    generalize hZ : (Act.mk _ _) = Z
    refine hK Z ?_
    subst hZ
    clear hK K
    refine kAll_p (fun K hK => ?_)
    go_simp
    generalize hZ : (Act.mk _ _) = Z
    refine hK Z ?_
    subst hZ
    clear hK K
    refine kAll_nil (fun W1 hW hF => ?_)
    clear hF
    have KW := Lib.hid (keep0_trans _ _ _ K0.out hW)
    clear hW
    go_wp2_with fail
    refine (works_any _).mono ?_
    rintro e w2 ⟨rfl, hk⟩
    have KW2 := Lib.hid (keep0_trans _ _ _ KW.out hk)
    clear hk
    go_wp2
    go_ret
    exact ⟨rfl, KW2.out⟩
theorem walkRosterRow {w : World} (v0 : Value) (w0 : InL w v0) (v1 : Value) (w1 : InL w v1) (v2 : Value) (w2 : InL w v2) :
    Calls Try.prog 5 #[v0, v1, v2] w fun e w' => e = .returned (.bool true) ∧ Below w.heap.size w w' := by
  obtain ⟨a, ha, _, _⟩ := w0
  obtain ⟨b, hb, _, _⟩ := w1
  obtain ⟨c, hc, _, _⟩ := w2
  exact (row_any _ _ _ a b c w ha hb hc).mono fun e w' ⟨he, hk⟩ => ⟨he, hk.b⟩
end Go.Proofs.Ythlfgjlnjmjppaa
