/-
  coveylaw05.of. Written by gen_i.py.
-/
import Derived.Test.YtljmpjkfdkcjnaaCloH
namespace Go.Proofs.Ytljmpjkfdkcjnaa
open Go.RowKit
attribute [local irreducible] kAll
attribute [local go_sem] kQuiet kQuietUpon

/-- a slice of ticks -/
def IsT (w : World) (v : Value) (l : List Tick) : Prop := ∃ A n c, v = .slice A n c ∧ RdT w A n l
theorem IsT.keep0 {w w' : World} {v : Value} {l : List Tick} (h : IsT w v l) (hk : Keep (fun _ => False) w w') : IsT w' v l := by
  obtain ⟨A, n, c, e, h⟩ := h
  exact ⟨A, n, c, e, h.keep0 hk⟩
theorem ints_at {w : World} {A : Option Addr} {l : List Tick} {n : Nat} (hl : l.length = n) (h : RdK w 1 A (n * 3) (l.flatMap cT)) {k : Nat} (hk : k < n) : ∃ g off, A = some ⟨g, off, none⟩ ∧ w.cell? ⟨g, off + k * 3, none⟩ = some (.int .i64 (l.getD k tick0).1.1) ∧ w.cell? ⟨g, off + (k * 3 + 1), none⟩ = some (.int .i64 (l.getD k tick0).1.2) ∧ w.cell? ⟨g, off + (k * 3 + 2), none⟩ = some (.int .i64 (l.getD k tick0).2) := by
  have hl' : k < l.length := by omega
  have e : l.getD k tick0 = l[k] := by simp [List.getD, hl']
  obtain ⟨g, off, v, h1, h2, h3⟩ := h.2 (k * 3) (by omega)
  obtain ⟨g', off', v', h1', h2', h3'⟩ := h.2 (k * 3 + 1) (by omega)
  rw [h1] at h1'; injection h1' with h1'; injection h1' with q1 q2; subst q1 q2
  obtain ⟨g', off', v'', h1', h2'', h3''⟩ := h.2 (k * 3 + 2) (by omega)
  rw [h1] at h1'; injection h1' with h1'; injection h1' with q1 q2; subst q1 q2
  have f0 := flat_get cT 3 (fun _ => rfl) l k 0 hl' (by omega)
  have f1 := flat_get cT 3 (fun _ => rfl) l k 1 hl' (by omega)
  have f2 := flat_get cT 3 (fun _ => rfl) l k 2 hl' (by omega)
  rw [Nat.add_zero, h2] at f0
  rw [h2'] at f1
  rw [h2''] at f2
  simp at f0 f1 f2
  exact ⟨g, off, h1, by rw [h3, e, f0], by rw [h3', e, f1], by rw [h3'', e, f2]⟩
set_option maxRecDepth 100000 in
set_option maxHeartbeats 2000000 in
theorem of_any (A : Option Addr) (n c : Nat) (l : List Tick) (w : World) (hl : l.length = n) (h : RdK w 1 A (n * 3) (l.flatMap cT)) (hn : n ≤ 1000000) :
    Calls Try.prog 10 #[.slice A (n * 3) c] w (NewT l w) := by
  obtain ⟨i0, hi, hz0, hz1, hz2⟩ := info_parts infoT'
  have HI := Lib.hid hi
  have HZ0 := Lib.hid hz0
  have HZ1 := Lib.hid hz1
  have HZ2 := Lib.hid hz2
  have HL := Lib.hid hl
  have HR := Lib.hid h
  clear h hl hi hz0 hz1 hz2
  obtain ⟨Z, hZ⟩ : ∃ Z, n * 3 = Z := ⟨_, rfl⟩
  rw [hZ] at HR
  rw [hZ]
  go_enter Try.func10, Try.ntmps10
  go_wp2_with fail
  go_loopw [4, 3] (fun j v wr => ∃ (q : Nat) (row : Option Nat) (A2 : Option Addr) (c2 : Nat), q ≤ n ∧ j = .int .i64 ((q * 3 : Nat) : Int) ∧ v = .slice A2 q c2 ∧ Hid (SlK wr 35 3 row A2 q c2 ((l.take q).flatMap cT)) ∧ Hid (∀ g, row = some g → w.heap.size ≤ g) ∧ Hid (Keep (fun _ => False) w wr)) (fun j _ _ => Z - (intOf j).toNat)
  case atStart => exact ⟨0, none, none, 0, Nat.zero_le _, rfl, rfl, Lib.hid (SlK.nil_ _ _ _), Lib.hid (fun g hg => by cases hg), Lib.hid (Keep.refl _ _)⟩
  case round =>
    obtain ⟨k, row, A2, c2, hk, rfl, rfl, HS, HRw, HK⟩ := hrel
    obtain ⟨q, hq⟩ : ∃ q, k * 3 = q := ⟨_, rfl⟩
    have w2 : IntKind.i64.wrap ((q : Int) + 2) = (q : Int) + 2 := IntWalk.i64_in _ (by omega)
    rw [hq]
    by_cases hlt : k < n
    · obtain ⟨g, off, hA, p0, p1, p2⟩ := ints_at (A := A) HL.out (by rw [hZ]; exact HR.out) hlt
      have HN : Hid (l.take (k + 1) = l.take k ++ [l.getD k tick0]) := Lib.hid (by
        have hkl : k < l.length := by rw [HL.out]; exact hlt
        rw [List.take_succ_eq_append_getElem hkl]; simp [List.getD, hkl])
      rw [hq] at p0 p1 p2
      subst hA
      generalize l.getD k tick0 = x at p0 p1 p2 HN
      obtain ⟨⟨a, i⟩, u⟩ := x
      simp only at p0 p1 p2
      have HP : Hid (∀ W, Keep (fun _ => False) wr.drew W → W.cell? ⟨g, off + q, none⟩ = some (.int .i64 a) ∧ W.cell? ⟨g, off + (q + 1), none⟩ = some (.int .i64 i) ∧ W.cell? ⟨g, off + (q + 2), none⟩ = some (.int .i64 u)) := Lib.hid fun W hW => by
        have hk := keepD HK.out hW
        exact ⟨hk.cell p0 (fun h => h), hk.cell p1 (fun h => h), hk.cell p2 (fun h => h)⟩
      clear p0 p1 p2
      have w1 : IntKind.i64.wrap ((q : Int) + 1) = (q : Int) + 1 := IntWalk.i64_in _ (by omega)
      have l2 : (q : Int) + 2 < (Z : Int) := by omega
      have l1 : (q : Int) + 1 < (Z : Int) := by omega
      have l0 : (q : Int) < (Z : Int) := by omega
      have g2 : (0 : Int) ≤ (q : Int) + 2 := by omega
      have g1 : (0 : Int) ≤ (q : Int) + 1 := by omega
      have g0 : (0 : Int) ≤ (q : Int) := by omega
      have t1 : ((q : Int) + 1).toNat = q + 1 := by omega
      have t2 : ((q : Int) + 2).toNat = q + 2 := by omega
      have w3 : IntKind.i64.wrap ((q : Int) + 3) = (q : Int) + 3 := IntWalk.i64_in _ (by omega)
      go_wp2_with fail
      refine wp_region_krip (Keep (fun _ => False)) (Keep.refl _) keep0_trans 18 (by kernel_rfl) (by kernel_rfl) (Ts := [none, none, none, none, some (.inl (.int .i64 a)), none, none, none, none, some (.inl (.int .i64 i)), none, none, none, none, none, some (.inl (.int .i64 u)), none, some (.inr (fun v W => IsT W v [((a, i), u)]))]) ?_
      simp only [List.take, List.drop]
      refine kAll_p (fun K hK => ?_)
      go_simp
      generalize hZ : (Act.mk _ _) = Z
      refine hK Z ?_
      subst hZ
      clear hK K
      refine kAll_p (fun K hK => ?_)
      go_simp
      generalize hZ : (Act.mk _ _) = Z
      refine hK Z ?_
      subst hZ
      clear hK K
      refine kAll_p (fun K hK => ?_)
      go_simp
      generalize hZ : (Act.mk _ _) = Z
      refine hK Z ?_
      subst hZ
      clear hK K
      refine kAll_p (fun K hK => ?_)
      go_simp
      generalize hZ : (Act.mk _ _) = Z
      refine hK Z ?_
      subst hZ
      clear hK K
      refine kAll_dn _ (fun W hW hF => kStep_of fun K Q hK => ?_) (fun K hK => ?_)
      · have hp := HP.out W hW
        have hp0 := hp.1
        have hp1 := hp.2.1
        have hp2 := hp.2.2
        clear hp
        go_simp
        exact hK _ _ (Keep.refl _ _) rfl
      go_simp
      generalize hZ : (Act.mk _ _) = Z
      refine hK Z ?_
      subst hZ
      clear hK K
      refine kAll_p (fun K hK => ?_)
      go_simp
      generalize hZ : (Act.mk _ _) = Z
      refine hK Z ?_
      subst hZ
      clear hK K
      refine kAll_p (fun K hK => ?_)
      go_simp
      generalize hZ : (Act.mk _ _) = Z
      refine hK Z ?_
      subst hZ
      clear hK K
      refine kAll_p (fun K hK => ?_)
      go_simp
      generalize hZ : (Act.mk _ _) = Z
      refine hK Z ?_
      subst hZ
      clear hK K
      refine kAll_p (fun K hK => ?_)
      go_simp
      generalize hZ : (Act.mk _ _) = Z
      refine hK Z ?_
      subst hZ
      clear hK K
      refine kAll_dn _ (fun W hW hF => kStep_of fun K Q hK => ?_) (fun K hK => ?_)
      · have hp := HP.out W hW
        have hp0 := hp.1
        have hp1 := hp.2.1
        have hp2 := hp.2.2
        clear hp
        go_simp
        exact hK _ _ (Keep.refl _ _) rfl
      go_simp
      generalize hZ : (Act.mk _ _) = Z
      refine hK Z ?_
      subst hZ
      clear hK K
      refine kAll_p (fun K hK => ?_)
      go_simp
      generalize hZ : (Act.mk _ _) = Z
      refine hK Z ?_
      subst hZ
      clear hK K
      refine kAll_p (fun K hK => ?_)
      go_simp
      generalize hZ : (Act.mk _ _) = Z
      refine hK Z ?_
      subst hZ
      clear hK K
      refine kAll_p (fun K hK => ?_)
      go_simp
      generalize hZ : (Act.mk _ _) = Z
      refine hK Z ?_
      subst hZ
      clear hK K
      refine kAll_p (fun K hK => ?_)
      go_simp
      generalize hZ : (Act.mk _ _) = Z
      refine hK Z ?_
      subst hZ
      clear hK K
      refine kAll_p (fun K hK => ?_)
      go_simp
      generalize hZ : (Act.mk _ _) = Z
      refine hK Z ?_
      subst hZ
      clear hK K
      refine kAll_dn _ (fun W hW hF => kStep_of fun K Q hK => ?_) (fun K hK => ?_)
      · have hp := HP.out W hW
        have hp0 := hp.1
        have hp1 := hp.2.1
        have hp2 := hp.2.2
        clear hp
        go_simp
        exact hK _ _ (Keep.refl _ _) rfl
      go_simp
      generalize hZ : (Act.mk _ _) = Z
      refine hK Z ?_
      subst hZ
      clear hK K
      refine kAll_p (fun K hK => ?_)
      go_simp
      generalize hZ : (Act.mk _ _) = Z
      refine hK Z ?_
      subst hZ
      clear hK K
      refine kAll_tn _ (fun v W W' hk h => h.keep0 hk) (fun W hW hF => kStep_of fun K Q hK => ?_) (fun u0 K hK => ?_)
      · go_simp
        exact hK _ _ ((Keep.refl _ _).alloc _) ⟨_, _, _, rfl, rfl, RdK.of_blk (Blk.new _ _ _) 1 3 rfl⟩
      go_simp
      generalize hZ : (Act.mk _ _) = Z
      refine hK Z ?_
      subst hZ
      clear hK K
      refine kAll_nil (fun W hW hF => ?_)
      have hu : IsT W u0 [((a, i), u)] := hF.1
      clear hF
      obtain ⟨A3, n3, c3, rfl, hu⟩ := hu
      obtain rfl : n3 = 1 := hu.1.symm
      have HU := Lib.hid hu
      have HW := Lib.hid (keepD HK.out hW)
      have HSW := Lib.hid (HS.out.keep (keepD (Keep.refl _ wr) hW) (fun _ _ h => h))
      clear hu hW
      go_wp2_with (at_builtin; refine wpList_append_slK rfl _ _ _ rfl i0 _ 24 Try.underlying24 HI.out HZ0.out HZ1.out HZ2.out rfl (by omega) HSW.out rfl rfl HU.out.2 (one_flatT _) (by unfold maxLen; omega) (by omega) ?_; intro row2 A4 c4 w4 hs2 hr2
                   obtain ⟨hk3, hw3⟩ := grew_new hr2 HW.out HRw.out
                   have HS3 := Lib.hid hs2
                   have HK3 := Lib.hid hk3
                   have HR4 := Lib.hid hw3
                   clear hs2 hr2 hk3 hw3)
      go_roundw
      case rel => exact ⟨k + 1, row2, A4, c4, by omega, by rw [Nat.add_mul, hq]; go_num, rfl, Lib.hid (by rw [HN.out, List.flatMap_append]; exact HS3.out), HR4, HK3⟩
      case measure => simp [intOf]; omega
    · obtain rfl : k = n := by omega
      have l2 : ¬ (q : Int) + 2 < (Z : Int) := by omega
      have HM : Hid (SlK wr 35 3 row A2 k c2 (l.flatMap cT)) := Lib.hid (by have := HS.out; rwa [List.take_of_length_le (by rw [HL.out]; exact Nat.le_refl _)] at this)
      go_wp2
      go_ret
      exact ⟨row, A2, c2, by rw [HL.out]; rfl, by rw [HL.out]; exact HM.out, HRw.out, HK.out⟩
end Go.Proofs.Ytljmpjkfdkcjnaa
