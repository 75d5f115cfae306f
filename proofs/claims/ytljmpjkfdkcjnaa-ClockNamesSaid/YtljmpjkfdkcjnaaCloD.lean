/-
  clock.each, with Join's function and with Compare's. Written by gen_d.py.
-/
import Derived.Test.YtljmpjkfdkcjnaaCloC
import Derived.Test.YtljmpjkfdkcjnaaKord
namespace Go.Proofs.Ytljmpjkfdkcjnaa
open Go.RowKit
attribute [local irreducible] kAll
attribute [local go_sem] kQuiet kQuietUpon

set_option maxRecDepth 100000 in
set_option maxHeartbeats 2000000 in
theorem each_join (A B : Option Addr) (n m c d : Nat) (l k : List Tick) (Bo : Nat) (w : World) (S : Nat → Prop) (P : World → Prop) (hn : n ≤ 1000000) (hm : m ≤ 1000000) (h : RdT w A n l) (h2 : RdT w B m k) (hS : ∀ g, S g → g < w.heap.size)
    (hJ : ∀ w1, Keep (fun _ => False) w w1 → ∃ J : Nat → World → Prop, J 0 w1 ∧ (∀ j W W', J j W → Keep (fun _ => False) W W' → J j W') ∧ (∀ j W, J j W → RdT W A n l ∧ RdT W B m k ∧ Keep S w1 W) ∧
      (∀ j W, (hj : j < (idsM l k).length) → J j W → Calls Try.prog 22 #[idV ((idsM l k).getD j (0, 0)), .int .i64 (getM l ((idsM l k).getD j (0, 0))), .int .i64 (getM k ((idsM l k).getD j (0, 0))), .pointer (some ⟨Bo, 0, none⟩)] W (fun e W' => (∃ v, e = .returned v) ∧ J (j + 1) W')) ∧ (∀ W, J (idsM l k).length W → P W)) :
    Calls Try.prog 18 #[.slice A n c, .slice B m d, .func (.func 22) #[] #[.pointer (some ⟨Bo, 0, none⟩)]] w (fun e w' => e = .returned (.tuple #[]) ∧ P w') := by
  have HR := Lib.hid h
  have HR2 := Lib.hid h2
  have HJ0 := Lib.hid hJ
  clear h h2 hJ
  go_enter Try.func18, Try.ntmps18
  go_wp2_with fail
  refine (ids_any A B n m c d l k _ HR.out HR2.out hn hm).mono ?_
  rintro e w1 ⟨row, A1, c1, rfl, hs, hr, hk⟩
  obtain ⟨J, hJ0, hJm, hJr, hJs, hJe⟩ := HJ0.out w1 hk
  have HJm := Lib.hid hJm
  have HJr := Lib.hid hJr
  have HJs := Lib.hid hJs
  have HJe := Lib.hid hJe
  have HS := Lib.hid hs
  have HRow : Hid (∀ g, row = some g → ¬ S g) := Lib.hid fun g hg hsg => by have := hr g hg; have := hS g hsg; omega
  have hN : (idsM l k).length ≤ 2000000 := by
    rw [idsM_pos]
    have h1 := setM_len (posI (l ++ k))
    have h3 := posI_len (l ++ k)
    rw [List.length_append, HR.out.1, HR2.out.1] at h3
    omega
  clear hs hr hk hJm hJr hJs hJe HJ0
  have HN : Hid ((idsM l k).length = (idsM l k).length) := Lib.hid rfl
  generalize (idsM l k) = ids at *
  have HL : Hid (ids.length = ids.length) := Lib.hid rfl
  generalize hM : ids.length = N at *
  have HM := Lib.hid hM
  clear hM HL HN
  go_wp2_with fail
  go_loopw [12] (fun i wr => ∃ q : Nat, q ≤ N ∧ i = .int .i64 (q : Int) ∧ J q wr) (fun i _ => N - (intOf i).toNat)
  case atStart => exact ⟨0, Nat.zero_le _, rfl, hJ0⟩
  case round =>
    obtain ⟨q, hq, rfl, hJq⟩ := hrel
    have HIds := Lib.hid (HS.out.keep (HJr.out q _ hJq).2.2 HRow.out)
    by_cases hlt : q < N
    · obtain ⟨g, off, hA, q0, q1⟩ := (show RdI wr A1 N ids from ⟨HM.out, HIds.out.rd⟩).at_ hlt
      have HSt := Lib.hid (HJs.out q)
      subst hA
      generalize ids.getD q (0, 0) = x at q0 q1 HSt
      obtain ⟨a, i⟩ := x
      simp only at q0 q1
      have KX := Lib.hid ((Keep.refl (fun _ => False) wr).alloc (.cells #[.int .i64 a, .int .i64 i] 28))
      have BX := Lib.hid (Blk.new wr 28 #[.int .i64 a, .int .i64 i])
      have HRd : Hid (∀ W, Keep (fun _ => False) (wr.alloc (.cells #[.int .i64 a, .int .i64 i] 28)).drew W → RdT W A n l ∧ RdT W B m k) := Lib.hid fun W hW => by
        have := HJr.out q W (HJm.out q _ _ hJq (keepD KX.out hW))
        exact ⟨this.1, this.2.1⟩
      have HJq : Hid (∀ W, Keep (fun _ => False) (wr.alloc (.cells #[.int .i64 a, .int .i64 i] 28)).drew W → J q W) := Lib.hid fun W hW => HJm.out q _ _ hJq (keepD KX.out hW)
      have hkJ : (0 : Int) ≤ (q : Int) := by omega
      have hkI : (q : Int) < (N : Int) := by omega
      have e2 : IntKind.i64.wrap (q : Int) = (q : Int) := IntWalk.i64_in _ (by omega)
      go_wp2_with fail
      refine wp_region_krip (Keep (fun _ => False)) (Keep.refl _) keep0_trans 8 (by kernel_rfl) (by kernel_rfl) (Ts := [none, some (.inl (idV (a, i))), none, some (.inl (idV (a, i))), some (.inl (.int .i64 (getM l (a, i)))), none, some (.inl (idV (a, i))), some (.inl (.int .i64 (getM k (a, i))))]) ?_
      simp only [List.take, List.drop]
      refine kAll_p (fun K hK => ?_)
      go_simp
      generalize hZ : (Act.mk _ _) = Z
      refine hK Z ?_
      subst hZ
      clear hK K
      refine kAll_dn _ (fun W hW hF => kStep_of fun K Q hK => ?_) (fun K hK => ?_)
      · have c0 := (BX.out.drew.keep hW (fun h => h)).cell 0
        have c1 := (BX.out.drew.keep hW (fun h => h)).cell 1
        simp at c0 c1
        go_simp
        exact hK _ _ (Keep.refl _ _) rfl
      go_simp
      generalize hZ : (Act.mk _ _) = Z
      refine hK Z ?_
      subst hZ
      clear hK K
      refine kAll_p (fun K hK => ?_)
      go_simp
      generalize hZ : (Act.mk _ _) = Z
      refine hK Z ?_
      subst hZ
      clear hK K
      refine kAll_dn _ (fun W hW hF => kStep_of fun K Q hK => ?_) (fun K hK => ?_)
      · have c0 := (BX.out.drew.keep hW (fun h => h)).cell 0
        have c1 := (BX.out.drew.keep hW (fun h => h)).cell 1
        simp at c0 c1
        go_simp
        exact hK _ _ (Keep.refl _ _) rfl
      go_simp
      generalize hZ : (Act.mk _ _) = Z
      refine hK Z ?_
      subst hZ
      clear hK K
      refine kAll_dn _ (fun W hW hF => kStep_of fun K Q hK => ?_) (fun K hK => ?_)
      · have hj := HRd.out W hW
        go_simp
        refine (get_any A n c l (a, i) W hj.1 (by omega)).mono ?_
        rintro e w' ⟨rfl, hk⟩
        exact hK _ _ hk rfl
      go_simp
      generalize hZ : (Act.mk _ _) = Z
      refine hK Z ?_
      subst hZ
      clear hK K
      refine kAll_p (fun K hK => ?_)
      go_simp
      generalize hZ : (Act.mk _ _) = Z
      refine hK Z ?_
      subst hZ
      clear hK K
      refine kAll_dn _ (fun W hW hF => kStep_of fun K Q hK => ?_) (fun K hK => ?_)
      · have c0 := (BX.out.drew.keep hW (fun h => h)).cell 0
        have c1 := (BX.out.drew.keep hW (fun h => h)).cell 1
        simp at c0 c1
        go_simp
        exact hK _ _ (Keep.refl _ _) rfl
      go_simp
      generalize hZ : (Act.mk _ _) = Z
      refine hK Z ?_
      subst hZ
      clear hK K
      refine kAll_dn _ (fun W hW hF => kStep_of fun K Q hK => ?_) (fun K hK => ?_)
      · have hj := HRd.out W hW
        go_simp
        refine (get_any B m d k (a, i) W hj.2 (by omega)).mono ?_
        rintro e w' ⟨rfl, hk⟩
        exact hK _ _ hk rfl
      go_simp
      generalize hZ : (Act.mk _ _) = Z
      refine hK Z ?_
      subst hZ
      clear hK K
      refine kAll_nil (fun W hW hF => ?_)
      clear hF
      go_wp2_with fail
      refine (HSt.out W hlt (HJq.out W hW)).mono ?_
      rintro e w2 ⟨⟨v, rfl⟩, hj⟩
      go_wp2
      go_roundw
      case rel => exact ⟨q + 1, by omega, by go_num, hj⟩
      case measure => simp [intOf]; omega
    · obtain rfl : q = N := by omega
      have HP := Lib.hid (HJe.out _ hJq)
      go_wp2
      go_end0
      exact ⟨rfl, HP.out⟩
set_option maxRecDepth 100000 in
set_option maxHeartbeats 2000000 in
theorem each_cmp (A B : Option Addr) (n m c d : Nat) (l k : List Tick) (Bx By : Nat) (w : World) (S : Nat → Prop) (P : World → Prop) (hn : n ≤ 1000000) (hm : m ≤ 1000000) (h : RdT w A n l) (h2 : RdT w B m k) (hS : ∀ g, S g → g < w.heap.size)
    (hJ : ∀ w1, Keep (fun _ => False) w w1 → ∃ J : Nat → World → Prop, J 0 w1 ∧ (∀ j W W', J j W → Keep (fun _ => False) W W' → J j W') ∧ (∀ j W, J j W → RdT W A n l ∧ RdT W B m k ∧ Keep S w1 W) ∧
      (∀ j W, (hj : j < (idsM l k).length) → J j W → Calls Try.prog 19 #[idV ((idsM l k).getD j (0, 0)), .int .i64 (getM l ((idsM l k).getD j (0, 0))), .int .i64 (getM k ((idsM l k).getD j (0, 0))), .pointer (some ⟨Bx, 0, none⟩), .pointer (some ⟨By, 0, none⟩)] W (fun e W' => (∃ v, e = .returned v) ∧ J (j + 1) W')) ∧ (∀ W, J (idsM l k).length W → P W)) :
    Calls Try.prog 18 #[.slice A n c, .slice B m d, .func (.func 19) #[] #[.pointer (some ⟨Bx, 0, none⟩), .pointer (some ⟨By, 0, none⟩)]] w (fun e w' => e = .returned (.tuple #[]) ∧ P w') := by
  have HR := Lib.hid h
  have HR2 := Lib.hid h2
  have HJ0 := Lib.hid hJ
  clear h h2 hJ
  go_enter Try.func18, Try.ntmps18
  go_wp2_with fail
  refine (ids_any A B n m c d l k _ HR.out HR2.out hn hm).mono ?_
  rintro e w1 ⟨row, A1, c1, rfl, hs, hr, hk⟩
  obtain ⟨J, hJ0, hJm, hJr, hJs, hJe⟩ := HJ0.out w1 hk
  have HJm := Lib.hid hJm
  have HJr := Lib.hid hJr
  have HJs := Lib.hid hJs
  have HJe := Lib.hid hJe
  have HS := Lib.hid hs
  have HRow : Hid (∀ g, row = some g → ¬ S g) := Lib.hid fun g hg hsg => by have := hr g hg; have := hS g hsg; omega
  have hN : (idsM l k).length ≤ 2000000 := by
    rw [idsM_pos]
    have h1 := setM_len (posI (l ++ k))
    have h3 := posI_len (l ++ k)
    rw [List.length_append, HR.out.1, HR2.out.1] at h3
    omega
  clear hs hr hk hJm hJr hJs hJe HJ0
  have HN : Hid ((idsM l k).length = (idsM l k).length) := Lib.hid rfl
  generalize (idsM l k) = ids at *
  have HL : Hid (ids.length = ids.length) := Lib.hid rfl
  generalize hM : ids.length = N at *
  have HM := Lib.hid hM
  clear hM HL HN
  go_wp2_with fail
  go_loopw [12] (fun i wr => ∃ q : Nat, q ≤ N ∧ i = .int .i64 (q : Int) ∧ J q wr) (fun i _ => N - (intOf i).toNat)
  case atStart => exact ⟨0, Nat.zero_le _, rfl, hJ0⟩
  case round =>
    obtain ⟨q, hq, rfl, hJq⟩ := hrel
    have HIds := Lib.hid (HS.out.keep (HJr.out q _ hJq).2.2 HRow.out)
    by_cases hlt : q < N
    · obtain ⟨g, off, hA, q0, q1⟩ := (show RdI wr A1 N ids from ⟨HM.out, HIds.out.rd⟩).at_ hlt
      have HSt := Lib.hid (HJs.out q)
      subst hA
      generalize ids.getD q (0, 0) = x at q0 q1 HSt
      obtain ⟨a, i⟩ := x
      simp only at q0 q1
      have KX := Lib.hid ((Keep.refl (fun _ => False) wr).alloc (.cells #[.int .i64 a, .int .i64 i] 28))
      have BX := Lib.hid (Blk.new wr 28 #[.int .i64 a, .int .i64 i])
      have HRd : Hid (∀ W, Keep (fun _ => False) (wr.alloc (.cells #[.int .i64 a, .int .i64 i] 28)).drew W → RdT W A n l ∧ RdT W B m k) := Lib.hid fun W hW => by
        have := HJr.out q W (HJm.out q _ _ hJq (keepD KX.out hW))
        exact ⟨this.1, this.2.1⟩
      have HJq : Hid (∀ W, Keep (fun _ => False) (wr.alloc (.cells #[.int .i64 a, .int .i64 i] 28)).drew W → J q W) := Lib.hid fun W hW => HJm.out q _ _ hJq (keepD KX.out hW)
      have hkJ : (0 : Int) ≤ (q : Int) := by omega
      have hkI : (q : Int) < (N : Int) := by omega
      have e2 : IntKind.i64.wrap (q : Int) = (q : Int) := IntWalk.i64_in _ (by omega)
      go_wp2_with fail
      refine wp_region_krip (Keep (fun _ => False)) (Keep.refl _) keep0_trans 8 (by kernel_rfl) (by kernel_rfl) (Ts := [none, some (.inl (idV (a, i))), none, some (.inl (idV (a, i))), some (.inl (.int .i64 (getM l (a, i)))), none, some (.inl (idV (a, i))), some (.inl (.int .i64 (getM k (a, i))))]) ?_
      simp only [List.take, List.drop]
      refine kAll_p (fun K hK => ?_)
      go_simp
      generalize hZ : (Act.mk _ _) = Z
      refine hK Z ?_
      subst hZ
      clear hK K
      refine kAll_dn _ (fun W hW hF => kStep_of fun K Q hK => ?_) (fun K hK => ?_)
      · have c0 := (BX.out.drew.keep hW (fun h => h)).cell 0
        have c1 := (BX.out.drew.keep hW (fun h => h)).cell 1
        simp at c0 c1
        go_simp
        exact hK _ _ (Keep.refl _ _) rfl
      go_simp
      generalize hZ : (Act.mk _ _) = Z
      refine hK Z ?_
      subst hZ
      clear hK K
      refine kAll_p (fun K hK => ?_)
      go_simp
      generalize hZ : (Act.mk _ _) = Z
      refine hK Z ?_
      subst hZ
      clear hK K
      refine kAll_dn _ (fun W hW hF => kStep_of fun K Q hK => ?_) (fun K hK => ?_)
      · have c0 := (BX.out.drew.keep hW (fun h => h)).cell 0
        have c1 := (BX.out.drew.keep hW (fun h => h)).cell 1
        simp at c0 c1
        go_simp
        exact hK _ _ (Keep.refl _ _) rfl
      go_simp
      generalize hZ : (Act.mk _ _) = Z
      refine hK Z ?_
      subst hZ
      clear hK K
      refine kAll_dn _ (fun W hW hF => kStep_of fun K Q hK => ?_) (fun K hK => ?_)
      · have hj := HRd.out W hW
        go_simp
        refine (get_any A n c l (a, i) W hj.1 (by omega)).mono ?_
        rintro e w' ⟨rfl, hk⟩
        exact hK _ _ hk rfl
      go_simp
      generalize hZ : (Act.mk _ _) = Z
      refine hK Z ?_
      subst hZ
      clear hK K
      refine kAll_p (fun K hK => ?_)
      go_simp
      generalize hZ : (Act.mk _ _) = Z
      refine hK Z ?_
      subst hZ
      clear hK K
      refine kAll_dn _ (fun W hW hF => kStep_of fun K Q hK => ?_) (fun K hK => ?_)
      · have c0 := (BX.out.drew.keep hW (fun h => h)).cell 0
        have c1 := (BX.out.drew.keep hW (fun h => h)).cell 1
        simp at c0 c1
        go_simp
        exact hK _ _ (Keep.refl _ _) rfl
      go_simp
      generalize hZ : (Act.mk _ _) = Z
      refine hK Z ?_
      subst hZ
      clear hK K
      refine kAll_dn _ (fun W hW hF => kStep_of fun K Q hK => ?_) (fun K hK => ?_)
      · have hj := HRd.out W hW
        go_simp
        refine (get_any B m d k (a, i) W hj.2 (by omega)).mono ?_
        rintro e w' ⟨rfl, hk⟩
        exact hK _ _ hk rfl
      go_simp
      generalize hZ : (Act.mk _ _) = Z
      refine hK Z ?_
      subst hZ
      clear hK K
      refine kAll_nil (fun W hW hF => ?_)
      clear hF
      go_wp2_with fail
      refine (HSt.out W hlt (HJq.out W hW)).mono ?_
      rintro e w2 ⟨⟨v, rfl⟩, hj⟩
      go_wp2
      go_roundw
      case rel => exact ⟨q + 1, by omega, by go_num, hj⟩
      case measure => simp [intOf]; omega
    · obtain rfl : q = N := by omega
      have HP := Lib.hid (HJe.out _ hJq)
      go_wp2
      go_end0
      exact ⟨rfl, HP.out⟩
end Go.Proofs.Ytljmpjkfdkcjnaa
