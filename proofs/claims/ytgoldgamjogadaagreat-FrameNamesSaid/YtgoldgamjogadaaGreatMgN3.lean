/-
  Roster: May.
-/
import Derived.Test.YtgoldgamjogadaaGreatMgN2
namespace Go.Proofs.YtgoldgamjogadaaGreat
open Go.RowKit
attribute [local irreducible] kAll
attribute [local go_sem] kQuiet kQuietUpon

def goneT (f : List ID) (p : ID) : Bool := decide (p.2 ≤ floorT f p.1)
def okMem (m : List Mem) (f : List ID) (i : Nat) : Bool :=
  mayID (m.getD i zeroMem).id && decide (1 ≤ (m.getD i zeroMem).st ∧ (m.getD i zeroMem).st ≤ 6) && numT (m.getD i zeroMem) && !goneT f (m.getD i zeroMem).id && (decide (i = 0) || decide ((m.getD (i - 1) zeroMem).addr < (m.getD i zeroMem).addr))
def okFl (f : List ID) (i : Nat) : Bool := mayID (f.getD i (0, 0)) && (decide (i = 0) || decide ((f.getD (i - 1) (0, 0)).1 < (f.getD i (0, 0)).1))
def mayT (m : List Mem) (f : List ID) : Bool := (List.range m.length).all (okMem m f) && (List.range f.length).all (okFl f)
theorem all_snoc {p : Nat → Bool} {k : Nat} (h : ∀ j, j < k → p j = true) (hk : p k = true) : ∀ j, j < k + 1 → p j = true := fun j hj => by
  by_cases e : j = k
  · subst e; exact hk
  · exact h j (by omega)
theorem mayT_m {m : List Mem} {f : List ID} {k : Nat} (hk : k < m.length) (h : okMem m f k = false) : mayT m f = false := by
  have : (List.range m.length).all (okMem m f) = false := by
    rw [Bool.eq_false_iff]; intro h2
    have := List.all_eq_true.1 h2 k (List.mem_range.2 hk)
    rw [h] at this; cases this
  simp [mayT, this]
theorem mayT_f {m : List Mem} {f : List ID} {k : Nat} (hk : k < f.length) (h : okFl f k = false) : mayT m f = false := by
  have : (List.range f.length).all (okFl f) = false := by
    rw [Bool.eq_false_iff]; intro h2
    have := List.all_eq_true.1 h2 k (List.mem_range.2 hk)
    rw [h] at this; cases this
  simp [mayT, this]
theorem mayT_ok {m : List Mem} {f : List ID} (h1 : ∀ j, j < m.length → okMem m f j = true) (h2 : ∀ j, j < f.length → okFl f j = true) : mayT m f = true := by
  simp only [mayT, Bool.and_eq_true]
  exact ⟨List.all_eq_true.2 fun j hj => h1 j (List.mem_range.1 hj), List.all_eq_true.2 fun j hj => h2 j (List.mem_range.1 hj)⟩
set_option maxRecDepth 100000 in
set_option maxHeartbeats 8000000 in
theorem rmay_any (A A' : Option Addr) (n c n' c' : Nat) (l : List Mem) (f : List ID) (w : World) (h : RdMem w A n l) (h' : RdI w A' n' f) (hn : n ≤ 1000000) (hn' : n' ≤ 1000000) :
    Calls Tryz.prog 33 #[.slice A n c, .slice A' n' c'] w (Tell (.bool (mayT l f)) w) := by
  have HLm := Lib.hid h.1
  have HLf := Lib.hid h'.1
  have H := Lib.hid h
  have H' := Lib.hid h'
  clear h h'
  go_enter Tryz.func33, Tryz.ntmps33
  go_wp2_with fail
  go_loopw [11] (fun i wr => ∃ k : Nat, k ≤ n ∧ i = .int .i64 (k : Int) ∧ Hid (∀ j, j < k → okMem l f j = true) ∧ Hid (Keep (fun _ => False) w wr)) (fun i _ => n - (intOf i).toNat)
  case atStart => exact ⟨0, Nat.zero_le _, rfl, Lib.hid (by intro j hj; omega), Lib.hid (Keep.refl _ _)⟩
  case round =>
    obtain ⟨k, hk, rfl, HA, HK⟩ := hrel
    by_cases hlt : k < n
    · obtain ⟨g, off, rfl, q0, q1, q2, q3⟩ := (H.out.keep0 HK.out).at_ hlt
      have hkl : k < l.length := by rw [HLm.out]; exact hlt
      have HF : Hid (∀ W, Keep (fun _ => False) wr W → RdI W A' n' f) := Lib.hid fun W hW => H'.out.keep0 (keep0_trans _ _ _ HK.out hW)
      have HFL := Lib.hid (fun h => mayT_m (f := f) hkl h)
      have HO := Lib.hid (show okMem l f k = (mayID (l.getD k zeroMem).id && decide (1 ≤ (l.getD k zeroMem).st ∧ (l.getD k zeroMem).st ≤ 6) && numT (l.getD k zeroMem) && !goneT f (l.getD k zeroMem).id && (decide (k = 0) || decide ((l.getD (k - 1) zeroMem).addr < (l.getD k zeroMem).addr))) from rfl)
      have HPR : Hid (0 < k → ∀ W, Keep (fun _ => False) wr W → W.cell? ⟨g, off + (k - 1) * 4, none⟩ = some (.int .i64 (l.getD (k - 1) zeroMem).addr)) := Lib.hid fun h0 W hW => by
        obtain ⟨g', off', hA, p0, _⟩ := (H.out.keep0 (keep0_trans _ _ _ HK.out hW)).at_ (i := k - 1) (by omega)
        injection hA with hA; injection hA with r1 r2; subst r1 r2; exact p0
      generalize (l.getD (k - 1) zeroMem).addr = pa at *
      generalize l.getD k zeroMem = x at *
      obtain ⟨a, i, s, m⟩ := x
      simp only at q0 q1 q2 q3 HO
      have KX := Lib.hid ((Keep.refl (fun _ => False) wr).alloc (.cells #[.int .i64 a, .int .i64 i, .int .u8 s, .int .i64 m] 35))
      have BX := Lib.hid (Blk.new wr 35 #[.int .i64 a, .int .i64 i, .int .u8 s, .int .i64 m])
      clear hkl
      cases hM : mayID (a, i)
      · have HM := Lib.hid hM
        have HB := Lib.hid (HFL.out (by rw [HO.out, hM]; rfl))
        clear hM
        go_wp2_with fail
        refine wp_region_krip (Keep (fun _ => False)) (Keep.refl _) keep0_trans 42 (by kernel_rfl) (by kernel_rfl) (Ts := [none, some (.inl (idV (a, i))), some (.inl (.bool false)), none, none, none, none, none, none, none, none, none, none, none, none, none, none, none, none, none, none, none, none, none, none, none, none, none, none, none, none, none, none, none, none, none, none, none, none, none, none, none]) ?_
        simp only [List.take, List.drop]
        refine kAll_p (fun K hK => ?_)
        go_simp
        generalize hZ : (Act.mk _ _) = Z
        refine hK Z ?_
        subst hZ
        clear hK K
        refine kAll_dn _ (fun W hW hF => kStep_of fun K Q hK => ?_) (fun K hK => ?_)
        · have c0 := (BX.out.drew.keep hW (fun h => h)).cell 0
          have c1 := (BX.out.drew.keep hW (fun h => h)).cell 1
          have c2 := (BX.out.drew.keep hW (fun h => h)).cell 2
          have c3 := (BX.out.drew.keep hW (fun h => h)).cell 3
          simp at c0 c1 c2 c3
          go_simp
          exact hK _ _ (Keep.refl _ _) rfl
        go_simp
        generalize hZ : (Act.mk _ _) = Z
        refine hK Z ?_
        subst hZ
        clear hK K
        refine kAll_dn _ (fun W hW hF => kStep_of fun K Q hK => ?_) (fun K hK => ?_)
        · go_simp
          refine (may_any (a, i) W).mono ?_
          rintro e w' ⟨rfl, hk⟩
          rw [HM.out]
          exact hK _ _ hk rfl
        go_simp
        generalize hZ : (Act.mk _ _) = Z
        refine hK Z ?_
        subst hZ
        clear hK K
        refine kAll_p (fun K hK => ?_)
        go_simp
        generalize hZ : (Act.mk _ _) = Z
        refine hK Z ?_
        subst hZ
        clear hK K
        refine kAll_p (fun K hK => ?_)
        go_simp
        generalize hZ : (Act.mk _ _) = Z
        refine hK Z ?_
        subst hZ
        clear hK K
        refine kAll_skip (by kernel_rfl) ?_
        refine kAll_skip (by kernel_rfl) ?_
        refine kAll_skip (by kernel_rfl) ?_
        refine kAll_p (fun K hK => ?_)
        go_simp
        generalize hZ : (Act.mk _ _) = Z
        refine hK Z ?_
        subst hZ
        clear hK K
        refine kAll_p (fun K hK => ?_)
        go_simp
        generalize hZ : (Act.mk _ _) = Z
        refine hK Z ?_
        subst hZ
        clear hK K
        refine kAll_skip (by kernel_rfl) ?_
        refine kAll_skip (by kernel_rfl) ?_
        refine kAll_skip (by kernel_rfl) ?_
        refine kAll_p (fun K hK => ?_)
        go_simp
        generalize hZ : (Act.mk _ _) = Z
        refine hK Z ?_
        subst hZ
        clear hK K
        refine kAll_p (fun K hK => ?_)
        go_simp
        generalize hZ : (Act.mk _ _) = Z
        refine hK Z ?_
        subst hZ
        clear hK K
        refine kAll_skip (by kernel_rfl) ?_
        refine kAll_skip (by kernel_rfl) ?_
        refine kAll_skip (by kernel_rfl) ?_
        refine kAll_p (fun K hK => ?_)
        go_simp
        generalize hZ : (Act.mk _ _) = Z
        refine hK Z ?_
        subst hZ
        clear hK K
        refine kAll_p (fun K hK => ?_)
        go_simp
        generalize hZ : (Act.mk _ _) = Z
        refine hK Z ?_
        subst hZ
        clear hK K
        refine kAll_skip (by kernel_rfl) ?_
        refine kAll_skip (by kernel_rfl) ?_
        refine kAll_skip (by kernel_rfl) ?_
        refine kAll_skip (by kernel_rfl) ?_
        refine kAll_p (fun K hK => ?_)
        go_simp
        generalize hZ : (Act.mk _ _) = Z
        refine hK Z ?_
        subst hZ
        clear hK K
        refine kAll_p (fun K hK => ?_)
        go_simp
        generalize hZ : (Act.mk _ _) = Z
        refine hK Z ?_
        subst hZ
        clear hK K
        refine kAll_skip (by kernel_rfl) ?_
        refine kAll_skip (by kernel_rfl) ?_
        refine kAll_skip (by kernel_rfl) ?_
        refine kAll_skip (by kernel_rfl) ?_
        refine kAll_skip (by kernel_rfl) ?_
        refine kAll_skip (by kernel_rfl) ?_
        refine kAll_skip (by kernel_rfl) ?_
        refine kAll_skip (by kernel_rfl) ?_
        refine kAll_skip (by kernel_rfl) ?_
        refine kAll_skip (by kernel_rfl) ?_
        refine kAll_skip (by kernel_rfl) ?_
        refine kAll_skip (by kernel_rfl) ?_
        refine kAll_skip (by kernel_rfl) ?_
        refine kAll_skip (by kernel_rfl) ?_
        refine kAll_skip (by kernel_rfl) ?_
        refine kAll_p (fun K hK => ?_)
        go_simp
        generalize hZ : (Act.mk _ _) = Z
        refine hK Z ?_
        subst hZ
        clear hK K
        refine kAll_nil (fun W hW hF => ?_)
        clear hF
        have HW := Lib.hid (keepD KX.out hW)
        clear hW
        go_wp2
        go_ret
        exact ⟨ret_bool HB.out.symm, keep0_trans _ _ _ HK.out HW.out⟩
      · have HM := Lib.hid hM
        by_cases h1 : s < 1
        · have hs1 : decide (s < 1) = true := decide_eq_true h1
          have HB := Lib.hid (HFL.out (by rw [HO.out, hM, decide_eq_false (by omega)]; rfl))
          clear hM
          go_wp2_with fail
          refine wp_region_krip (Keep (fun _ => False)) (Keep.refl _) keep0_trans 42 (by kernel_rfl) (by kernel_rfl) (Ts := [none, some (.inl (idV (a, i))), some (.inl (.bool true)), none, none, none, some (.inl (.int .u8 s)), none, none, none, none, none, none, none, none, none, none, none, none, none, none, none, none, none, none, none, none, none, none, none, none, none, none, none, none, none, none, none, none, none, none, none]) ?_
          simp only [List.take, List.drop]
          refine kAll_p (fun K hK => ?_)
          go_simp
          generalize hZ : (Act.mk _ _) = Z
          refine hK Z ?_
          subst hZ
          clear hK K
          refine kAll_dn _ (fun W hW hF => kStep_of fun K Q hK => ?_) (fun K hK => ?_)
          · have c0 := (BX.out.drew.keep hW (fun h => h)).cell 0
            have c1 := (BX.out.drew.keep hW (fun h => h)).cell 1
            have c2 := (BX.out.drew.keep hW (fun h => h)).cell 2
            have c3 := (BX.out.drew.keep hW (fun h => h)).cell 3
            simp at c0 c1 c2 c3
            go_simp
            exact hK _ _ (Keep.refl _ _) rfl
          go_simp
          generalize hZ : (Act.mk _ _) = Z
          refine hK Z ?_
          subst hZ
          clear hK K
          refine kAll_dn _ (fun W hW hF => kStep_of fun K Q hK => ?_) (fun K hK => ?_)
          · go_simp
            refine (may_any (a, i) W).mono ?_
            rintro e w' ⟨rfl, hk⟩
            rw [HM.out]
            exact hK _ _ hk rfl
          go_simp
          generalize hZ : (Act.mk _ _) = Z
          refine hK Z ?_
          subst hZ
          clear hK K
          refine kAll_p (fun K hK => ?_)
          go_simp
          generalize hZ : (Act.mk _ _) = Z
          refine hK Z ?_
          subst hZ
          clear hK K
          refine kAll_p (fun K hK => ?_)
          go_simp
          generalize hZ : (Act.mk _ _) = Z
          refine hK Z ?_
          subst hZ
          clear hK K
          refine kAll_pw (by kernel_rfl) (fun K hK => ?_)
          go_simp
          generalize hZ : (Act.mk _ _) = Z
          refine hK Z ?_
          subst hZ
          clear hK K
          refine kAll_dn _ (fun W hW hF => kStep_w (by kernel_rfl) fun K Q hK => ?_) (fun K hK => ?_)
          · have c0 := (BX.out.drew.keep hW (fun h => h)).cell 0
            have c1 := (BX.out.drew.keep hW (fun h => h)).cell 1
            have c2 := (BX.out.drew.keep hW (fun h => h)).cell 2
            have c3 := (BX.out.drew.keep hW (fun h => h)).cell 3
            simp at c0 c1 c2 c3
            go_simp
            exact hK _ _ (Keep.refl _ _) rfl
          go_simp
          generalize hZ : (Act.mk _ _) = Z
          refine hK Z ?_
          subst hZ
          clear hK K
          refine kAll_pw (by kernel_rfl) (fun K hK => ?_)
          go_simp
          generalize hZ : (Act.mk _ _) = Z
          refine hK Z ?_
          subst hZ
          clear hK K
          refine kAll_p (fun K hK => ?_)
          go_simp
          generalize hZ : (Act.mk _ _) = Z
          refine hK Z ?_
          subst hZ
          clear hK K
          refine kAll_p (fun K hK => ?_)
          go_simp
          generalize hZ : (Act.mk _ _) = Z
          refine hK Z ?_
          subst hZ
          clear hK K
          refine kAll_skip (by kernel_rfl) ?_
          refine kAll_skip (by kernel_rfl) ?_
          refine kAll_skip (by kernel_rfl) ?_
          refine kAll_p (fun K hK => ?_)
          go_simp
          generalize hZ : (Act.mk _ _) = Z
          refine hK Z ?_
          subst hZ
          clear hK K
          refine kAll_p (fun K hK => ?_)
          go_simp
          generalize hZ : (Act.mk _ _) = Z
          refine hK Z ?_
          subst hZ
          clear hK K
          refine kAll_skip (by kernel_rfl) ?_
          refine kAll_skip (by kernel_rfl) ?_
          refine kAll_skip (by kernel_rfl) ?_
          refine kAll_p (fun K hK => ?_)
          go_simp
          generalize hZ : (Act.mk _ _) = Z
          refine hK Z ?_
          subst hZ
          clear hK K
          refine kAll_p (fun K hK => ?_)
          go_simp
          generalize hZ : (Act.mk _ _) = Z
          refine hK Z ?_
          subst hZ
          clear hK K
          refine kAll_skip (by kernel_rfl) ?_
          refine kAll_skip (by kernel_rfl) ?_
          refine kAll_skip (by kernel_rfl) ?_
          refine kAll_skip (by kernel_rfl) ?_
          refine kAll_p (fun K hK => ?_)
          go_simp
          generalize hZ : (Act.mk _ _) = Z
          refine hK Z ?_
          subst hZ
          clear hK K
          refine kAll_p (fun K hK => ?_)
          go_simp
          generalize hZ : (Act.mk _ _) = Z
          refine hK Z ?_
          subst hZ
          clear hK K
          refine kAll_skip (by kernel_rfl) ?_
          refine kAll_skip (by kernel_rfl) ?_
          refine kAll_skip (by kernel_rfl) ?_
          refine kAll_skip (by kernel_rfl) ?_
          refine kAll_skip (by kernel_rfl) ?_
          refine kAll_skip (by kernel_rfl) ?_
          refine kAll_skip (by kernel_rfl) ?_
          refine kAll_skip (by kernel_rfl) ?_
          refine kAll_skip (by kernel_rfl) ?_
          refine kAll_skip (by kernel_rfl) ?_
          refine kAll_skip (by kernel_rfl) ?_
          refine kAll_skip (by kernel_rfl) ?_
          refine kAll_skip (by kernel_rfl) ?_
          refine kAll_skip (by kernel_rfl) ?_
          refine kAll_skip (by kernel_rfl) ?_
          refine kAll_p (fun K hK => ?_)
          go_simp
          generalize hZ : (Act.mk _ _) = Z
          refine hK Z ?_
          subst hZ
          clear hK K
          refine kAll_nil (fun W hW hF => ?_)
          clear hF
          have HW := Lib.hid (keepD KX.out hW)
          clear hW
          go_wp2
          go_ret
          exact ⟨ret_bool HB.out.symm, keep0_trans _ _ _ HK.out HW.out⟩
        · have hs1 : decide (s < 1) = false := decide_eq_false h1
          by_cases h6 : 6 < s
          · have hs6 : decide (6 < s) = true := decide_eq_true h6
            have HB := Lib.hid (HFL.out (by rw [HO.out, hM, decide_eq_false (by omega)]; rfl))
            clear hM
            go_wp2_with fail
            refine wp_region_krip (Keep (fun _ => False)) (Keep.refl _) keep0_trans 42 (by kernel_rfl) (by kernel_rfl) (Ts := [none, some (.inl (idV (a, i))), some (.inl (.bool true)), none, none, none, some (.inl (.int .u8 s)), none, none, none, none, some (.inl (.int .u8 s)), none, none, none, none, none, none, none, none, none, none, none, none, none, none, none, none, none, none, none, none, none, none, none, none, none, none, none, none, none, none]) ?_
            simp only [List.take, List.drop]
            refine kAll_p (fun K hK => ?_)
            go_simp
            generalize hZ : (Act.mk _ _) = Z
            refine hK Z ?_
            subst hZ
            clear hK K
            refine kAll_dn _ (fun W hW hF => kStep_of fun K Q hK => ?_) (fun K hK => ?_)
            · have c0 := (BX.out.drew.keep hW (fun h => h)).cell 0
              have c1 := (BX.out.drew.keep hW (fun h => h)).cell 1
              have c2 := (BX.out.drew.keep hW (fun h => h)).cell 2
              have c3 := (BX.out.drew.keep hW (fun h => h)).cell 3
              simp at c0 c1 c2 c3
              go_simp
              exact hK _ _ (Keep.refl _ _) rfl
            go_simp
            generalize hZ : (Act.mk _ _) = Z
            refine hK Z ?_
            subst hZ
            clear hK K
            refine kAll_dn _ (fun W hW hF => kStep_of fun K Q hK => ?_) (fun K hK => ?_)
            · go_simp
              refine (may_any (a, i) W).mono ?_
              rintro e w' ⟨rfl, hk⟩
              rw [HM.out]
              exact hK _ _ hk rfl
            go_simp
            generalize hZ : (Act.mk _ _) = Z
            refine hK Z ?_
            subst hZ
            clear hK K
            refine kAll_p (fun K hK => ?_)
            go_simp
            generalize hZ : (Act.mk _ _) = Z
            refine hK Z ?_
            subst hZ
            clear hK K
            refine kAll_p (fun K hK => ?_)
            go_simp
            generalize hZ : (Act.mk _ _) = Z
            refine hK Z ?_
            subst hZ
            clear hK K
            refine kAll_pw (by kernel_rfl) (fun K hK => ?_)
            go_simp
            generalize hZ : (Act.mk _ _) = Z
            refine hK Z ?_
            subst hZ
            clear hK K
            refine kAll_dn _ (fun W hW hF => kStep_w (by kernel_rfl) fun K Q hK => ?_) (fun K hK => ?_)
            · have c0 := (BX.out.drew.keep hW (fun h => h)).cell 0
              have c1 := (BX.out.drew.keep hW (fun h => h)).cell 1
              have c2 := (BX.out.drew.keep hW (fun h => h)).cell 2
              have c3 := (BX.out.drew.keep hW (fun h => h)).cell 3
              simp at c0 c1 c2 c3
              go_simp
              exact hK _ _ (Keep.refl _ _) rfl
            go_simp
            generalize hZ : (Act.mk _ _) = Z
            refine hK Z ?_
            subst hZ
            clear hK K
            refine kAll_pw (by kernel_rfl) (fun K hK => ?_)
            go_simp
            generalize hZ : (Act.mk _ _) = Z
            refine hK Z ?_
            subst hZ
            clear hK K
            refine kAll_p (fun K hK => ?_)
            go_simp
            generalize hZ : (Act.mk _ _) = Z
            refine hK Z ?_
            subst hZ
            clear hK K
            refine kAll_p (fun K hK => ?_)
            go_simp
            generalize hZ : (Act.mk _ _) = Z
            refine hK Z ?_
            subst hZ
            clear hK K
            refine kAll_pw (by kernel_rfl) (fun K hK => ?_)
            go_simp
            generalize hZ : (Act.mk _ _) = Z
            refine hK Z ?_
            subst hZ
            clear hK K
            refine kAll_dn _ (fun W hW hF => kStep_w (by kernel_rfl) fun K Q hK => ?_) (fun K hK => ?_)
            · have c0 := (BX.out.drew.keep hW (fun h => h)).cell 0
              have c1 := (BX.out.drew.keep hW (fun h => h)).cell 1
              have c2 := (BX.out.drew.keep hW (fun h => h)).cell 2
              have c3 := (BX.out.drew.keep hW (fun h => h)).cell 3
              simp at c0 c1 c2 c3
              go_simp
              exact hK _ _ (Keep.refl _ _) rfl
            go_simp
            generalize hZ : (Act.mk _ _) = Z
            refine hK Z ?_
            subst hZ
            clear hK K
            refine kAll_pw (by kernel_rfl) (fun K hK => ?_)
            go_simp
            generalize hZ : (Act.mk _ _) = Z
            refine hK Z ?_
            subst hZ
            clear hK K
            refine kAll_p (fun K hK => ?_)
            go_simp
            generalize hZ : (Act.mk _ _) = Z
            refine hK Z ?_
            subst hZ
            clear hK K
            refine kAll_p (fun K hK => ?_)
            go_simp
            generalize hZ : (Act.mk _ _) = Z
            refine hK Z ?_
            subst hZ
            clear hK K
            refine kAll_skip (by kernel_rfl) ?_
            refine kAll_skip (by kernel_rfl) ?_
            refine kAll_skip (by kernel_rfl) ?_
            refine kAll_p (fun K hK => ?_)
            go_simp
            generalize hZ : (Act.mk _ _) = Z
            refine hK Z ?_
            subst hZ
            clear hK K
            refine kAll_p (fun K hK => ?_)
            go_simp
            generalize hZ : (Act.mk _ _) = Z
            refine hK Z ?_
            subst hZ
            clear hK K
            refine kAll_skip (by kernel_rfl) ?_
            refine kAll_skip (by kernel_rfl) ?_
            refine kAll_skip (by kernel_rfl) ?_
            refine kAll_skip (by kernel_rfl) ?_
            refine kAll_p (fun K hK => ?_)
            go_simp
            generalize hZ : (Act.mk _ _) = Z
            refine hK Z ?_
            subst hZ
            clear hK K
            refine kAll_p (fun K hK => ?_)
            go_simp
            generalize hZ : (Act.mk _ _) = Z
            refine hK Z ?_
            subst hZ
            clear hK K
            refine kAll_skip (by kernel_rfl) ?_
            refine kAll_skip (by kernel_rfl) ?_
            refine kAll_skip (by kernel_rfl) ?_
            refine kAll_skip (by kernel_rfl) ?_
            refine kAll_skip (by kernel_rfl) ?_
            refine kAll_skip (by kernel_rfl) ?_
            refine kAll_skip (by kernel_rfl) ?_
            refine kAll_skip (by kernel_rfl) ?_
            refine kAll_skip (by kernel_rfl) ?_
            refine kAll_skip (by kernel_rfl) ?_
            refine kAll_skip (by kernel_rfl) ?_
            refine kAll_skip (by kernel_rfl) ?_
            refine kAll_skip (by kernel_rfl) ?_
            refine kAll_skip (by kernel_rfl) ?_
            refine kAll_skip (by kernel_rfl) ?_
            refine kAll_p (fun K hK => ?_)
            go_simp
            generalize hZ : (Act.mk _ _) = Z
            refine hK Z ?_
            subst hZ
            clear hK K
            refine kAll_nil (fun W hW hF => ?_)
            clear hF
            have HW := Lib.hid (keepD KX.out hW)
            clear hW
            go_wp2
            go_ret
            exact ⟨ret_bool HB.out.symm, keep0_trans _ _ _ HK.out HW.out⟩
          · have hs6 : decide (6 < s) = false := decide_eq_false h6
            have hS : decide (1 ≤ s ∧ s ≤ 6) = true := decide_eq_true (by omega)
            rw [hM, hS] at HO
            clear hM hS
            cases hN : numT ⟨a, i, s, m⟩
            · have HN := Lib.hid hN
              have HB := Lib.hid (HFL.out (by rw [HO.out, hN]; rfl))
              clear hN
              go_wp2_with fail
              refine wp_region_krip (Keep (fun _ => False)) (Keep.refl _) keep0_trans 42 (by kernel_rfl) (by kernel_rfl) (Ts := [none, some (.inl (idV (a, i))), some (.inl (.bool true)), none, none, none, some (.inl (.int .u8 s)), none, none, none, none, some (.inl (.int .u8 s)), none, none, none, some (.inl (memV ⟨a, i, s, m⟩)), some (.inl (.bool false)), none, none, none, none, none, none, none, none, none, none, none, none, none, none, none, none, none, none, none, none, none, none, none, none, none]) ?_
              simp only [List.take, List.drop]
              refine kAll_p (fun K hK => ?_)
              go_simp
              generalize hZ : (Act.mk _ _) = Z
              refine hK Z ?_
              subst hZ
              clear hK K
              refine kAll_dn _ (fun W hW hF => kStep_of fun K Q hK => ?_) (fun K hK => ?_)
              · have c0 := (BX.out.drew.keep hW (fun h => h)).cell 0
                have c1 := (BX.out.drew.keep hW (fun h => h)).cell 1
                have c2 := (BX.out.drew.keep hW (fun h => h)).cell 2
                have c3 := (BX.out.drew.keep hW (fun h => h)).cell 3
                simp at c0 c1 c2 c3
                go_simp
                exact hK _ _ (Keep.refl _ _) rfl
              go_simp
              generalize hZ : (Act.mk _ _) = Z
              refine hK Z ?_
              subst hZ
              clear hK K
              refine kAll_dn _ (fun W hW hF => kStep_of fun K Q hK => ?_) (fun K hK => ?_)
              · go_simp
                refine (may_any (a, i) W).mono ?_
                rintro e w' ⟨rfl, hk⟩
                rw [HM.out]
                exact hK _ _ hk rfl
              go_simp
              generalize hZ : (Act.mk _ _) = Z
              refine hK Z ?_
              subst hZ
              clear hK K
              refine kAll_p (fun K hK => ?_)
              go_simp
              generalize hZ : (Act.mk _ _) = Z
              refine hK Z ?_
              subst hZ
              clear hK K
              refine kAll_p (fun K hK => ?_)
              go_simp
              generalize hZ : (Act.mk _ _) = Z
              refine hK Z ?_
              subst hZ
              clear hK K
              refine kAll_pw (by kernel_rfl) (fun K hK => ?_)
              go_simp
              generalize hZ : (Act.mk _ _) = Z
              refine hK Z ?_
              subst hZ
              clear hK K
              refine kAll_dn _ (fun W hW hF => kStep_w (by kernel_rfl) fun K Q hK => ?_) (fun K hK => ?_)
              · have c0 := (BX.out.drew.keep hW (fun h => h)).cell 0
                have c1 := (BX.out.drew.keep hW (fun h => h)).cell 1
                have c2 := (BX.out.drew.keep hW (fun h => h)).cell 2
                have c3 := (BX.out.drew.keep hW (fun h => h)).cell 3
                simp at c0 c1 c2 c3
                go_simp
                exact hK _ _ (Keep.refl _ _) rfl
              go_simp
              generalize hZ : (Act.mk _ _) = Z
              refine hK Z ?_
              subst hZ
              clear hK K
              refine kAll_pw (by kernel_rfl) (fun K hK => ?_)
              go_simp
              generalize hZ : (Act.mk _ _) = Z
              refine hK Z ?_
              subst hZ
              clear hK K
              refine kAll_p (fun K hK => ?_)
              go_simp
              generalize hZ : (Act.mk _ _) = Z
              refine hK Z ?_
              subst hZ
              clear hK K
              refine kAll_p (fun K hK => ?_)
              go_simp
              generalize hZ : (Act.mk _ _) = Z
              refine hK Z ?_
              subst hZ
              clear hK K
              refine kAll_pw (by kernel_rfl) (fun K hK => ?_)
              go_simp
              generalize hZ : (Act.mk _ _) = Z
              refine hK Z ?_
              subst hZ
              clear hK K
              refine kAll_dn _ (fun W hW hF => kStep_w (by kernel_rfl) fun K Q hK => ?_) (fun K hK => ?_)
              · have c0 := (BX.out.drew.keep hW (fun h => h)).cell 0
                have c1 := (BX.out.drew.keep hW (fun h => h)).cell 1
                have c2 := (BX.out.drew.keep hW (fun h => h)).cell 2
                have c3 := (BX.out.drew.keep hW (fun h => h)).cell 3
                simp at c0 c1 c2 c3
                go_simp
                exact hK _ _ (Keep.refl _ _) rfl
              go_simp
              generalize hZ : (Act.mk _ _) = Z
              refine hK Z ?_
              subst hZ
              clear hK K
              refine kAll_pw (by kernel_rfl) (fun K hK => ?_)
              go_simp
              generalize hZ : (Act.mk _ _) = Z
              refine hK Z ?_
              subst hZ
              clear hK K
              refine kAll_p (fun K hK => ?_)
              go_simp
              generalize hZ : (Act.mk _ _) = Z
              refine hK Z ?_
              subst hZ
              clear hK K
              refine kAll_p (fun K hK => ?_)
              go_simp
              generalize hZ : (Act.mk _ _) = Z
              refine hK Z ?_
              subst hZ
              clear hK K
              refine kAll_dn _ (fun W hW hF => kStep_w (by kernel_rfl) fun K Q hK => ?_) (fun K hK => ?_)
              · have c0 := (BX.out.drew.keep hW (fun h => h)).cell 0
                have c1 := (BX.out.drew.keep hW (fun h => h)).cell 1
                have c2 := (BX.out.drew.keep hW (fun h => h)).cell 2
                have c3 := (BX.out.drew.keep hW (fun h => h)).cell 3
                simp at c0 c1 c2 c3
                go_simp
                exact hK _ _ (Keep.refl _ _) rfl
              go_simp
              generalize hZ : (Act.mk _ _) = Z
              refine hK Z ?_
              subst hZ
              clear hK K
              refine kAll_dn _ (fun W hW hF => kStep_w (by kernel_rfl) fun K Q hK => ?_) (fun K hK => ?_)
              · go_simp
                refine (num_any ⟨a, i, s, m⟩ W).mono ?_
                rintro e w' ⟨rfl, hk⟩
                rw [HN.out]
                exact hK _ _ hk rfl
              go_simp
              generalize hZ : (Act.mk _ _) = Z
              refine hK Z ?_
              subst hZ
              clear hK K
              refine kAll_pw (by kernel_rfl) (fun K hK => ?_)
              go_simp
              generalize hZ : (Act.mk _ _) = Z
              refine hK Z ?_
              subst hZ
              clear hK K
              refine kAll_p (fun K hK => ?_)
              go_simp
              generalize hZ : (Act.mk _ _) = Z
              refine hK Z ?_
              subst hZ
              clear hK K
              refine kAll_p (fun K hK => ?_)
              go_simp
              generalize hZ : (Act.mk _ _) = Z
              refine hK Z ?_
              subst hZ
              clear hK K
              refine kAll_skip (by kernel_rfl) ?_
              refine kAll_skip (by kernel_rfl) ?_
              refine kAll_skip (by kernel_rfl) ?_
              refine kAll_skip (by kernel_rfl) ?_
              refine kAll_p (fun K hK => ?_)
              go_simp
              generalize hZ : (Act.mk _ _) = Z
              refine hK Z ?_
              subst hZ
              clear hK K
              refine kAll_p (fun K hK => ?_)
              go_simp
              generalize hZ : (Act.mk _ _) = Z
              refine hK Z ?_
              subst hZ
              clear hK K
              refine kAll_skip (by kernel_rfl) ?_
              refine kAll_skip (by kernel_rfl) ?_
              refine kAll_skip (by kernel_rfl) ?_
              refine kAll_skip (by kernel_rfl) ?_
              refine kAll_skip (by kernel_rfl) ?_
              refine kAll_skip (by kernel_rfl) ?_
              refine kAll_skip (by kernel_rfl) ?_
              refine kAll_skip (by kernel_rfl) ?_
              refine kAll_skip (by kernel_rfl) ?_
              refine kAll_skip (by kernel_rfl) ?_
              refine kAll_skip (by kernel_rfl) ?_
              refine kAll_skip (by kernel_rfl) ?_
              refine kAll_skip (by kernel_rfl) ?_
              refine kAll_skip (by kernel_rfl) ?_
              refine kAll_skip (by kernel_rfl) ?_
              refine kAll_p (fun K hK => ?_)
              go_simp
              generalize hZ : (Act.mk _ _) = Z
              refine hK Z ?_
              subst hZ
              clear hK K
              refine kAll_nil (fun W hW hF => ?_)
              clear hF
              have HW := Lib.hid (keepD KX.out hW)
              clear hW
              go_wp2
              go_ret
              exact ⟨ret_bool HB.out.symm, keep0_trans _ _ _ HK.out HW.out⟩
            · have HN := Lib.hid hN
              rw [hN] at HO
              clear hN
              cases hG : goneT f (a, i)
              · have HG := Lib.hid (show decide ((a, i).2 ≤ floorT f (a, i).1) = false from hG)
                rw [hG] at HO
                clear hG
                by_cases h0 : k = 0
                · have HE := Lib.hid (show okMem l f k = true by rw [HO.out, decide_eq_true h0]; rfl)
                  subst h0
                  simp only [Nat.zero_mul, Nat.add_zero] at q0 q1 q2 q3
                  go_wp2_with fail
                  refine wp_region_krip (Keep (fun _ => False)) (Keep.refl _) keep0_trans 42 (by kernel_rfl) (by kernel_rfl) (Ts := [none, some (.inl (idV (a, i))), some (.inl (.bool true)), none, none, none, some (.inl (.int .u8 s)), none, none, none, none, some (.inl (.int .u8 s)), none, none, none, some (.inl (memV ⟨a, i, s, m⟩)), some (.inl (.bool true)), none, none, none, none, none, some (.inl (idV (a, i))), some (.inl (.bool false)), none, none, none, none, none, none, none, none, none, none, none, none, none, none, none, none, none, none]) ?_
                  simp only [List.take, List.drop]
                  refine kAll_p (fun K hK => ?_)
                  go_simp
                  generalize hZ : (Act.mk _ _) = Z
                  refine hK Z ?_
                  subst hZ
                  clear hK K
                  refine kAll_dn _ (fun W hW hF => kStep_of fun K Q hK => ?_) (fun K hK => ?_)
                  · have c0 := (BX.out.drew.keep hW (fun h => h)).cell 0
                    have c1 := (BX.out.drew.keep hW (fun h => h)).cell 1
                    have c2 := (BX.out.drew.keep hW (fun h => h)).cell 2
                    have c3 := (BX.out.drew.keep hW (fun h => h)).cell 3
                    simp at c0 c1 c2 c3
                    go_simp
                    exact hK _ _ (Keep.refl _ _) rfl
                  go_simp
                  generalize hZ : (Act.mk _ _) = Z
                  refine hK Z ?_
                  subst hZ
                  clear hK K
                  refine kAll_dn _ (fun W hW hF => kStep_of fun K Q hK => ?_) (fun K hK => ?_)
                  · go_simp
                    refine (may_any (a, i) W).mono ?_
                    rintro e w' ⟨rfl, hk⟩
                    rw [HM.out]
                    exact hK _ _ hk rfl
                  go_simp
                  generalize hZ : (Act.mk _ _) = Z
                  refine hK Z ?_
                  subst hZ
                  clear hK K
                  refine kAll_p (fun K hK => ?_)
                  go_simp
                  generalize hZ : (Act.mk _ _) = Z
                  refine hK Z ?_
                  subst hZ
                  clear hK K
                  refine kAll_p (fun K hK => ?_)
                  go_simp
                  generalize hZ : (Act.mk _ _) = Z
                  refine hK Z ?_
                  subst hZ
                  clear hK K
                  refine kAll_pw (by kernel_rfl) (fun K hK => ?_)
                  go_simp
                  generalize hZ : (Act.mk _ _) = Z
                  refine hK Z ?_
                  subst hZ
                  clear hK K
                  refine kAll_dn _ (fun W hW hF => kStep_w (by kernel_rfl) fun K Q hK => ?_) (fun K hK => ?_)
                  · have c0 := (BX.out.drew.keep hW (fun h => h)).cell 0
                    have c1 := (BX.out.drew.keep hW (fun h => h)).cell 1
                    have c2 := (BX.out.drew.keep hW (fun h => h)).cell 2
                    have c3 := (BX.out.drew.keep hW (fun h => h)).cell 3
                    simp at c0 c1 c2 c3
                    go_simp
                    exact hK _ _ (Keep.refl _ _) rfl
                  go_simp
                  generalize hZ : (Act.mk _ _) = Z
                  refine hK Z ?_
                  subst hZ
                  clear hK K
                  refine kAll_pw (by kernel_rfl) (fun K hK => ?_)
                  go_simp
                  generalize hZ : (Act.mk _ _) = Z
                  refine hK Z ?_
                  subst hZ
                  clear hK K
                  refine kAll_p (fun K hK => ?_)
                  go_simp
                  generalize hZ : (Act.mk _ _) = Z
                  refine hK Z ?_
                  subst hZ
                  clear hK K
                  refine kAll_p (fun K hK => ?_)
                  go_simp
                  generalize hZ : (Act.mk _ _) = Z
                  refine hK Z ?_
                  subst hZ
                  clear hK K
                  refine kAll_pw (by kernel_rfl) (fun K hK => ?_)
                  go_simp
                  generalize hZ : (Act.mk _ _) = Z
                  refine hK Z ?_
                  subst hZ
                  clear hK K
                  refine kAll_dn _ (fun W hW hF => kStep_w (by kernel_rfl) fun K Q hK => ?_) (fun K hK => ?_)
                  · have c0 := (BX.out.drew.keep hW (fun h => h)).cell 0
                    have c1 := (BX.out.drew.keep hW (fun h => h)).cell 1
                    have c2 := (BX.out.drew.keep hW (fun h => h)).cell 2
                    have c3 := (BX.out.drew.keep hW (fun h => h)).cell 3
                    simp at c0 c1 c2 c3
                    go_simp
                    exact hK _ _ (Keep.refl _ _) rfl
                  go_simp
                  generalize hZ : (Act.mk _ _) = Z
                  refine hK Z ?_
                  subst hZ
                  clear hK K
                  refine kAll_pw (by kernel_rfl) (fun K hK => ?_)
                  go_simp
                  generalize hZ : (Act.mk _ _) = Z
                  refine hK Z ?_
                  subst hZ
                  clear hK K
                  refine kAll_p (fun K hK => ?_)
                  go_simp
                  generalize hZ : (Act.mk _ _) = Z
                  refine hK Z ?_
                  subst hZ
                  clear hK K
                  refine kAll_p (fun K hK => ?_)
                  go_simp
                  generalize hZ : (Act.mk _ _) = Z
                  refine hK Z ?_
                  subst hZ
                  clear hK K
                  refine kAll_dn _ (fun W hW hF => kStep_w (by kernel_rfl) fun K Q hK => ?_) (fun K hK => ?_)
                  · have c0 := (BX.out.drew.keep hW (fun h => h)).cell 0
                    have c1 := (BX.out.drew.keep hW (fun h => h)).cell 1
                    have c2 := (BX.out.drew.keep hW (fun h => h)).cell 2
                    have c3 := (BX.out.drew.keep hW (fun h => h)).cell 3
                    simp at c0 c1 c2 c3
                    go_simp
                    exact hK _ _ (Keep.refl _ _) rfl
                  go_simp
                  generalize hZ : (Act.mk _ _) = Z
                  refine hK Z ?_
                  subst hZ
                  clear hK K
                  refine kAll_dn _ (fun W hW hF => kStep_w (by kernel_rfl) fun K Q hK => ?_) (fun K hK => ?_)
                  · go_simp
                    refine (num_any ⟨a, i, s, m⟩ W).mono ?_
                    rintro e w' ⟨rfl, hk⟩
                    rw [HN.out]
                    exact hK _ _ hk rfl
                  go_simp
                  generalize hZ : (Act.mk _ _) = Z
                  refine hK Z ?_
                  subst hZ
                  clear hK K
                  refine kAll_pw (by kernel_rfl) (fun K hK => ?_)
                  go_simp
                  generalize hZ : (Act.mk _ _) = Z
                  refine hK Z ?_
                  subst hZ
                  clear hK K
                  refine kAll_p (fun K hK => ?_)
                  go_simp
                  generalize hZ : (Act.mk _ _) = Z
                  refine hK Z ?_
                  subst hZ
                  clear hK K
                  refine kAll_p (fun K hK => ?_)
                  go_simp
                  generalize hZ : (Act.mk _ _) = Z
                  refine hK Z ?_
                  subst hZ
                  clear hK K
                  refine kAll_pw (by kernel_rfl) (fun K hK => ?_)
                  go_simp
                  generalize hZ : (Act.mk _ _) = Z
                  refine hK Z ?_
                  subst hZ
                  clear hK K
                  refine kAll_pw (by kernel_rfl) (fun K hK => ?_)
                  go_simp
                  generalize hZ : (Act.mk _ _) = Z
                  refine hK Z ?_
                  subst hZ
                  clear hK K
                  refine kAll_dn _ (fun W hW hF => kStep_w (by kernel_rfl) fun K Q hK => ?_) (fun K hK => ?_)
                  · have c0 := (BX.out.drew.keep hW (fun h => h)).cell 0
                    have c1 := (BX.out.drew.keep hW (fun h => h)).cell 1
                    have c2 := (BX.out.drew.keep hW (fun h => h)).cell 2
                    have c3 := (BX.out.drew.keep hW (fun h => h)).cell 3
                    simp at c0 c1 c2 c3
                    go_simp
                    exact hK _ _ (Keep.refl _ _) rfl
                  go_simp
                  generalize hZ : (Act.mk _ _) = Z
                  refine hK Z ?_
                  subst hZ
                  clear hK K
                  refine kAll_dn _ (fun W hW hF => kStep_w (by kernel_rfl) fun K Q hK => ?_) (fun K hK => ?_)
                  · go_simp
                    refine (gone_any A' n' c' f (a, i) W (HF.out W (keepD KX.out hW)) hn').mono ?_
                    rintro e w' ⟨rfl, hk⟩
                    rw [HG.out]
                    exact hK _ _ hk rfl
                  go_simp
                  generalize hZ : (Act.mk _ _) = Z
                  refine hK Z ?_
                  subst hZ
                  clear hK K
                  refine kAll_p (fun K hK => ?_)
                  go_simp
                  generalize hZ : (Act.mk _ _) = Z
                  refine hK Z ?_
                  subst hZ
                  clear hK K
                  refine kAll_p (fun K hK => ?_)
                  go_simp
                  generalize hZ : (Act.mk _ _) = Z
                  refine hK Z ?_
                  subst hZ
                  clear hK K
                  refine kAll_pw (by kernel_rfl) (fun K hK => ?_)
                  go_simp
                  generalize hZ : (Act.mk _ _) = Z
                  refine hK Z ?_
                  subst hZ
                  clear hK K
                  refine kAll_pw (by kernel_rfl) (fun K hK => ?_)
                  go_simp
                  generalize hZ : (Act.mk _ _) = Z
                  refine hK Z ?_
                  subst hZ
                  clear hK K
                  refine kAll_pw (by kernel_rfl) (fun K hK => ?_)
                  go_simp
                  generalize hZ : (Act.mk _ _) = Z
                  refine hK Z ?_
                  subst hZ
                  clear hK K
                  refine kAll_skip (by kernel_rfl) ?_
                  refine kAll_skip (by kernel_rfl) ?_
                  refine kAll_skip (by kernel_rfl) ?_
                  refine kAll_skip (by kernel_rfl) ?_
                  refine kAll_skip (by kernel_rfl) ?_
                  refine kAll_skip (by kernel_rfl) ?_
                  refine kAll_skip (by kernel_rfl) ?_
                  refine kAll_skip (by kernel_rfl) ?_
                  refine kAll_skip (by kernel_rfl) ?_
                  refine kAll_skip (by kernel_rfl) ?_
                  refine kAll_skip (by kernel_rfl) ?_
                  refine kAll_pw (by kernel_rfl) (fun K hK => ?_)
                  go_simp
                  generalize hZ : (Act.mk _ _) = Z
                  refine hK Z ?_
                  subst hZ
                  clear hK K
                  refine kAll_p (fun K hK => ?_)
                  go_simp
                  generalize hZ : (Act.mk _ _) = Z
                  refine hK Z ?_
                  subst hZ
                  clear hK K
                  refine kAll_nil (fun W hW hF => ?_)
                  clear hF
                  have HW := Lib.hid (keepD KX.out hW)
                  clear hW
                  go_wp2
                  go_roundw
                  case rel => exact ⟨1, by omega, by go_num, Lib.hid (all_snoc HA.out HE.out), Lib.hid (keep0_trans _ _ _ HK.out HW.out)⟩
                  case measure => simp [intOf]; omega
                · have hk0 : 0 < k := by omega
                  have HP := Lib.hid (HPR.out hk0)
                  have hkI : (0 : Int) < (k : Int) := by omega
                  have hk1 : (1 : Int) ≤ (k : Int) := by omega
                  have hkJ : (0 : Int) ≤ (k : Int) - 1 := by omega
                  have hkK : (k : Int) - 1 < (n : Int) := by omega
                  have hkT : ((k : Int) - 1).toNat = k - 1 := by omega
                  have hkW : IntKind.i64.wrap ((k : Int) - 1) = (k : Int) - 1 := IntWalk.i64_in _ (by omega)
                  have hkD : decide ((0 : Int) < (k : Int)) = true := decide_eq_true hkI
                  by_cases hp : a ≤ pa
                  · have hpd : decide (a ≤ pa) = true := decide_eq_true hp
                    have HB := Lib.hid (HFL.out (by rw [HO.out, decide_eq_false h0, decide_eq_false (by omega)]; rfl))
                    clear h0
                    go_wp2_with fail
                    refine wp_region_krip (Keep (fun _ => False)) (Keep.refl _) keep0_trans 42 (by kernel_rfl) (by kernel_rfl) (Ts := [none, some (.inl (idV (a, i))), some (.inl (.bool true)), none, none, none, some (.inl (.int .u8 s)), none, none, none, none, some (.inl (.int .u8 s)), none, none, none, some (.inl (memV ⟨a, i, s, m⟩)), some (.inl (.bool true)), none, none, none, none, none, some (.inl (idV (a, i))), some (.inl (.bool false)), none, none, none, none, none, none, none, some (.inl (.int .i64 a)), none, none, none, none, none, none, some (.inl (.int .i64 pa)), none, none, none]) ?_
                    simp only [List.take, List.drop]
                    refine kAll_p (fun K hK => ?_)
                    go_simp
                    generalize hZ : (Act.mk _ _) = Z
                    refine hK Z ?_
                    subst hZ
                    clear hK K
                    refine kAll_dn _ (fun W hW hF => kStep_of fun K Q hK => ?_) (fun K hK => ?_)
                    · have c0 := (BX.out.drew.keep hW (fun h => h)).cell 0
                      have c1 := (BX.out.drew.keep hW (fun h => h)).cell 1
                      have c2 := (BX.out.drew.keep hW (fun h => h)).cell 2
                      have c3 := (BX.out.drew.keep hW (fun h => h)).cell 3
                      simp at c0 c1 c2 c3
                      go_simp
                      exact hK _ _ (Keep.refl _ _) rfl
                    go_simp
                    generalize hZ : (Act.mk _ _) = Z
                    refine hK Z ?_
                    subst hZ
                    clear hK K
                    refine kAll_dn _ (fun W hW hF => kStep_of fun K Q hK => ?_) (fun K hK => ?_)
                    · go_simp
                      refine (may_any (a, i) W).mono ?_
                      rintro e w' ⟨rfl, hk⟩
                      rw [HM.out]
                      exact hK _ _ hk rfl
                    go_simp
                    generalize hZ : (Act.mk _ _) = Z
                    refine hK Z ?_
                    subst hZ
                    clear hK K
                    refine kAll_p (fun K hK => ?_)
                    go_simp
                    generalize hZ : (Act.mk _ _) = Z
                    refine hK Z ?_
                    subst hZ
                    clear hK K
                    refine kAll_p (fun K hK => ?_)
                    go_simp
                    generalize hZ : (Act.mk _ _) = Z
                    refine hK Z ?_
                    subst hZ
                    clear hK K
                    refine kAll_pw (by kernel_rfl) (fun K hK => ?_)
                    go_simp
                    generalize hZ : (Act.mk _ _) = Z
                    refine hK Z ?_
                    subst hZ
                    clear hK K
                    refine kAll_dn _ (fun W hW hF => kStep_w (by kernel_rfl) fun K Q hK => ?_) (fun K hK => ?_)
                    · have c0 := (BX.out.drew.keep hW (fun h => h)).cell 0
                      have c1 := (BX.out.drew.keep hW (fun h => h)).cell 1
                      have c2 := (BX.out.drew.keep hW (fun h => h)).cell 2
                      have c3 := (BX.out.drew.keep hW (fun h => h)).cell 3
                      simp at c0 c1 c2 c3
                      go_simp
                      exact hK _ _ (Keep.refl _ _) rfl
                    go_simp
                    generalize hZ : (Act.mk _ _) = Z
                    refine hK Z ?_
                    subst hZ
                    clear hK K
                    refine kAll_pw (by kernel_rfl) (fun K hK => ?_)
                    go_simp
                    generalize hZ : (Act.mk _ _) = Z
                    refine hK Z ?_
                    subst hZ
                    clear hK K
                    refine kAll_p (fun K hK => ?_)
                    go_simp
                    generalize hZ : (Act.mk _ _) = Z
                    refine hK Z ?_
                    subst hZ
                    clear hK K
                    refine kAll_p (fun K hK => ?_)
                    go_simp
                    generalize hZ : (Act.mk _ _) = Z
                    refine hK Z ?_
                    subst hZ
                    clear hK K
                    refine kAll_pw (by kernel_rfl) (fun K hK => ?_)
                    go_simp
                    generalize hZ : (Act.mk _ _) = Z
                    refine hK Z ?_
                    subst hZ
                    clear hK K
                    refine kAll_dn _ (fun W hW hF => kStep_w (by kernel_rfl) fun K Q hK => ?_) (fun K hK => ?_)
                    · have c0 := (BX.out.drew.keep hW (fun h => h)).cell 0
                      have c1 := (BX.out.drew.keep hW (fun h => h)).cell 1
                      have c2 := (BX.out.drew.keep hW (fun h => h)).cell 2
                      have c3 := (BX.out.drew.keep hW (fun h => h)).cell 3
                      simp at c0 c1 c2 c3
                      go_simp
                      exact hK _ _ (Keep.refl _ _) rfl
                    go_simp
                    generalize hZ : (Act.mk _ _) = Z
                    refine hK Z ?_
                    subst hZ
                    clear hK K
                    refine kAll_pw (by kernel_rfl) (fun K hK => ?_)
                    go_simp
                    generalize hZ : (Act.mk _ _) = Z
                    refine hK Z ?_
                    subst hZ
                    clear hK K
                    refine kAll_p (fun K hK => ?_)
                    go_simp
                    generalize hZ : (Act.mk _ _) = Z
                    refine hK Z ?_
                    subst hZ
                    clear hK K
                    refine kAll_p (fun K hK => ?_)
                    go_simp
                    generalize hZ : (Act.mk _ _) = Z
                    refine hK Z ?_
                    subst hZ
                    clear hK K
                    refine kAll_dn _ (fun W hW hF => kStep_w (by kernel_rfl) fun K Q hK => ?_) (fun K hK => ?_)
                    · have c0 := (BX.out.drew.keep hW (fun h => h)).cell 0
                      have c1 := (BX.out.drew.keep hW (fun h => h)).cell 1
                      have c2 := (BX.out.drew.keep hW (fun h => h)).cell 2
                      have c3 := (BX.out.drew.keep hW (fun h => h)).cell 3
                      simp at c0 c1 c2 c3
                      go_simp
                      exact hK _ _ (Keep.refl _ _) rfl
                    go_simp
                    generalize hZ : (Act.mk _ _) = Z
                    refine hK Z ?_
                    subst hZ
                    clear hK K
                    refine kAll_dn _ (fun W hW hF => kStep_w (by kernel_rfl) fun K Q hK => ?_) (fun K hK => ?_)
                    · go_simp
                      refine (num_any ⟨a, i, s, m⟩ W).mono ?_
                      rintro e w' ⟨rfl, hk⟩
                      rw [HN.out]
                      exact hK _ _ hk rfl
                    go_simp
                    generalize hZ : (Act.mk _ _) = Z
                    refine hK Z ?_
                    subst hZ
                    clear hK K
                    refine kAll_pw (by kernel_rfl) (fun K hK => ?_)
                    go_simp
                    generalize hZ : (Act.mk _ _) = Z
                    refine hK Z ?_
                    subst hZ
                    clear hK K
                    refine kAll_p (fun K hK => ?_)
                    go_simp
                    generalize hZ : (Act.mk _ _) = Z
                    refine hK Z ?_
                    subst hZ
                    clear hK K
                    refine kAll_p (fun K hK => ?_)
                    go_simp
                    generalize hZ : (Act.mk _ _) = Z
                    refine hK Z ?_
                    subst hZ
                    clear hK K
                    refine kAll_pw (by kernel_rfl) (fun K hK => ?_)
                    go_simp
                    generalize hZ : (Act.mk _ _) = Z
                    refine hK Z ?_
                    subst hZ
                    clear hK K
                    refine kAll_pw (by kernel_rfl) (fun K hK => ?_)
                    go_simp
                    generalize hZ : (Act.mk _ _) = Z
                    refine hK Z ?_
                    subst hZ
                    clear hK K
                    refine kAll_dn _ (fun W hW hF => kStep_w (by kernel_rfl) fun K Q hK => ?_) (fun K hK => ?_)
                    · have c0 := (BX.out.drew.keep hW (fun h => h)).cell 0
                      have c1 := (BX.out.drew.keep hW (fun h => h)).cell 1
                      have c2 := (BX.out.drew.keep hW (fun h => h)).cell 2
                      have c3 := (BX.out.drew.keep hW (fun h => h)).cell 3
                      simp at c0 c1 c2 c3
                      go_simp
                      exact hK _ _ (Keep.refl _ _) rfl
                    go_simp
                    generalize hZ : (Act.mk _ _) = Z
                    refine hK Z ?_
                    subst hZ
                    clear hK K
                    refine kAll_dn _ (fun W hW hF => kStep_w (by kernel_rfl) fun K Q hK => ?_) (fun K hK => ?_)
                    · go_simp
                      refine (gone_any A' n' c' f (a, i) W (HF.out W (keepD KX.out hW)) hn').mono ?_
                      rintro e w' ⟨rfl, hk⟩
                      rw [HG.out]
                      exact hK _ _ hk rfl
                    go_simp
                    generalize hZ : (Act.mk _ _) = Z
                    refine hK Z ?_
                    subst hZ
                    clear hK K
                    refine kAll_p (fun K hK => ?_)
                    go_simp
                    generalize hZ : (Act.mk _ _) = Z
                    refine hK Z ?_
                    subst hZ
                    clear hK K
                    refine kAll_p (fun K hK => ?_)
                    go_simp
                    generalize hZ : (Act.mk _ _) = Z
                    refine hK Z ?_
                    subst hZ
                    clear hK K
                    refine kAll_pw (by kernel_rfl) (fun K hK => ?_)
                    go_simp
                    generalize hZ : (Act.mk _ _) = Z
                    refine hK Z ?_
                    subst hZ
                    clear hK K
                    refine kAll_pw (by kernel_rfl) (fun K hK => ?_)
                    go_simp
                    generalize hZ : (Act.mk _ _) = Z
                    refine hK Z ?_
                    subst hZ
                    clear hK K
                    refine kAll_pw (by kernel_rfl) (fun K hK => ?_)
                    go_simp
                    generalize hZ : (Act.mk _ _) = Z
                    refine hK Z ?_
                    subst hZ
                    clear hK K
                    refine kAll_pw (by kernel_rfl) (fun K hK => ?_)
                    go_simp
                    generalize hZ : (Act.mk _ _) = Z
                    refine hK Z ?_
                    subst hZ
                    clear hK K
                    refine kAll_pw (by kernel_rfl) (fun K hK => ?_)
                    go_simp
                    generalize hZ : (Act.mk _ _) = Z
                    refine hK Z ?_
                    subst hZ
                    clear hK K
                    refine kAll_dn _ (fun W hW hF => kStep_w (by kernel_rfl) fun K Q hK => ?_) (fun K hK => ?_)
                    · have c0 := (BX.out.drew.keep hW (fun h => h)).cell 0
                      have c1 := (BX.out.drew.keep hW (fun h => h)).cell 1
                      have c2 := (BX.out.drew.keep hW (fun h => h)).cell 2
                      have c3 := (BX.out.drew.keep hW (fun h => h)).cell 3
                      simp at c0 c1 c2 c3
                      go_simp
                      exact hK _ _ (Keep.refl _ _) rfl
                    go_simp
                    generalize hZ : (Act.mk _ _) = Z
                    refine hK Z ?_
                    subst hZ
                    clear hK K
                    refine kAll_pw (by kernel_rfl) (fun K hK => ?_)
                    go_simp
                    generalize hZ : (Act.mk _ _) = Z
                    refine hK Z ?_
                    subst hZ
                    clear hK K
                    refine kAll_pw (by kernel_rfl) (fun K hK => ?_)
                    go_simp
                    generalize hZ : (Act.mk _ _) = Z
                    refine hK Z ?_
                    subst hZ
                    clear hK K
                    refine kAll_pw (by kernel_rfl) (fun K hK => ?_)
                    go_simp
                    generalize hZ : (Act.mk _ _) = Z
                    refine hK Z ?_
                    subst hZ
                    clear hK K
                    refine kAll_pw (by kernel_rfl) (fun K hK => ?_)
                    go_simp
                    generalize hZ : (Act.mk _ _) = Z
                    refine hK Z ?_
                    subst hZ
                    clear hK K
                    refine kAll_pw (by kernel_rfl) (fun K hK => ?_)
                    go_simp
                    generalize hZ : (Act.mk _ _) = Z
                    refine hK Z ?_
                    subst hZ
                    clear hK K
                    refine kAll_pw (by kernel_rfl) (fun K hK => ?_)
                    go_simp
                    generalize hZ : (Act.mk _ _) = Z
                    refine hK Z ?_
                    subst hZ
                    clear hK K
                    refine kAll_dn _ (fun W hW hF => kStep_w (by kernel_rfl) fun K Q hK => ?_) (fun K hK => ?_)
                    · have hp := HP.out W (keepD KX.out hW)
                      go_simp
                      exact hK _ _ (Keep.refl _ _) rfl
                    go_simp
                    generalize hZ : (Act.mk _ _) = Z
                    refine hK Z ?_
                    subst hZ
                    clear hK K
                    refine kAll_pw (by kernel_rfl) (fun K hK => ?_)
                    go_simp
                    generalize hZ : (Act.mk _ _) = Z
                    refine hK Z ?_
                    subst hZ
                    clear hK K
                    refine kAll_pw (by kernel_rfl) (fun K hK => ?_)
                    go_simp
                    generalize hZ : (Act.mk _ _) = Z
                    refine hK Z ?_
                    subst hZ
                    clear hK K
                    refine kAll_p (fun K hK => ?_)
                    go_simp
                    generalize hZ : (Act.mk _ _) = Z
                    refine hK Z ?_
                    subst hZ
                    clear hK K
                    refine kAll_nil (fun W hW hF => ?_)
                    clear hF
                    have HW := Lib.hid (keepD KX.out hW)
                    clear hW
                    go_wp2
                    go_ret
                    exact ⟨ret_bool HB.out.symm, keep0_trans _ _ _ HK.out HW.out⟩
                  · have hpd : decide (a ≤ pa) = false := decide_eq_false hp
                    have HE := Lib.hid (show okMem l f k = true by rw [HO.out, decide_eq_true (show pa < a by omega)]; simp)
                    clear h0
                    go_wp2_with fail
                    refine wp_region_krip (Keep (fun _ => False)) (Keep.refl _) keep0_trans 42 (by kernel_rfl) (by kernel_rfl) (Ts := [none, some (.inl (idV (a, i))), some (.inl (.bool true)), none, none, none, some (.inl (.int .u8 s)), none, none, none, none, some (.inl (.int .u8 s)), none, none, none, some (.inl (memV ⟨a, i, s, m⟩)), some (.inl (.bool true)), none, none, none, none, none, some (.inl (idV (a, i))), some (.inl (.bool false)), none, none, none, none, none, none, none, some (.inl (.int .i64 a)), none, none, none, none, none, none, some (.inl (.int .i64 pa)), none, none, none]) ?_
                    simp only [List.take, List.drop]
                    refine kAll_p (fun K hK => ?_)
                    go_simp
                    generalize hZ : (Act.mk _ _) = Z
                    refine hK Z ?_
                    subst hZ
                    clear hK K
                    refine kAll_dn _ (fun W hW hF => kStep_of fun K Q hK => ?_) (fun K hK => ?_)
                    · have c0 := (BX.out.drew.keep hW (fun h => h)).cell 0
                      have c1 := (BX.out.drew.keep hW (fun h => h)).cell 1
                      have c2 := (BX.out.drew.keep hW (fun h => h)).cell 2
                      have c3 := (BX.out.drew.keep hW (fun h => h)).cell 3
                      simp at c0 c1 c2 c3
                      go_simp
                      exact hK _ _ (Keep.refl _ _) rfl
                    go_simp
                    generalize hZ : (Act.mk _ _) = Z
                    refine hK Z ?_
                    subst hZ
                    clear hK K
                    refine kAll_dn _ (fun W hW hF => kStep_of fun K Q hK => ?_) (fun K hK => ?_)
                    · go_simp
                      refine (may_any (a, i) W).mono ?_
                      rintro e w' ⟨rfl, hk⟩
                      rw [HM.out]
                      exact hK _ _ hk rfl
                    go_simp
                    generalize hZ : (Act.mk _ _) = Z
                    refine hK Z ?_
                    subst hZ
                    clear hK K
                    refine kAll_p (fun K hK => ?_)
                    go_simp
                    generalize hZ : (Act.mk _ _) = Z
                    refine hK Z ?_
                    subst hZ
                    clear hK K
                    refine kAll_p (fun K hK => ?_)
                    go_simp
                    generalize hZ : (Act.mk _ _) = Z
                    refine hK Z ?_
                    subst hZ
                    clear hK K
                    refine kAll_pw (by kernel_rfl) (fun K hK => ?_)
                    go_simp
                    generalize hZ : (Act.mk _ _) = Z
                    refine hK Z ?_
                    subst hZ
                    clear hK K
                    refine kAll_dn _ (fun W hW hF => kStep_w (by kernel_rfl) fun K Q hK => ?_) (fun K hK => ?_)
                    · have c0 := (BX.out.drew.keep hW (fun h => h)).cell 0
                      have c1 := (BX.out.drew.keep hW (fun h => h)).cell 1
                      have c2 := (BX.out.drew.keep hW (fun h => h)).cell 2
                      have c3 := (BX.out.drew.keep hW (fun h => h)).cell 3
                      simp at c0 c1 c2 c3
                      go_simp
                      exact hK _ _ (Keep.refl _ _) rfl
                    go_simp
                    generalize hZ : (Act.mk _ _) = Z
                    refine hK Z ?_
                    subst hZ
                    clear hK K
                    refine kAll_pw (by kernel_rfl) (fun K hK => ?_)
                    go_simp
                    generalize hZ : (Act.mk _ _) = Z
                    refine hK Z ?_
                    subst hZ
                    clear hK K
                    refine kAll_p (fun K hK => ?_)
                    go_simp
                    generalize hZ : (Act.mk _ _) = Z
                    refine hK Z ?_
                    subst hZ
                    clear hK K
                    refine kAll_p (fun K hK => ?_)
                    go_simp
                    generalize hZ : (Act.mk _ _) = Z
                    refine hK Z ?_
                    subst hZ
                    clear hK K
                    refine kAll_pw (by kernel_rfl) (fun K hK => ?_)
                    go_simp
                    generalize hZ : (Act.mk _ _) = Z
                    refine hK Z ?_
                    subst hZ
                    clear hK K
                    refine kAll_dn _ (fun W hW hF => kStep_w (by kernel_rfl) fun K Q hK => ?_) (fun K hK => ?_)
                    · have c0 := (BX.out.drew.keep hW (fun h => h)).cell 0
                      have c1 := (BX.out.drew.keep hW (fun h => h)).cell 1
                      have c2 := (BX.out.drew.keep hW (fun h => h)).cell 2
                      have c3 := (BX.out.drew.keep hW (fun h => h)).cell 3
                      simp at c0 c1 c2 c3
                      go_simp
                      exact hK _ _ (Keep.refl _ _) rfl
                    go_simp
                    generalize hZ : (Act.mk _ _) = Z
                    refine hK Z ?_
                    subst hZ
                    clear hK K
                    refine kAll_pw (by kernel_rfl) (fun K hK => ?_)
                    go_simp
                    generalize hZ : (Act.mk _ _) = Z
                    refine hK Z ?_
                    subst hZ
                    clear hK K
                    refine kAll_p (fun K hK => ?_)
                    go_simp
                    generalize hZ : (Act.mk _ _) = Z
                    refine hK Z ?_
                    subst hZ
                    clear hK K
                    refine kAll_p (fun K hK => ?_)
                    go_simp
                    generalize hZ : (Act.mk _ _) = Z
                    refine hK Z ?_
                    subst hZ
                    clear hK K
                    refine kAll_dn _ (fun W hW hF => kStep_w (by kernel_rfl) fun K Q hK => ?_) (fun K hK => ?_)
                    · have c0 := (BX.out.drew.keep hW (fun h => h)).cell 0
                      have c1 := (BX.out.drew.keep hW (fun h => h)).cell 1
                      have c2 := (BX.out.drew.keep hW (fun h => h)).cell 2
                      have c3 := (BX.out.drew.keep hW (fun h => h)).cell 3
                      simp at c0 c1 c2 c3
                      go_simp
                      exact hK _ _ (Keep.refl _ _) rfl
                    go_simp
                    generalize hZ : (Act.mk _ _) = Z
                    refine hK Z ?_
                    subst hZ
                    clear hK K
                    refine kAll_dn _ (fun W hW hF => kStep_w (by kernel_rfl) fun K Q hK => ?_) (fun K hK => ?_)
                    · go_simp
                      refine (num_any ⟨a, i, s, m⟩ W).mono ?_
                      rintro e w' ⟨rfl, hk⟩
                      rw [HN.out]
                      exact hK _ _ hk rfl
                    go_simp
                    generalize hZ : (Act.mk _ _) = Z
                    refine hK Z ?_
                    subst hZ
                    clear hK K
                    refine kAll_pw (by kernel_rfl) (fun K hK => ?_)
                    go_simp
                    generalize hZ : (Act.mk _ _) = Z
                    refine hK Z ?_
                    subst hZ
                    clear hK K
                    refine kAll_p (fun K hK => ?_)
                    go_simp
                    generalize hZ : (Act.mk _ _) = Z
                    refine hK Z ?_
                    subst hZ
                    clear hK K
                    refine kAll_p (fun K hK => ?_)
                    go_simp
                    generalize hZ : (Act.mk _ _) = Z
                    refine hK Z ?_
                    subst hZ
                    clear hK K
                    refine kAll_pw (by kernel_rfl) (fun K hK => ?_)
                    go_simp
                    generalize hZ : (Act.mk _ _) = Z
                    refine hK Z ?_
                    subst hZ
                    clear hK K
                    refine kAll_pw (by kernel_rfl) (fun K hK => ?_)
                    go_simp
                    generalize hZ : (Act.mk _ _) = Z
                    refine hK Z ?_
                    subst hZ
                    clear hK K
                    refine kAll_dn _ (fun W hW hF => kStep_w (by kernel_rfl) fun K Q hK => ?_) (fun K hK => ?_)
                    · have c0 := (BX.out.drew.keep hW (fun h => h)).cell 0
                      have c1 := (BX.out.drew.keep hW (fun h => h)).cell 1
                      have c2 := (BX.out.drew.keep hW (fun h => h)).cell 2
                      have c3 := (BX.out.drew.keep hW (fun h => h)).cell 3
                      simp at c0 c1 c2 c3
                      go_simp
                      exact hK _ _ (Keep.refl _ _) rfl
                    go_simp
                    generalize hZ : (Act.mk _ _) = Z
                    refine hK Z ?_
                    subst hZ
                    clear hK K
                    refine kAll_dn _ (fun W hW hF => kStep_w (by kernel_rfl) fun K Q hK => ?_) (fun K hK => ?_)
                    · go_simp
                      refine (gone_any A' n' c' f (a, i) W (HF.out W (keepD KX.out hW)) hn').mono ?_
                      rintro e w' ⟨rfl, hk⟩
                      rw [HG.out]
                      exact hK _ _ hk rfl
                    go_simp
                    generalize hZ : (Act.mk _ _) = Z
                    refine hK Z ?_
                    subst hZ
                    clear hK K
                    refine kAll_p (fun K hK => ?_)
                    go_simp
                    generalize hZ : (Act.mk _ _) = Z
                    refine hK Z ?_
                    subst hZ
                    clear hK K
                    refine kAll_p (fun K hK => ?_)
                    go_simp
                    generalize hZ : (Act.mk _ _) = Z
                    refine hK Z ?_
                    subst hZ
                    clear hK K
                    refine kAll_pw (by kernel_rfl) (fun K hK => ?_)
                    go_simp
                    generalize hZ : (Act.mk _ _) = Z
                    refine hK Z ?_
                    subst hZ
                    clear hK K
                    refine kAll_pw (by kernel_rfl) (fun K hK => ?_)
                    go_simp
                    generalize hZ : (Act.mk _ _) = Z
                    refine hK Z ?_
                    subst hZ
                    clear hK K
                    refine kAll_pw (by kernel_rfl) (fun K hK => ?_)
                    go_simp
                    generalize hZ : (Act.mk _ _) = Z
                    refine hK Z ?_
                    subst hZ
                    clear hK K
                    refine kAll_pw (by kernel_rfl) (fun K hK => ?_)
                    go_simp
                    generalize hZ : (Act.mk _ _) = Z
                    refine hK Z ?_
                    subst hZ
                    clear hK K
                    refine kAll_pw (by kernel_rfl) (fun K hK => ?_)
                    go_simp
                    generalize hZ : (Act.mk _ _) = Z
                    refine hK Z ?_
                    subst hZ
                    clear hK K
                    refine kAll_dn _ (fun W hW hF => kStep_w (by kernel_rfl) fun K Q hK => ?_) (fun K hK => ?_)
                    · have c0 := (BX.out.drew.keep hW (fun h => h)).cell 0
                      have c1 := (BX.out.drew.keep hW (fun h => h)).cell 1
                      have c2 := (BX.out.drew.keep hW (fun h => h)).cell 2
                      have c3 := (BX.out.drew.keep hW (fun h => h)).cell 3
                      simp at c0 c1 c2 c3
                      go_simp
                      exact hK _ _ (Keep.refl _ _) rfl
                    go_simp
                    generalize hZ : (Act.mk _ _) = Z
                    refine hK Z ?_
                    subst hZ
                    clear hK K
                    refine kAll_pw (by kernel_rfl) (fun K hK => ?_)
                    go_simp
                    generalize hZ : (Act.mk _ _) = Z
                    refine hK Z ?_
                    subst hZ
                    clear hK K
                    refine kAll_pw (by kernel_rfl) (fun K hK => ?_)
                    go_simp
                    generalize hZ : (Act.mk _ _) = Z
                    refine hK Z ?_
                    subst hZ
                    clear hK K
                    refine kAll_pw (by kernel_rfl) (fun K hK => ?_)
                    go_simp
                    generalize hZ : (Act.mk _ _) = Z
                    refine hK Z ?_
                    subst hZ
                    clear hK K
                    refine kAll_pw (by kernel_rfl) (fun K hK => ?_)
                    go_simp
                    generalize hZ : (Act.mk _ _) = Z
                    refine hK Z ?_
                    subst hZ
                    clear hK K
                    refine kAll_pw (by kernel_rfl) (fun K hK => ?_)
                    go_simp
                    generalize hZ : (Act.mk _ _) = Z
                    refine hK Z ?_
                    subst hZ
                    clear hK K
                    refine kAll_pw (by kernel_rfl) (fun K hK => ?_)
                    go_simp
                    generalize hZ : (Act.mk _ _) = Z
                    refine hK Z ?_
                    subst hZ
                    clear hK K
                    refine kAll_dn _ (fun W hW hF => kStep_w (by kernel_rfl) fun K Q hK => ?_) (fun K hK => ?_)
                    · have hp := HP.out W (keepD KX.out hW)
                      go_simp
                      exact hK _ _ (Keep.refl _ _) rfl
                    go_simp
                    generalize hZ : (Act.mk _ _) = Z
                    refine hK Z ?_
                    subst hZ
                    clear hK K
                    refine kAll_pw (by kernel_rfl) (fun K hK => ?_)
                    go_simp
                    generalize hZ : (Act.mk _ _) = Z
                    refine hK Z ?_
                    subst hZ
                    clear hK K
                    refine kAll_pw (by kernel_rfl) (fun K hK => ?_)
                    go_simp
                    generalize hZ : (Act.mk _ _) = Z
                    refine hK Z ?_
                    subst hZ
                    clear hK K
                    refine kAll_p (fun K hK => ?_)
                    go_simp
                    generalize hZ : (Act.mk _ _) = Z
                    refine hK Z ?_
                    subst hZ
                    clear hK K
                    refine kAll_nil (fun W hW hF => ?_)
                    clear hF
                    have HW := Lib.hid (keepD KX.out hW)
                    clear hW
                    go_wp2
                    go_roundw
                    case rel => exact ⟨k + 1, by omega, by go_num, Lib.hid (all_snoc HA.out HE.out), Lib.hid (keep0_trans _ _ _ HK.out HW.out)⟩
                    case measure => simp [intOf]; omega
              · have HG := Lib.hid (show decide ((a, i).2 ≤ floorT f (a, i).1) = true from hG)
                have HB := Lib.hid (HFL.out (by rw [HO.out, hG]; rfl))
                clear hG
                go_wp2_with fail
                refine wp_region_krip (Keep (fun _ => False)) (Keep.refl _) keep0_trans 42 (by kernel_rfl) (by kernel_rfl) (Ts := [none, some (.inl (idV (a, i))), some (.inl (.bool true)), none, none, none, some (.inl (.int .u8 s)), none, none, none, none, some (.inl (.int .u8 s)), none, none, none, some (.inl (memV ⟨a, i, s, m⟩)), some (.inl (.bool true)), none, none, none, none, none, some (.inl (idV (a, i))), some (.inl (.bool true)), none, none, none, none, none, none, none, none, none, none, none, none, none, none, none, none, none, none]) ?_
                simp only [List.take, List.drop]
                refine kAll_p (fun K hK => ?_)
                go_simp
                generalize hZ : (Act.mk _ _) = Z
                refine hK Z ?_
                subst hZ
                clear hK K
                refine kAll_dn _ (fun W hW hF => kStep_of fun K Q hK => ?_) (fun K hK => ?_)
                · have c0 := (BX.out.drew.keep hW (fun h => h)).cell 0
                  have c1 := (BX.out.drew.keep hW (fun h => h)).cell 1
                  have c2 := (BX.out.drew.keep hW (fun h => h)).cell 2
                  have c3 := (BX.out.drew.keep hW (fun h => h)).cell 3
                  simp at c0 c1 c2 c3
                  go_simp
                  exact hK _ _ (Keep.refl _ _) rfl
                go_simp
                generalize hZ : (Act.mk _ _) = Z
                refine hK Z ?_
                subst hZ
                clear hK K
                refine kAll_dn _ (fun W hW hF => kStep_of fun K Q hK => ?_) (fun K hK => ?_)
                · go_simp
                  refine (may_any (a, i) W).mono ?_
                  rintro e w' ⟨rfl, hk⟩
                  rw [HM.out]
                  exact hK _ _ hk rfl
                go_simp
                generalize hZ : (Act.mk _ _) = Z
                refine hK Z ?_
                subst hZ
                clear hK K
                refine kAll_p (fun K hK => ?_)
                go_simp
                generalize hZ : (Act.mk _ _) = Z
                refine hK Z ?_
                subst hZ
                clear hK K
                refine kAll_p (fun K hK => ?_)
                go_simp
                generalize hZ : (Act.mk _ _) = Z
                refine hK Z ?_
                subst hZ
                clear hK K
                refine kAll_pw (by kernel_rfl) (fun K hK => ?_)
                go_simp
                generalize hZ : (Act.mk _ _) = Z
                refine hK Z ?_
                subst hZ
                clear hK K
                refine kAll_dn _ (fun W hW hF => kStep_w (by kernel_rfl) fun K Q hK => ?_) (fun K hK => ?_)
                · have c0 := (BX.out.drew.keep hW (fun h => h)).cell 0
                  have c1 := (BX.out.drew.keep hW (fun h => h)).cell 1
                  have c2 := (BX.out.drew.keep hW (fun h => h)).cell 2
                  have c3 := (BX.out.drew.keep hW (fun h => h)).cell 3
                  simp at c0 c1 c2 c3
                  go_simp
                  exact hK _ _ (Keep.refl _ _) rfl
                go_simp
                generalize hZ : (Act.mk _ _) = Z
                refine hK Z ?_
                subst hZ
                clear hK K
                refine kAll_pw (by kernel_rfl) (fun K hK => ?_)
                go_simp
                generalize hZ : (Act.mk _ _) = Z
                refine hK Z ?_
                subst hZ
                clear hK K
                refine kAll_p (fun K hK => ?_)
                go_simp
                generalize hZ : (Act.mk _ _) = Z
                refine hK Z ?_
                subst hZ
                clear hK K
                refine kAll_p (fun K hK => ?_)
                go_simp
                generalize hZ : (Act.mk _ _) = Z
                refine hK Z ?_
                subst hZ
                clear hK K
                refine kAll_pw (by kernel_rfl) (fun K hK => ?_)
                go_simp
                generalize hZ : (Act.mk _ _) = Z
                refine hK Z ?_
                subst hZ
                clear hK K
                refine kAll_dn _ (fun W hW hF => kStep_w (by kernel_rfl) fun K Q hK => ?_) (fun K hK => ?_)
                · have c0 := (BX.out.drew.keep hW (fun h => h)).cell 0
                  have c1 := (BX.out.drew.keep hW (fun h => h)).cell 1
                  have c2 := (BX.out.drew.keep hW (fun h => h)).cell 2
                  have c3 := (BX.out.drew.keep hW (fun h => h)).cell 3
                  simp at c0 c1 c2 c3
                  go_simp
                  exact hK _ _ (Keep.refl _ _) rfl
                go_simp
                generalize hZ : (Act.mk _ _) = Z
                refine hK Z ?_
                subst hZ
                clear hK K
                refine kAll_pw (by kernel_rfl) (fun K hK => ?_)
                go_simp
                generalize hZ : (Act.mk _ _) = Z
                refine hK Z ?_
                subst hZ
                clear hK K
                refine kAll_p (fun K hK => ?_)
                go_simp
                generalize hZ : (Act.mk _ _) = Z
                refine hK Z ?_
                subst hZ
                clear hK K
                refine kAll_p (fun K hK => ?_)
                go_simp
                generalize hZ : (Act.mk _ _) = Z
                refine hK Z ?_
                subst hZ
                clear hK K
                refine kAll_dn _ (fun W hW hF => kStep_w (by kernel_rfl) fun K Q hK => ?_) (fun K hK => ?_)
                · have c0 := (BX.out.drew.keep hW (fun h => h)).cell 0
                  have c1 := (BX.out.drew.keep hW (fun h => h)).cell 1
                  have c2 := (BX.out.drew.keep hW (fun h => h)).cell 2
                  have c3 := (BX.out.drew.keep hW (fun h => h)).cell 3
                  simp at c0 c1 c2 c3
                  go_simp
                  exact hK _ _ (Keep.refl _ _) rfl
                go_simp
                generalize hZ : (Act.mk _ _) = Z
                refine hK Z ?_
                subst hZ
                clear hK K
                refine kAll_dn _ (fun W hW hF => kStep_w (by kernel_rfl) fun K Q hK => ?_) (fun K hK => ?_)
                · go_simp
                  refine (num_any ⟨a, i, s, m⟩ W).mono ?_
                  rintro e w' ⟨rfl, hk⟩
                  rw [HN.out]
                  exact hK _ _ hk rfl
                go_simp
                generalize hZ : (Act.mk _ _) = Z
                refine hK Z ?_
                subst hZ
                clear hK K
                refine kAll_pw (by kernel_rfl) (fun K hK => ?_)
                go_simp
                generalize hZ : (Act.mk _ _) = Z
                refine hK Z ?_
                subst hZ
                clear hK K
                refine kAll_p (fun K hK => ?_)
                go_simp
                generalize hZ : (Act.mk _ _) = Z
                refine hK Z ?_
                subst hZ
                clear hK K
                refine kAll_p (fun K hK => ?_)
                go_simp
                generalize hZ : (Act.mk _ _) = Z
                refine hK Z ?_
                subst hZ
                clear hK K
                refine kAll_pw (by kernel_rfl) (fun K hK => ?_)
                go_simp
                generalize hZ : (Act.mk _ _) = Z
                refine hK Z ?_
                subst hZ
                clear hK K
                refine kAll_pw (by kernel_rfl) (fun K hK => ?_)
                go_simp
                generalize hZ : (Act.mk _ _) = Z
                refine hK Z ?_
                subst hZ
                clear hK K
                refine kAll_dn _ (fun W hW hF => kStep_w (by kernel_rfl) fun K Q hK => ?_) (fun K hK => ?_)
                · have c0 := (BX.out.drew.keep hW (fun h => h)).cell 0
                  have c1 := (BX.out.drew.keep hW (fun h => h)).cell 1
                  have c2 := (BX.out.drew.keep hW (fun h => h)).cell 2
                  have c3 := (BX.out.drew.keep hW (fun h => h)).cell 3
                  simp at c0 c1 c2 c3
                  go_simp
                  exact hK _ _ (Keep.refl _ _) rfl
                go_simp
                generalize hZ : (Act.mk _ _) = Z
                refine hK Z ?_
                subst hZ
                clear hK K
                refine kAll_dn _ (fun W hW hF => kStep_w (by kernel_rfl) fun K Q hK => ?_) (fun K hK => ?_)
                · go_simp
                  refine (gone_any A' n' c' f (a, i) W (HF.out W (keepD KX.out hW)) hn').mono ?_
                  rintro e w' ⟨rfl, hk⟩
                  rw [HG.out]
                  exact hK _ _ hk rfl
                go_simp
                generalize hZ : (Act.mk _ _) = Z
                refine hK Z ?_
                subst hZ
                clear hK K
                refine kAll_p (fun K hK => ?_)
                go_simp
                generalize hZ : (Act.mk _ _) = Z
                refine hK Z ?_
                subst hZ
                clear hK K
                refine kAll_p (fun K hK => ?_)
                go_simp
                generalize hZ : (Act.mk _ _) = Z
                refine hK Z ?_
                subst hZ
                clear hK K
                refine kAll_skip (by kernel_rfl) ?_
                refine kAll_skip (by kernel_rfl) ?_
                refine kAll_skip (by kernel_rfl) ?_
                refine kAll_skip (by kernel_rfl) ?_
                refine kAll_skip (by kernel_rfl) ?_
                refine kAll_skip (by kernel_rfl) ?_
                refine kAll_skip (by kernel_rfl) ?_
                refine kAll_skip (by kernel_rfl) ?_
                refine kAll_skip (by kernel_rfl) ?_
                refine kAll_skip (by kernel_rfl) ?_
                refine kAll_skip (by kernel_rfl) ?_
                refine kAll_skip (by kernel_rfl) ?_
                refine kAll_skip (by kernel_rfl) ?_
                refine kAll_skip (by kernel_rfl) ?_
                refine kAll_skip (by kernel_rfl) ?_
                refine kAll_p (fun K hK => ?_)
                go_simp
                generalize hZ : (Act.mk _ _) = Z
                refine hK Z ?_
                subst hZ
                clear hK K
                refine kAll_nil (fun W hW hF => ?_)
                clear hF
                have HW := Lib.hid (keepD KX.out hW)
                clear hW
                go_wp2
                go_ret
                exact ⟨ret_bool HB.out.symm, keep0_trans _ _ _ HK.out HW.out⟩
    · obtain rfl : n = k := by omega
      have HA1 := HA
      clear HA
      go_wp2_with fail
      go_loopw [61] (fun i wr => ∃ k : Nat, k ≤ n' ∧ i = .int .i64 (k : Int) ∧ Hid (∀ j, j < k → okFl f j = true) ∧ Hid (Keep (fun _ => False) w wr)) (fun i _ => n' - (intOf i).toNat)
      case atStart => exact ⟨0, Nat.zero_le _, rfl, Lib.hid (by intro j hj; omega), HK⟩
      case round =>
        obtain ⟨k, hk, rfl, HA, HK⟩ := hrel
        by_cases hlt : k < n'
        · obtain ⟨g, off, rfl, q0, q1⟩ := (H'.out.keep0 HK.out).at_ hlt
          have hkl : k < f.length := by rw [HLf.out]; exact hlt
          have HFL := Lib.hid (fun h => mayT_f (m := l) hkl h)
          have HO := Lib.hid (show okFl f k = (mayID (f.getD k (0, 0)) && (decide (k = 0) || decide ((f.getD (k - 1) (0, 0)).1 < (f.getD k (0, 0)).1))) from rfl)
          have HPR : Hid (0 < k → ∀ W, Keep (fun _ => False) wr W → W.cell? ⟨g, off + (k - 1) * 2, none⟩ = some (.int .i64 (f.getD (k - 1) (0, 0)).1)) := Lib.hid fun h0 W hW => by
            obtain ⟨g', off', hA, p0, _⟩ := (H'.out.keep0 (keep0_trans _ _ _ HK.out hW)).at_ (i := k - 1) (by omega)
            injection hA with hA; injection hA with r1 r2; subst r1 r2; exact p0
          generalize (f.getD (k - 1) (0, 0)).1 = pa at *
          generalize f.getD k (0, 0) = x at *
          obtain ⟨a, i⟩ := x
          simp only at q0 q1 HO
          have KX := Lib.hid ((Keep.refl (fun _ => False) wr).alloc (.cells #[.int .i64 a, .int .i64 i] 24))
          have BX := Lib.hid (Blk.new wr 24 #[.int .i64 a, .int .i64 i])
          clear hkl
          cases hM : mayID (a, i)
          · have HM := Lib.hid hM
            have HB := Lib.hid (HFL.out (by rw [HO.out, hM]; rfl))
            clear hM
            go_wp2_with fail
            refine wp_region_krip (Keep (fun _ => False)) (Keep.refl _) keep0_trans 18 (by kernel_rfl) (by kernel_rfl) (Ts := [some (.inl (idV (a, i))), some (.inl (.bool false)), none, none, none, none, none, none, none, none, none, none, none, none, none, none, none, none]) ?_
            simp only [List.take, List.drop]
            refine kAll_dn _ (fun W hW hF => kStep_of fun K Q hK => ?_) (fun K hK => ?_)
            · have c0 := (BX.out.drew.keep hW (fun h => h)).cell 0
              have c1 := (BX.out.drew.keep hW (fun h => h)).cell 1
              simp at c0 c1
              go_simp
              exact hK _ _ (Keep.refl _ _) rfl
            go_simp
            generalize hZ : (Act.mk _ _) = Z
            refine hK Z ?_
            subst hZ
            clear hK K
            refine kAll_dn _ (fun W hW hF => kStep_of fun K Q hK => ?_) (fun K hK => ?_)
            · go_simp
              refine (may_any (a, i) W).mono ?_
              rintro e w' ⟨rfl, hk⟩
              rw [HM.out]
              exact hK _ _ hk rfl
            go_simp
            generalize hZ : (Act.mk _ _) = Z
            refine hK Z ?_
            subst hZ
            clear hK K
            refine kAll_p (fun K hK => ?_)
            go_simp
            generalize hZ : (Act.mk _ _) = Z
            refine hK Z ?_
            subst hZ
            clear hK K
            refine kAll_p (fun K hK => ?_)
            go_simp
            generalize hZ : (Act.mk _ _) = Z
            refine hK Z ?_
            subst hZ
            clear hK K
            refine kAll_skip (by kernel_rfl) ?_
            refine kAll_skip (by kernel_rfl) ?_
            refine kAll_skip (by kernel_rfl) ?_
            refine kAll_skip (by kernel_rfl) ?_
            refine kAll_skip (by kernel_rfl) ?_
            refine kAll_skip (by kernel_rfl) ?_
            refine kAll_skip (by kernel_rfl) ?_
            refine kAll_skip (by kernel_rfl) ?_
            refine kAll_skip (by kernel_rfl) ?_
            refine kAll_skip (by kernel_rfl) ?_
            refine kAll_skip (by kernel_rfl) ?_
            refine kAll_skip (by kernel_rfl) ?_
            refine kAll_skip (by kernel_rfl) ?_
            refine kAll_p (fun K hK => ?_)
            go_simp
            generalize hZ : (Act.mk _ _) = Z
            refine hK Z ?_
            subst hZ
            clear hK K
            refine kAll_nil (fun W hW hF => ?_)
            clear hF
            have HW := Lib.hid (keepD KX.out hW)
            clear hW
            go_wp2
            go_ret
            exact ⟨ret_bool HB.out.symm, keep0_trans _ _ _ HK.out HW.out⟩
          · have HM := Lib.hid hM
            rw [hM] at HO
            clear hM
            by_cases h0 : k = 0
            · have HE := Lib.hid (show okFl f k = true by rw [HO.out, decide_eq_true h0]; rfl)
              subst h0
              simp only [Nat.zero_mul, Nat.add_zero] at q0 q1
              go_wp2_with fail
              refine wp_region_krip (Keep (fun _ => False)) (Keep.refl _) keep0_trans 18 (by kernel_rfl) (by kernel_rfl) (Ts := [some (.inl (idV (a, i))), some (.inl (.bool true)), none, none, none, none, none, none, none, none, none, none, none, none, none, none, none, none]) ?_
              simp only [List.take, List.drop]
              refine kAll_dn _ (fun W hW hF => kStep_of fun K Q hK => ?_) (fun K hK => ?_)
              · have c0 := (BX.out.drew.keep hW (fun h => h)).cell 0
                have c1 := (BX.out.drew.keep hW (fun h => h)).cell 1
                simp at c0 c1
                go_simp
                exact hK _ _ (Keep.refl _ _) rfl
              go_simp
              generalize hZ : (Act.mk _ _) = Z
              refine hK Z ?_
              subst hZ
              clear hK K
              refine kAll_dn _ (fun W hW hF => kStep_of fun K Q hK => ?_) (fun K hK => ?_)
              · go_simp
                refine (may_any (a, i) W).mono ?_
                rintro e w' ⟨rfl, hk⟩
                rw [HM.out]
                exact hK _ _ hk rfl
              go_simp
              generalize hZ : (Act.mk _ _) = Z
              refine hK Z ?_
              subst hZ
              clear hK K
              refine kAll_p (fun K hK => ?_)
              go_simp
              generalize hZ : (Act.mk _ _) = Z
              refine hK Z ?_
              subst hZ
              clear hK K
              refine kAll_p (fun K hK => ?_)
              go_simp
              generalize hZ : (Act.mk _ _) = Z
              refine hK Z ?_
              subst hZ
              clear hK K
              refine kAll_pw (by kernel_rfl) (fun K hK => ?_)
              go_simp
              generalize hZ : (Act.mk _ _) = Z
              refine hK Z ?_
              subst hZ
              clear hK K
              refine kAll_pw (by kernel_rfl) (fun K hK => ?_)
              go_simp
              generalize hZ : (Act.mk _ _) = Z
              refine hK Z ?_
              subst hZ
              clear hK K
              refine kAll_pw (by kernel_rfl) (fun K hK => ?_)
              go_simp
              generalize hZ : (Act.mk _ _) = Z
              refine hK Z ?_
              subst hZ
              clear hK K
              refine kAll_skip (by kernel_rfl) ?_
              refine kAll_skip (by kernel_rfl) ?_
              refine kAll_skip (by kernel_rfl) ?_
              refine kAll_skip (by kernel_rfl) ?_
              refine kAll_skip (by kernel_rfl) ?_
              refine kAll_skip (by kernel_rfl) ?_
              refine kAll_skip (by kernel_rfl) ?_
              refine kAll_skip (by kernel_rfl) ?_
              refine kAll_skip (by kernel_rfl) ?_
              refine kAll_pw (by kernel_rfl) (fun K hK => ?_)
              go_simp
              generalize hZ : (Act.mk _ _) = Z
              refine hK Z ?_
              subst hZ
              clear hK K
              refine kAll_p (fun K hK => ?_)
              go_simp
              generalize hZ : (Act.mk _ _) = Z
              refine hK Z ?_
              subst hZ
              clear hK K
              refine kAll_nil (fun W hW hF => ?_)
              clear hF
              have HW := Lib.hid (keepD KX.out hW)
              clear hW
              go_wp2
              go_roundw
              case rel => exact ⟨1, by omega, by go_num, Lib.hid (all_snoc HA.out HE.out), Lib.hid (keep0_trans _ _ _ HK.out HW.out)⟩
              case measure => simp [intOf]; omega
            · have hk0 : 0 < k := by omega
              have HP := Lib.hid (HPR.out hk0)
              have hkI : (0 : Int) < (k : Int) := by omega
              have hk1 : (1 : Int) ≤ (k : Int) := by omega
              have hkJ : (0 : Int) ≤ (k : Int) - 1 := by omega
              have hkK : (k : Int) - 1 < (n' : Int) := by omega
              have hkT : ((k : Int) - 1).toNat = k - 1 := by omega
              have hkW : IntKind.i64.wrap ((k : Int) - 1) = (k : Int) - 1 := IntWalk.i64_in _ (by omega)
              have hkD : decide ((0 : Int) < (k : Int)) = true := decide_eq_true hkI
              by_cases hp : a ≤ pa
              · have hpd : decide (a ≤ pa) = true := decide_eq_true hp
                have HB := Lib.hid (HFL.out (by rw [HO.out, decide_eq_false h0, decide_eq_false (by omega)]; rfl))
                clear h0
                go_wp2_with fail
                refine wp_region_krip (Keep (fun _ => False)) (Keep.refl _) keep0_trans 18 (by kernel_rfl) (by kernel_rfl) (Ts := [some (.inl (idV (a, i))), some (.inl (.bool true)), none, none, none, none, none, none, some (.inl (.int .i64 a)), none, none, none, none, none, some (.inl (.int .i64 pa)), none, none, none]) ?_
                simp only [List.take, List.drop]
                refine kAll_dn _ (fun W hW hF => kStep_of fun K Q hK => ?_) (fun K hK => ?_)
                · have c0 := (BX.out.drew.keep hW (fun h => h)).cell 0
                  have c1 := (BX.out.drew.keep hW (fun h => h)).cell 1
                  simp at c0 c1
                  go_simp
                  exact hK _ _ (Keep.refl _ _) rfl
                go_simp
                generalize hZ : (Act.mk _ _) = Z
                refine hK Z ?_
                subst hZ
                clear hK K
                refine kAll_dn _ (fun W hW hF => kStep_of fun K Q hK => ?_) (fun K hK => ?_)
                · go_simp
                  refine (may_any (a, i) W).mono ?_
                  rintro e w' ⟨rfl, hk⟩
                  rw [HM.out]
                  exact hK _ _ hk rfl
                go_simp
                generalize hZ : (Act.mk _ _) = Z
                refine hK Z ?_
                subst hZ
                clear hK K
                refine kAll_p (fun K hK => ?_)
                go_simp
                generalize hZ : (Act.mk _ _) = Z
                refine hK Z ?_
                subst hZ
                clear hK K
                refine kAll_p (fun K hK => ?_)
                go_simp
                generalize hZ : (Act.mk _ _) = Z
                refine hK Z ?_
                subst hZ
                clear hK K
                refine kAll_pw (by kernel_rfl) (fun K hK => ?_)
                go_simp
                generalize hZ : (Act.mk _ _) = Z
                refine hK Z ?_
                subst hZ
                clear hK K
                refine kAll_pw (by kernel_rfl) (fun K hK => ?_)
                go_simp
                generalize hZ : (Act.mk _ _) = Z
                refine hK Z ?_
                subst hZ
                clear hK K
                refine kAll_pw (by kernel_rfl) (fun K hK => ?_)
                go_simp
                generalize hZ : (Act.mk _ _) = Z
                refine hK Z ?_
                subst hZ
                clear hK K
                refine kAll_pw (by kernel_rfl) (fun K hK => ?_)
                go_simp
                generalize hZ : (Act.mk _ _) = Z
                refine hK Z ?_
                subst hZ
                clear hK K
                refine kAll_dn _ (fun W hW hF => kStep_w (by kernel_rfl) fun K Q hK => ?_) (fun K hK => ?_)
                · have c0 := (BX.out.drew.keep hW (fun h => h)).cell 0
                  have c1 := (BX.out.drew.keep hW (fun h => h)).cell 1
                  simp at c0 c1
                  go_simp
                  exact hK _ _ (Keep.refl _ _) rfl
                go_simp
                generalize hZ : (Act.mk _ _) = Z
                refine hK Z ?_
                subst hZ
                clear hK K
                refine kAll_pw (by kernel_rfl) (fun K hK => ?_)
                go_simp
                generalize hZ : (Act.mk _ _) = Z
                refine hK Z ?_
                subst hZ
                clear hK K
                refine kAll_pw (by kernel_rfl) (fun K hK => ?_)
                go_simp
                generalize hZ : (Act.mk _ _) = Z
                refine hK Z ?_
                subst hZ
                clear hK K
                refine kAll_pw (by kernel_rfl) (fun K hK => ?_)
                go_simp
                generalize hZ : (Act.mk _ _) = Z
                refine hK Z ?_
                subst hZ
                clear hK K
                refine kAll_pw (by kernel_rfl) (fun K hK => ?_)
                go_simp
                generalize hZ : (Act.mk _ _) = Z
                refine hK Z ?_
                subst hZ
                clear hK K
                refine kAll_pw (by kernel_rfl) (fun K hK => ?_)
                go_simp
                generalize hZ : (Act.mk _ _) = Z
                refine hK Z ?_
                subst hZ
                clear hK K
                refine kAll_dn _ (fun W hW hF => kStep_w (by kernel_rfl) fun K Q hK => ?_) (fun K hK => ?_)
                · have hp := HP.out W (keepD KX.out hW)
                  go_simp
                  exact hK _ _ (Keep.refl _ _) rfl
                go_simp
                generalize hZ : (Act.mk _ _) = Z
                refine hK Z ?_
                subst hZ
                clear hK K
                refine kAll_pw (by kernel_rfl) (fun K hK => ?_)
                go_simp
                generalize hZ : (Act.mk _ _) = Z
                refine hK Z ?_
                subst hZ
                clear hK K
                refine kAll_pw (by kernel_rfl) (fun K hK => ?_)
                go_simp
                generalize hZ : (Act.mk _ _) = Z
                refine hK Z ?_
                subst hZ
                clear hK K
                refine kAll_p (fun K hK => ?_)
                go_simp
                generalize hZ : (Act.mk _ _) = Z
                refine hK Z ?_
                subst hZ
                clear hK K
                refine kAll_nil (fun W hW hF => ?_)
                clear hF
                have HW := Lib.hid (keepD KX.out hW)
                clear hW
                go_wp2
                go_ret
                exact ⟨ret_bool HB.out.symm, keep0_trans _ _ _ HK.out HW.out⟩
              · have hpd : decide (a ≤ pa) = false := decide_eq_false hp
                have HE := Lib.hid (show okFl f k = true by rw [HO.out, decide_eq_true (show pa < a by omega)]; simp)
                clear h0
                go_wp2_with fail
                refine wp_region_krip (Keep (fun _ => False)) (Keep.refl _) keep0_trans 18 (by kernel_rfl) (by kernel_rfl) (Ts := [some (.inl (idV (a, i))), some (.inl (.bool true)), none, none, none, none, none, none, some (.inl (.int .i64 a)), none, none, none, none, none, some (.inl (.int .i64 pa)), none, none, none]) ?_
                simp only [List.take, List.drop]
                refine kAll_dn _ (fun W hW hF => kStep_of fun K Q hK => ?_) (fun K hK => ?_)
                · have c0 := (BX.out.drew.keep hW (fun h => h)).cell 0
                  have c1 := (BX.out.drew.keep hW (fun h => h)).cell 1
                  simp at c0 c1
                  go_simp
                  exact hK _ _ (Keep.refl _ _) rfl
                go_simp
                generalize hZ : (Act.mk _ _) = Z
                refine hK Z ?_
                subst hZ
                clear hK K
                refine kAll_dn _ (fun W hW hF => kStep_of fun K Q hK => ?_) (fun K hK => ?_)
                · go_simp
                  refine (may_any (a, i) W).mono ?_
                  rintro e w' ⟨rfl, hk⟩
                  rw [HM.out]
                  exact hK _ _ hk rfl
                go_simp
                generalize hZ : (Act.mk _ _) = Z
                refine hK Z ?_
                subst hZ
                clear hK K
                refine kAll_p (fun K hK => ?_)
                go_simp
                generalize hZ : (Act.mk _ _) = Z
                refine hK Z ?_
                subst hZ
                clear hK K
                refine kAll_p (fun K hK => ?_)
                go_simp
                generalize hZ : (Act.mk _ _) = Z
                refine hK Z ?_
                subst hZ
                clear hK K
                refine kAll_pw (by kernel_rfl) (fun K hK => ?_)
                go_simp
                generalize hZ : (Act.mk _ _) = Z
                refine hK Z ?_
                subst hZ
                clear hK K
                refine kAll_pw (by kernel_rfl) (fun K hK => ?_)
                go_simp
                generalize hZ : (Act.mk _ _) = Z
                refine hK Z ?_
                subst hZ
                clear hK K
                refine kAll_pw (by kernel_rfl) (fun K hK => ?_)
                go_simp
                generalize hZ : (Act.mk _ _) = Z
                refine hK Z ?_
                subst hZ
                clear hK K
                refine kAll_pw (by kernel_rfl) (fun K hK => ?_)
                go_simp
                generalize hZ : (Act.mk _ _) = Z
                refine hK Z ?_
                subst hZ
                clear hK K
                refine kAll_dn _ (fun W hW hF => kStep_w (by kernel_rfl) fun K Q hK => ?_) (fun K hK => ?_)
                · have c0 := (BX.out.drew.keep hW (fun h => h)).cell 0
                  have c1 := (BX.out.drew.keep hW (fun h => h)).cell 1
                  simp at c0 c1
                  go_simp
                  exact hK _ _ (Keep.refl _ _) rfl
                go_simp
                generalize hZ : (Act.mk _ _) = Z
                refine hK Z ?_
                subst hZ
                clear hK K
                refine kAll_pw (by kernel_rfl) (fun K hK => ?_)
                go_simp
                generalize hZ : (Act.mk _ _) = Z
                refine hK Z ?_
                subst hZ
                clear hK K
                refine kAll_pw (by kernel_rfl) (fun K hK => ?_)
                go_simp
                generalize hZ : (Act.mk _ _) = Z
                refine hK Z ?_
                subst hZ
                clear hK K
                refine kAll_pw (by kernel_rfl) (fun K hK => ?_)
                go_simp
                generalize hZ : (Act.mk _ _) = Z
                refine hK Z ?_
                subst hZ
                clear hK K
                refine kAll_pw (by kernel_rfl) (fun K hK => ?_)
                go_simp
                generalize hZ : (Act.mk _ _) = Z
                refine hK Z ?_
                subst hZ
                clear hK K
                refine kAll_pw (by kernel_rfl) (fun K hK => ?_)
                go_simp
                generalize hZ : (Act.mk _ _) = Z
                refine hK Z ?_
                subst hZ
                clear hK K
                refine kAll_dn _ (fun W hW hF => kStep_w (by kernel_rfl) fun K Q hK => ?_) (fun K hK => ?_)
                · have hp := HP.out W (keepD KX.out hW)
                  go_simp
                  exact hK _ _ (Keep.refl _ _) rfl
                go_simp
                generalize hZ : (Act.mk _ _) = Z
                refine hK Z ?_
                subst hZ
                clear hK K
                refine kAll_pw (by kernel_rfl) (fun K hK => ?_)
                go_simp
                generalize hZ : (Act.mk _ _) = Z
                refine hK Z ?_
                subst hZ
                clear hK K
                refine kAll_pw (by kernel_rfl) (fun K hK => ?_)
                go_simp
                generalize hZ : (Act.mk _ _) = Z
                refine hK Z ?_
                subst hZ
                clear hK K
                refine kAll_p (fun K hK => ?_)
                go_simp
                generalize hZ : (Act.mk _ _) = Z
                refine hK Z ?_
                subst hZ
                clear hK K
                refine kAll_nil (fun W hW hF => ?_)
                clear hF
                have HW := Lib.hid (keepD KX.out hW)
                clear hW
                go_wp2
                go_roundw
                case rel => exact ⟨k + 1, by omega, by go_num, Lib.hid (all_snoc HA.out HE.out), Lib.hid (keep0_trans _ _ _ HK.out HW.out)⟩
                case measure => simp [intOf]; omega
        · obtain rfl : n' = k := by omega
          have HB := Lib.hid (mayT_ok (m := l) (f := f) (fun j hj => HA1.out j (by rw [← HLm.out]; exact hj)) (fun j hj => HA.out j (by rw [← HLf.out]; exact hj)))
          go_wp2
          go_ret
          exact ⟨ret_bool HB.out.symm, HK.out⟩
end Go.Proofs.YtgoldgamjogadaaGreat
