/-
  clock.May. Written by gen_b.py.
-/
import Derived.Test.YtljmpjkfdkcjnaaCloA
import Derived.Test.YtljmpjkfdkcjnaaCmp
import Derived.Test.YtljmpjkfdkcjnaaKord
namespace Go.Proofs.Ytljmpjkfdkcjnaa
open Go.RowKit
attribute [local irreducible] kAll
attribute [local go_sem] kQuiet kQuietUpon

def okT (l : List Tick) (i : Nat) : Bool :=
  mayID (l.getD i tick0).1 && decide (1 ≤ (l.getD i tick0).2 ∧ (l.getD i tick0).2 ≤ 1099511627776) && (decide (i = 0) || ltID (l.getD (i - 1) tick0).1 (l.getD i tick0).1)
def mayT (l : List Tick) : Bool := (List.range l.length).all (okT l) && decide (l.length ≤ 64)
theorem allT_snoc {p : Nat → Bool} {k : Nat} (h : ∀ j, j < k → p j = true) (hk : p k = true) : ∀ j, j < k + 1 → p j = true := fun j hj => by
  by_cases e : j = k
  · subst e; exact hk
  · exact h j (by omega)
theorem mayT_no {l : List Tick} {k : Nat} (hk : k < l.length) (h : okT l k = false) : mayT l = false := by
  have : (List.range l.length).all (okT l) = false := by
    rw [Bool.eq_false_iff]; intro h2
    have := List.all_eq_true.1 h2 k (List.mem_range.2 hk)
    rw [h] at this; cases this
  simp [mayT, this]
theorem mayT_end {l : List Tick} {n : Nat} (hl : l.length = n) (h : ∀ j, j < n → okT l j = true) : mayT l = decide ((n : Int) ≤ 64) := by
  have : (List.range l.length).all (okT l) = true := List.all_eq_true.2 fun j hj => h j (by have := List.mem_range.1 hj; omega)
  unfold mayT
  rw [this, Bool.true_and, hl]
  rw [Bool.eq_iff_iff]; simp; omega
theorem ris_of_next : ∀ {l : List ID}, (∀ (i : Nat) (h : i + 1 < l.length), ltID l[i] l[i + 1] = true) → Ris l
  | [], _ => ris_nil
  | [x], _ => ris_one x
  | x :: y :: l, h => by
    have ih : Ris (y :: l) := ris_of_next (fun i hi => by have := h (i + 1) (by simp at hi ⊢; omega); simpa using this)
    have h0 : ltID x y = true := h 0 (by simp)
    unfold Ris at ih ⊢
    rw [List.pairwise_cons]
    refine ⟨fun z hz => ?_, ih⟩
    rcases List.mem_cons.1 hz with rfl | hz
    · exact h0
    · exact lt_trans h0 ((List.pairwise_cons.1 ih).1 z hz)
theorem mayT_iff (l : List Tick) : mayT l = true ↔ mayC l := by
  unfold mayT mayC
  rw [Bool.and_eq_true, List.all_eq_true, decide_eq_true_eq]
  have e : ∀ i (h : i < l.length), l.getD i tick0 = l[i] := fun i h => by simp [List.getD, h]
  constructor
  · rintro ⟨h, hl⟩
    have h' : ∀ i, i < l.length → okT l i = true := fun i hi => h i (List.mem_range.2 hi)
    unfold okT at h'
    simp only [Bool.and_eq_true, Bool.or_eq_true, decide_eq_true_eq] at h'
    refine ⟨fun t ht => ?_, ?_, hl⟩
    · obtain ⟨i, hi, rfl⟩ := List.getElem_of_mem ht
      have := h' i hi
      rw [e i hi] at this
      exact ⟨this.1.1, this.1.2.1, this.1.2.2⟩
    · refine ris_of_next (fun i hi => ?_)
      rw [List.length_map] at hi
      have := (h' (i + 1) hi).2
      rw [e (i + 1) hi, show i + 1 - 1 = i from rfl, e i (by omega)] at this
      rcases this with q | q
      · omega
      · simpa using q
  · rintro ⟨h1, h2, h3⟩
    refine ⟨fun i hi => ?_, h3⟩
    rw [List.mem_range] at hi
    have ha := h1 l[i] (List.getElem_mem hi)
    unfold okT
    rw [e i hi]
    simp only [Bool.and_eq_true, Bool.or_eq_true, decide_eq_true_eq]
    refine ⟨⟨ha.1, ha.2⟩, ?_⟩
    by_cases h0 : i = 0
    · exact .inl h0
    · right
      rw [e (i - 1) (by omega)]
      unfold Ris at h2
      have := List.pairwise_iff_getElem.1 h2 (i - 1) i (by simp; omega) (by simp; omega) (by omega)
      simpa using this
set_option maxRecDepth 100000 in
set_option maxHeartbeats 4000000 in
theorem mayC_any (A : Option Addr) (n c : Nat) (l : List Tick) (w : World) (h : RdT w A n l) (hn : n ≤ 9223372036854775807) :
    Calls Try.prog 13 #[.slice A n c] w (Tell (.bool (mayT l)) w) := by
  have HL := Lib.hid h.1
  have H := Lib.hid h
  clear h
  go_enter Try.func13, Try.ntmps13
  go_wp2_with fail
  go_loopw [7] (fun i wr => ∃ k : Nat, k ≤ n ∧ i = .int .i64 (k : Int) ∧ Hid (∀ j, j < k → okT l j = true) ∧ Hid (Keep (fun _ => False) w wr)) (fun i _ => n - (intOf i).toNat)
  case atStart => exact ⟨0, Nat.zero_le _, rfl, Lib.hid (by intro j hj; omega), Lib.hid (Keep.refl _ _)⟩
  case round =>
    obtain ⟨k, hk, rfl, HA, HK⟩ := hrel
    by_cases hlt : k < n
    · obtain ⟨g, off, rfl, q0, q1, q2⟩ := (H.out.keep0 HK.out).at_ hlt
      have HFL := Lib.hid (fun h => mayT_no (l := l) (k := k) (by rw [HL.out]; exact hlt) h)
      have HO := Lib.hid (show okT l k = (mayID (l.getD k tick0).1 && decide (1 ≤ (l.getD k tick0).2 ∧ (l.getD k tick0).2 ≤ 1099511627776) && (decide (k = 0) || ltID (l.getD (k - 1) tick0).1 (l.getD k tick0).1)) from rfl)
      have HPR : Hid (0 < k → ∀ W, Keep (fun _ => False) wr W → W.cell? ⟨g, off + (k - 1) * 3, none⟩ = some (.int .i64 (l.getD (k - 1) tick0).1.1) ∧ W.cell? ⟨g, off + (k - 1) * 3 + 1, none⟩ = some (.int .i64 (l.getD (k - 1) tick0).1.2)) := Lib.hid fun h0 W hW => by
        obtain ⟨g', off', hA, p0, p1, _⟩ := (H.out.keep0 (keep0_trans _ _ _ HK.out hW)).at_ (i := k - 1) (by omega)
        injection hA with hA; injection hA with r1 r2; subst r1 r2; exact ⟨p0, p1⟩
      generalize (l.getD (k - 1) tick0).1 = p at *
      generalize l.getD k tick0 = x at *
      obtain ⟨⟨a, i⟩, m⟩ := x
      obtain ⟨pa, pi⟩ := p
      simp only at q0 q1 q2 HO HPR
      have KX := Lib.hid ((Keep.refl (fun _ => False) wr).alloc (.cells #[.int .i64 a, .int .i64 i, .int .i64 m] 35))
      have BX := Lib.hid (Blk.new wr 35 #[.int .i64 a, .int .i64 i, .int .i64 m])
      have hkJ0 : (0 : Int) ≤ (k : Int) := by omega
      have hkI0 : (k : Int) < (n : Int) := by omega
      have e2 : IntKind.i64.wrap (k : Int) = (k : Int) := IntWalk.i64_in _ (by omega)
      cases hM : mayID (a, i)
      · have HM := Lib.hid hM
        have HB := Lib.hid (HFL.out (by rw [HO.out, hM]; rfl))
        clear hM
        go_wp2_with fail
        refine wp_region_krip (Keep (fun _ => False)) (Keep.refl _) keep0_trans 30 (by kernel_rfl) (by kernel_rfl) (Ts := [none, some (.inl (idV (a, i))), some (.inl (.bool false)), none, none, none, none, none, none, none, none, none, none, none, none, none, none, none, none, none, none, none, none, none, none, none, none, none, none, none]) ?_
        simp only [List.take, List.drop]
        refine kAll_p (fun K hK => ?_)
        go_simp
        generalize hZ : (Act.mk _ _) = Z
        refine hK Z ?_
        subst hZ
        clear hK K
        refine kAll_dn _ (fun W hW hF => kStep_of fun K Q hK => ?_) (fun K hK => ?_)
        · have c0 := (BX.out.drew.keep hW (fun h => h)).cell 0
          have c1 := (BX.out.drew.keep hW (fun h => h)).cell 1
          have c2 := (BX.out.drew.keep hW (fun h => h)).cell 2
          simp at c0 c1 c2
          go_simp
          exact hK _ _ (Keep.refl _ _) rfl
        go_simp
        generalize hZ : (Act.mk _ _) = Z
        refine hK Z ?_
        subst hZ
        clear hK K
        refine kAll_dn _ (fun W hW hF => kStep_of fun K Q hK => ?_) (fun K hK => ?_)
        · go_simp
          refine (may_any (a, i) W).mono ?_
          rintro e w' ⟨rfl, hk⟩
          rw [HM.out]
          exact hK _ _ hk rfl
        go_simp
        generalize hZ : (Act.mk _ _) = Z
        refine hK Z ?_
        subst hZ
        clear hK K
        refine kAll_p (fun K hK => ?_)
        go_simp
        generalize hZ : (Act.mk _ _) = Z
        refine hK Z ?_
        subst hZ
        clear hK K
        refine kAll_p (fun K hK => ?_)
        go_simp
        generalize hZ : (Act.mk _ _) = Z
        refine hK Z ?_
        subst hZ
        clear hK K
        refine kAll_skip (by kernel_rfl) ?_
        refine kAll_skip (by kernel_rfl) ?_
        refine kAll_skip (by kernel_rfl) ?_
        refine kAll_p (fun K hK => ?_)
        go_simp
        generalize hZ : (Act.mk _ _) = Z
        refine hK Z ?_
        subst hZ
        clear hK K
        refine kAll_p (fun K hK => ?_)
        go_simp
        generalize hZ : (Act.mk _ _) = Z
        refine hK Z ?_
        subst hZ
        clear hK K
        refine kAll_skip (by kernel_rfl) ?_
        refine kAll_skip (by kernel_rfl) ?_
        refine kAll_skip (by kernel_rfl) ?_
        refine kAll_p (fun K hK => ?_)
        go_simp
        generalize hZ : (Act.mk _ _) = Z
        refine hK Z ?_
        subst hZ
        clear hK K
        refine kAll_p (fun K hK => ?_)
        go_simp
        generalize hZ : (Act.mk _ _) = Z
        refine hK Z ?_
        subst hZ
        clear hK K
        refine kAll_skip (by kernel_rfl) ?_
        refine kAll_skip (by kernel_rfl) ?_
        refine kAll_skip (by kernel_rfl) ?_
        refine kAll_skip (by kernel_rfl) ?_
        refine kAll_skip (by kernel_rfl) ?_
        refine kAll_skip (by kernel_rfl) ?_
        refine kAll_skip (by kernel_rfl) ?_
        refine kAll_skip (by kernel_rfl) ?_
        refine kAll_skip (by kernel_rfl) ?_
        refine kAll_skip (by kernel_rfl) ?_
        refine kAll_skip (by kernel_rfl) ?_
        refine kAll_skip (by kernel_rfl) ?_
        refine kAll_skip (by kernel_rfl) ?_
        refine kAll_skip (by kernel_rfl) ?_
        refine kAll_p (fun K hK => ?_)
        go_simp
        generalize hZ : (Act.mk _ _) = Z
        refine hK Z ?_
        subst hZ
        clear hK K
        refine kAll_nil (fun W hW hF => ?_)
        clear hF
        have HW := Lib.hid (keepD KX.out hW)
        clear hW
        go_wp2
        go_ret
        exact ⟨ret_bool HB.out.symm, keep0_trans _ _ _ HK.out HW.out⟩
      · have HM := Lib.hid hM
        by_cases h1 : m < 1
        · have hs1 : decide (m < 1) = true := decide_eq_true h1
          have HB := Lib.hid (HFL.out (by rw [HO.out, hM, decide_eq_false (by omega)]; rfl))
          clear hM
          go_wp2_with fail
          refine wp_region_krip (Keep (fun _ => False)) (Keep.refl _) keep0_trans 30 (by kernel_rfl) (by kernel_rfl) (Ts := [none, some (.inl (idV (a, i))), some (.inl (.bool true)), none, none, none, some (.inl (.int .i64 m)), none, none, none, none, none, none, none, none, none, none, none, none, none, none, none, none, none, none, none, none, none, none, none]) ?_
          simp only [List.take, List.drop]
          refine kAll_p (fun K hK => ?_)
          go_simp
          generalize hZ : (Act.mk _ _) = Z
          refine hK Z ?_
          subst hZ
          clear hK K
          refine kAll_dn _ (fun W hW hF => kStep_of fun K Q hK => ?_) (fun K hK => ?_)
          · have c0 := (BX.out.drew.keep hW (fun h => h)).cell 0
            have c1 := (BX.out.drew.keep hW (fun h => h)).cell 1
            have c2 := (BX.out.drew.keep hW (fun h => h)).cell 2
            simp at c0 c1 c2
            go_simp
            exact hK _ _ (Keep.refl _ _) rfl
          go_simp
          generalize hZ : (Act.mk _ _) = Z
          refine hK Z ?_
          subst hZ
          clear hK K
          refine kAll_dn _ (fun W hW hF => kStep_of fun K Q hK => ?_) (fun K hK => ?_)
          · go_simp
            refine (may_any (a, i) W).mono ?_
            rintro e w' ⟨rfl, hk⟩
            rw [HM.out]
            exact hK _ _ hk rfl
          go_simp
          generalize hZ : (Act.mk _ _) = Z
          refine hK Z ?_
          subst hZ
          clear hK K
          refine kAll_p (fun K hK => ?_)
          go_simp
          generalize hZ : (Act.mk _ _) = Z
          refine hK Z ?_
          subst hZ
          clear hK K
          refine kAll_p (fun K hK => ?_)
          go_simp
          generalize hZ : (Act.mk _ _) = Z
          refine hK Z ?_
          subst hZ
          clear hK K
          refine kAll_pw (by kernel_rfl) (fun K hK => ?_)
          go_simp
          generalize hZ : (Act.mk _ _) = Z
          refine hK Z ?_
          subst hZ
          clear hK K
          refine kAll_dn _ (fun W hW hF => kStep_w (by kernel_rfl) fun K Q hK => ?_) (fun K hK => ?_)
          · have c0 := (BX.out.drew.keep hW (fun h => h)).cell 0
            have c1 := (BX.out.drew.keep hW (fun h => h)).cell 1
            have c2 := (BX.out.drew.keep hW (fun h => h)).cell 2
            simp at c0 c1 c2
            go_simp
            exact hK _ _ (Keep.refl _ _) rfl
          go_simp
          generalize hZ : (Act.mk _ _) = Z
          refine hK Z ?_
          subst hZ
          clear hK K
          refine kAll_pw (by kernel_rfl) (fun K hK => ?_)
          go_simp
          generalize hZ : (Act.mk _ _) = Z
          refine hK Z ?_
          subst hZ
          clear hK K
          refine kAll_p (fun K hK => ?_)
          go_simp
          generalize hZ : (Act.mk _ _) = Z
          refine hK Z ?_
          subst hZ
          clear hK K
          refine kAll_p (fun K hK => ?_)
          go_simp
          generalize hZ : (Act.mk _ _) = Z
          refine hK Z ?_
          subst hZ
          clear hK K
          refine kAll_skip (by kernel_rfl) ?_
          refine kAll_skip (by kernel_rfl) ?_
          refine kAll_skip (by kernel_rfl) ?_
          refine kAll_p (fun K hK => ?_)
          go_simp
          generalize hZ : (Act.mk _ _) = Z
          refine hK Z ?_
          subst hZ
          clear hK K
          refine kAll_p (fun K hK => ?_)
          go_simp
          generalize hZ : (Act.mk _ _) = Z
          refine hK Z ?_
          subst hZ
          clear hK K
          refine kAll_skip (by kernel_rfl) ?_
          refine kAll_skip (by kernel_rfl) ?_
          refine kAll_skip (by kernel_rfl) ?_
          refine kAll_skip (by kernel_rfl) ?_
          refine kAll_skip (by kernel_rfl) ?_
          refine kAll_skip (by kernel_rfl) ?_
          refine kAll_skip (by kernel_rfl) ?_
          refine kAll_skip (by kernel_rfl) ?_
          refine kAll_skip (by kernel_rfl) ?_
          refine kAll_skip (by kernel_rfl) ?_
          refine kAll_skip (by kernel_rfl) ?_
          refine kAll_skip (by kernel_rfl) ?_
          refine kAll_skip (by kernel_rfl) ?_
          refine kAll_skip (by kernel_rfl) ?_
          refine kAll_p (fun K hK => ?_)
          go_simp
          generalize hZ : (Act.mk _ _) = Z
          refine hK Z ?_
          subst hZ
          clear hK K
          refine kAll_nil (fun W hW hF => ?_)
          clear hF
          have HW := Lib.hid (keepD KX.out hW)
          clear hW
          go_wp2
          go_ret
          exact ⟨ret_bool HB.out.symm, keep0_trans _ _ _ HK.out HW.out⟩
        · have hs1 : decide (m < 1) = false := decide_eq_false h1
          by_cases h6 : 1099511627776 < m
          · have hs6 : decide (1099511627776 < m) = true := decide_eq_true h6
            have HB := Lib.hid (HFL.out (by rw [HO.out, hM, decide_eq_false (by omega)]; rfl))
            clear hM
            go_wp2_with fail
            refine wp_region_krip (Keep (fun _ => False)) (Keep.refl _) keep0_trans 30 (by kernel_rfl) (by kernel_rfl) (Ts := [none, some (.inl (idV (a, i))), some (.inl (.bool true)), none, none, none, some (.inl (.int .i64 m)), none, none, none, none, some (.inl (.int .i64 m)), none, none, none, none, none, none, none, none, none, none, none, none, none, none, none, none, none, none]) ?_
            simp only [List.take, List.drop]
            refine kAll_p (fun K hK => ?_)
            go_simp
            generalize hZ : (Act.mk _ _) = Z
            refine hK Z ?_
            subst hZ
            clear hK K
            refine kAll_dn _ (fun W hW hF => kStep_of fun K Q hK => ?_) (fun K hK => ?_)
            · have c0 := (BX.out.drew.keep hW (fun h => h)).cell 0
              have c1 := (BX.out.drew.keep hW (fun h => h)).cell 1
              have c2 := (BX.out.drew.keep hW (fun h => h)).cell 2
              simp at c0 c1 c2
              go_simp
              exact hK _ _ (Keep.refl _ _) rfl
            go_simp
            generalize hZ : (Act.mk _ _) = Z
            refine hK Z ?_
            subst hZ
            clear hK K
            refine kAll_dn _ (fun W hW hF => kStep_of fun K Q hK => ?_) (fun K hK => ?_)
            · go_simp
              refine (may_any (a, i) W).mono ?_
              rintro e w' ⟨rfl, hk⟩
              rw [HM.out]
              exact hK _ _ hk rfl
            go_simp
            generalize hZ : (Act.mk _ _) = Z
            refine hK Z ?_
            subst hZ
            clear hK K
            refine kAll_p (fun K hK => ?_)
            go_simp
            generalize hZ : (Act.mk _ _) = Z
            refine hK Z ?_
            subst hZ
            clear hK K
            refine kAll_p (fun K hK => ?_)
            go_simp
            generalize hZ : (Act.mk _ _) = Z
            refine hK Z ?_
            subst hZ
            clear hK K
            refine kAll_pw (by kernel_rfl) (fun K hK => ?_)
            go_simp
            generalize hZ : (Act.mk _ _) = Z
            refine hK Z ?_
            subst hZ
            clear hK K
            refine kAll_dn _ (fun W hW hF => kStep_w (by kernel_rfl) fun K Q hK => ?_) (fun K hK => ?_)
            · have c0 := (BX.out.drew.keep hW (fun h => h)).cell 0
              have c1 := (BX.out.drew.keep hW (fun h => h)).cell 1
              have c2 := (BX.out.drew.keep hW (fun h => h)).cell 2
              simp at c0 c1 c2
              go_simp
              exact hK _ _ (Keep.refl _ _) rfl
            go_simp
            generalize hZ : (Act.mk _ _) = Z
            refine hK Z ?_
            subst hZ
            clear hK K
            refine kAll_pw (by kernel_rfl) (fun K hK => ?_)
            go_simp
            generalize hZ : (Act.mk _ _) = Z
            refine hK Z ?_
            subst hZ
            clear hK K
            refine kAll_p (fun K hK => ?_)
            go_simp
            generalize hZ : (Act.mk _ _) = Z
            refine hK Z ?_
            subst hZ
            clear hK K
            refine kAll_p (fun K hK => ?_)
            go_simp
            generalize hZ : (Act.mk _ _) = Z
            refine hK Z ?_
            subst hZ
            clear hK K
            refine kAll_pw (by kernel_rfl) (fun K hK => ?_)
            go_simp
            generalize hZ : (Act.mk _ _) = Z
            refine hK Z ?_
            subst hZ
            clear hK K
            refine kAll_dn _ (fun W hW hF => kStep_w (by kernel_rfl) fun K Q hK => ?_) (fun K hK => ?_)
            · have c0 := (BX.out.drew.keep hW (fun h => h)).cell 0
              have c1 := (BX.out.drew.keep hW (fun h => h)).cell 1
              have c2 := (BX.out.drew.keep hW (fun h => h)).cell 2
              simp at c0 c1 c2
              go_simp
              exact hK _ _ (Keep.refl _ _) rfl
            go_simp
            generalize hZ : (Act.mk _ _) = Z
            refine hK Z ?_
            subst hZ
            clear hK K
            refine kAll_pw (by kernel_rfl) (fun K hK => ?_)
            go_simp
            generalize hZ : (Act.mk _ _) = Z
            refine hK Z ?_
            subst hZ
            clear hK K
            refine kAll_p (fun K hK => ?_)
            go_simp
            generalize hZ : (Act.mk _ _) = Z
            refine hK Z ?_
            subst hZ
            clear hK K
            refine kAll_p (fun K hK => ?_)
            go_simp
            generalize hZ : (Act.mk _ _) = Z
            refine hK Z ?_
            subst hZ
            clear hK K
            refine kAll_skip (by kernel_rfl) ?_
            refine kAll_skip (by kernel_rfl) ?_
            refine kAll_skip (by kernel_rfl) ?_
            refine kAll_skip (by kernel_rfl) ?_
            refine kAll_skip (by kernel_rfl) ?_
            refine kAll_skip (by kernel_rfl) ?_
            refine kAll_skip (by kernel_rfl) ?_
            refine kAll_skip (by kernel_rfl) ?_
            refine kAll_skip (by kernel_rfl) ?_
            refine kAll_skip (by kernel_rfl) ?_
            refine kAll_skip (by kernel_rfl) ?_
            refine kAll_skip (by kernel_rfl) ?_
            refine kAll_skip (by kernel_rfl) ?_
            refine kAll_skip (by kernel_rfl) ?_
            refine kAll_p (fun K hK => ?_)
            go_simp
            generalize hZ : (Act.mk _ _) = Z
            refine hK Z ?_
            subst hZ
            clear hK K
            refine kAll_nil (fun W hW hF => ?_)
            clear hF
            have HW := Lib.hid (keepD KX.out hW)
            clear hW
            go_wp2
            go_ret
            exact ⟨ret_bool HB.out.symm, keep0_trans _ _ _ HK.out HW.out⟩
          · have hs6 : decide (1099511627776 < m) = false := decide_eq_false h6
            have hS : decide (1 ≤ m ∧ m ≤ 1099511627776) = true := decide_eq_true (by omega)
            rw [hM, hS] at HO
            clear hM hS
            by_cases h0 : k = 0
            · have HE := Lib.hid (show okT l k = true by rw [HO.out, decide_eq_true h0]; rfl)
              subst h0
              simp only [Nat.zero_mul, Nat.add_zero] at q0 q1 q2
              go_wp2_with fail
              refine wp_region_krip (Keep (fun _ => False)) (Keep.refl _) keep0_trans 30 (by kernel_rfl) (by kernel_rfl) (Ts := [none, some (.inl (idV (a, i))), some (.inl (.bool true)), none, none, none, some (.inl (.int .i64 m)), none, none, none, none, some (.inl (.int .i64 m)), none, none, none, none, none, none, none, none, none, none, none, none, none, none, none, none, none, none]) ?_
              simp only [List.take, List.drop]
              refine kAll_p (fun K hK => ?_)
              go_simp
              generalize hZ : (Act.mk _ _) = Z
              refine hK Z ?_
              subst hZ
              clear hK K
              refine kAll_dn _ (fun W hW hF => kStep_of fun K Q hK => ?_) (fun K hK => ?_)
              · have c0 := (BX.out.drew.keep hW (fun h => h)).cell 0
                have c1 := (BX.out.drew.keep hW (fun h => h)).cell 1
                have c2 := (BX.out.drew.keep hW (fun h => h)).cell 2
                simp at c0 c1 c2
                go_simp
                exact hK _ _ (Keep.refl _ _) rfl
              go_simp
              generalize hZ : (Act.mk _ _) = Z
              refine hK Z ?_
              subst hZ
              clear hK K
              refine kAll_dn _ (fun W hW hF => kStep_of fun K Q hK => ?_) (fun K hK => ?_)
              · go_simp
                refine (may_any (a, i) W).mono ?_
                rintro e w' ⟨rfl, hk⟩
                rw [HM.out]
                exact hK _ _ hk rfl
              go_simp
              generalize hZ : (Act.mk _ _) = Z
              refine hK Z ?_
              subst hZ
              clear hK K
              refine kAll_p (fun K hK => ?_)
              go_simp
              generalize hZ : (Act.mk _ _) = Z
              refine hK Z ?_
              subst hZ
              clear hK K
              refine kAll_p (fun K hK => ?_)
              go_simp
              generalize hZ : (Act.mk _ _) = Z
              refine hK Z ?_
              subst hZ
              clear hK K
              refine kAll_pw (by kernel_rfl) (fun K hK => ?_)
              go_simp
              generalize hZ : (Act.mk _ _) = Z
              refine hK Z ?_
              subst hZ
              clear hK K
              refine kAll_dn _ (fun W hW hF => kStep_w (by kernel_rfl) fun K Q hK => ?_) (fun K hK => ?_)
              · have c0 := (BX.out.drew.keep hW (fun h => h)).cell 0
                have c1 := (BX.out.drew.keep hW (fun h => h)).cell 1
                have c2 := (BX.out.drew.keep hW (fun h => h)).cell 2
                simp at c0 c1 c2
                go_simp
                exact hK _ _ (Keep.refl _ _) rfl
              go_simp
              generalize hZ : (Act.mk _ _) = Z
              refine hK Z ?_
              subst hZ
              clear hK K
              refine kAll_pw (by kernel_rfl) (fun K hK => ?_)
              go_simp
              generalize hZ : (Act.mk _ _) = Z
              refine hK Z ?_
              subst hZ
              clear hK K
              refine kAll_p (fun K hK => ?_)
              go_simp
              generalize hZ : (Act.mk _ _) = Z
              refine hK Z ?_
              subst hZ
              clear hK K
              refine kAll_p (fun K hK => ?_)
              go_simp
              generalize hZ : (Act.mk _ _) = Z
              refine hK Z ?_
              subst hZ
              clear hK K
              refine kAll_pw (by kernel_rfl) (fun K hK => ?_)
              go_simp
              generalize hZ : (Act.mk _ _) = Z
              refine hK Z ?_
              subst hZ
              clear hK K
              refine kAll_dn _ (fun W hW hF => kStep_w (by kernel_rfl) fun K Q hK => ?_) (fun K hK => ?_)
              · have c0 := (BX.out.drew.keep hW (fun h => h)).cell 0
                have c1 := (BX.out.drew.keep hW (fun h => h)).cell 1
                have c2 := (BX.out.drew.keep hW (fun h => h)).cell 2
                simp at c0 c1 c2
                go_simp
                exact hK _ _ (Keep.refl _ _) rfl
              go_simp
              generalize hZ : (Act.mk _ _) = Z
              refine hK Z ?_
              subst hZ
              clear hK K
              refine kAll_pw (by kernel_rfl) (fun K hK => ?_)
              go_simp
              generalize hZ : (Act.mk _ _) = Z
              refine hK Z ?_
              subst hZ
              clear hK K
              refine kAll_p (fun K hK => ?_)
              go_simp
              generalize hZ : (Act.mk _ _) = Z
              refine hK Z ?_
              subst hZ
              clear hK K
              refine kAll_p (fun K hK => ?_)
              go_simp
              generalize hZ : (Act.mk _ _) = Z
              refine hK Z ?_
              subst hZ
              clear hK K
              refine kAll_pw (by kernel_rfl) (fun K hK => ?_)
              go_simp
              generalize hZ : (Act.mk _ _) = Z
              refine hK Z ?_
              subst hZ
              clear hK K
              refine kAll_pw (by kernel_rfl) (fun K hK => ?_)
              go_simp
              generalize hZ : (Act.mk _ _) = Z
              refine hK Z ?_
              subst hZ
              clear hK K
              refine kAll_pw (by kernel_rfl) (fun K hK => ?_)
              go_simp
              generalize hZ : (Act.mk _ _) = Z
              refine hK Z ?_
              subst hZ
              clear hK K
              refine kAll_skip (by kernel_rfl) ?_
              refine kAll_skip (by kernel_rfl) ?_
              refine kAll_skip (by kernel_rfl) ?_
              refine kAll_skip (by kernel_rfl) ?_
              refine kAll_skip (by kernel_rfl) ?_
              refine kAll_skip (by kernel_rfl) ?_
              refine kAll_skip (by kernel_rfl) ?_
              refine kAll_skip (by kernel_rfl) ?_
              refine kAll_skip (by kernel_rfl) ?_
              refine kAll_skip (by kernel_rfl) ?_
              refine kAll_pw (by kernel_rfl) (fun K hK => ?_)
              go_simp
              generalize hZ : (Act.mk _ _) = Z
              refine hK Z ?_
              subst hZ
              clear hK K
              refine kAll_p (fun K hK => ?_)
              go_simp
              generalize hZ : (Act.mk _ _) = Z
              refine hK Z ?_
              subst hZ
              clear hK K
              refine kAll_nil (fun W hW hF => ?_)
              clear hF
              have HW := Lib.hid (keepD KX.out hW)
              clear hW
              go_wp2
              go_roundw
              case rel => exact ⟨1, by omega, by go_num, Lib.hid (allT_snoc HA.out HE.out), Lib.hid (keep0_trans _ _ _ HK.out HW.out)⟩
              case measure => simp [intOf]; omega
            · have hk0 : 0 < k := by omega
              have HP := Lib.hid (HPR.out hk0)
              have hkI : (0 : Int) < (k : Int) := by omega
              have hk1 : (1 : Int) ≤ (k : Int) := by omega
              have hkJ : (0 : Int) ≤ (k : Int) - 1 := by omega
              have hkK : (k : Int) - 1 < (n : Int) := by omega
              have hkT : ((k : Int) - 1).toNat = k - 1 := by omega
              have hkW : IntKind.i64.wrap ((k : Int) - 1) = (k : Int) - 1 := IntWalk.i64_in _ (by omega)
              have hkD : decide ((0 : Int) < (k : Int)) = true := decide_eq_true hkI
              cases hp : ltID (pa, pi) (a, i)
              · have HLT := Lib.hid hp
                have HB := Lib.hid (HFL.out (by rw [HO.out, decide_eq_false h0, hp]; rfl))
                clear h0 hp
                go_wp2_with fail
                refine wp_region_krip (Keep (fun _ => False)) (Keep.refl _) keep0_trans 30 (by kernel_rfl) (by kernel_rfl) (Ts := [none, some (.inl (idV (a, i))), some (.inl (.bool true)), none, none, none, some (.inl (.int .i64 m)), none, none, none, none, some (.inl (.int .i64 m)), none, none, none, none, none, none, none, none, none, none, none, some (.inl (idV (pa, pi))), none, some (.inl (idV (a, i))), some (.inl (.bool false)), none, none, none]) ?_
                simp only [List.take, List.drop]
                refine kAll_p (fun K hK => ?_)
                go_simp
                generalize hZ : (Act.mk _ _) = Z
                refine hK Z ?_
                subst hZ
                clear hK K
                refine kAll_dn _ (fun W hW hF => kStep_of fun K Q hK => ?_) (fun K hK => ?_)
                · have c0 := (BX.out.drew.keep hW (fun h => h)).cell 0
                  have c1 := (BX.out.drew.keep hW (fun h => h)).cell 1
                  have c2 := (BX.out.drew.keep hW (fun h => h)).cell 2
                  simp at c0 c1 c2
                  go_simp
                  exact hK _ _ (Keep.refl _ _) rfl
                go_simp
                generalize hZ : (Act.mk _ _) = Z
                refine hK Z ?_
                subst hZ
                clear hK K
                refine kAll_dn _ (fun W hW hF => kStep_of fun K Q hK => ?_) (fun K hK => ?_)
                · go_simp
                  refine (may_any (a, i) W).mono ?_
                  rintro e w' ⟨rfl, hk⟩
                  rw [HM.out]
                  exact hK _ _ hk rfl
                go_simp
                generalize hZ : (Act.mk _ _) = Z
                refine hK Z ?_
                subst hZ
                clear hK K
                refine kAll_p (fun K hK => ?_)
                go_simp
                generalize hZ : (Act.mk _ _) = Z
                refine hK Z ?_
                subst hZ
                clear hK K
                refine kAll_p (fun K hK => ?_)
                go_simp
                generalize hZ : (Act.mk _ _) = Z
                refine hK Z ?_
                subst hZ
                clear hK K
                refine kAll_pw (by kernel_rfl) (fun K hK => ?_)
                go_simp
                generalize hZ : (Act.mk _ _) = Z
                refine hK Z ?_
                subst hZ
                clear hK K
                refine kAll_dn _ (fun W hW hF => kStep_w (by kernel_rfl) fun K Q hK => ?_) (fun K hK => ?_)
                · have c0 := (BX.out.drew.keep hW (fun h => h)).cell 0
                  have c1 := (BX.out.drew.keep hW (fun h => h)).cell 1
                  have c2 := (BX.out.drew.keep hW (fun h => h)).cell 2
                  simp at c0 c1 c2
                  go_simp
                  exact hK _ _ (Keep.refl _ _) rfl
                go_simp
                generalize hZ : (Act.mk _ _) = Z
                refine hK Z ?_
                subst hZ
                clear hK K
                refine kAll_pw (by kernel_rfl) (fun K hK => ?_)
                go_simp
                generalize hZ : (Act.mk _ _) = Z
                refine hK Z ?_
                subst hZ
                clear hK K
                refine kAll_p (fun K hK => ?_)
                go_simp
                generalize hZ : (Act.mk _ _) = Z
                refine hK Z ?_
                subst hZ
                clear hK K
                refine kAll_p (fun K hK => ?_)
                go_simp
                generalize hZ : (Act.mk _ _) = Z
                refine hK Z ?_
                subst hZ
                clear hK K
                refine kAll_pw (by kernel_rfl) (fun K hK => ?_)
                go_simp
                generalize hZ : (Act.mk _ _) = Z
                refine hK Z ?_
                subst hZ
                clear hK K
                refine kAll_dn _ (fun W hW hF => kStep_w (by kernel_rfl) fun K Q hK => ?_) (fun K hK => ?_)
                · have c0 := (BX.out.drew.keep hW (fun h => h)).cell 0
                  have c1 := (BX.out.drew.keep hW (fun h => h)).cell 1
                  have c2 := (BX.out.drew.keep hW (fun h => h)).cell 2
                  simp at c0 c1 c2
                  go_simp
                  exact hK _ _ (Keep.refl _ _) rfl
                go_simp
                generalize hZ : (Act.mk _ _) = Z
                refine hK Z ?_
                subst hZ
                clear hK K
                refine kAll_pw (by kernel_rfl) (fun K hK => ?_)
                go_simp
                generalize hZ : (Act.mk _ _) = Z
                refine hK Z ?_
                subst hZ
                clear hK K
                refine kAll_p (fun K hK => ?_)
                go_simp
                generalize hZ : (Act.mk _ _) = Z
                refine hK Z ?_
                subst hZ
                clear hK K
                refine kAll_p (fun K hK => ?_)
                go_simp
                generalize hZ : (Act.mk _ _) = Z
                refine hK Z ?_
                subst hZ
                clear hK K
                refine kAll_pw (by kernel_rfl) (fun K hK => ?_)
                go_simp
                generalize hZ : (Act.mk _ _) = Z
                refine hK Z ?_
                subst hZ
                clear hK K
                refine kAll_pw (by kernel_rfl) (fun K hK => ?_)
                go_simp
                generalize hZ : (Act.mk _ _) = Z
                refine hK Z ?_
                subst hZ
                clear hK K
                refine kAll_pw (by kernel_rfl) (fun K hK => ?_)
                go_simp
                generalize hZ : (Act.mk _ _) = Z
                refine hK Z ?_
                subst hZ
                clear hK K
                refine kAll_pw (by kernel_rfl) (fun K hK => ?_)
                go_simp
                generalize hZ : (Act.mk _ _) = Z
                refine hK Z ?_
                subst hZ
                clear hK K
                refine kAll_pw (by kernel_rfl) (fun K hK => ?_)
                go_simp
                generalize hZ : (Act.mk _ _) = Z
                refine hK Z ?_
                subst hZ
                clear hK K
                refine kAll_pw (by kernel_rfl) (fun K hK => ?_)
                go_simp
                generalize hZ : (Act.mk _ _) = Z
                refine hK Z ?_
                subst hZ
                clear hK K
                refine kAll_pw (by kernel_rfl) (fun K hK => ?_)
                go_simp
                generalize hZ : (Act.mk _ _) = Z
                refine hK Z ?_
                subst hZ
                clear hK K
                refine kAll_pw (by kernel_rfl) (fun K hK => ?_)
                go_simp
                generalize hZ : (Act.mk _ _) = Z
                refine hK Z ?_
                subst hZ
                clear hK K
                refine kAll_dn _ (fun W hW hF => kStep_w (by kernel_rfl) fun K Q hK => ?_) (fun K hK => ?_)
                · have hp := HP.out W (keepD KX.out hW)
                  have hp0 := hp.1
                  have hp1 := hp.2
                  clear hp
                  go_simp
                  exact hK _ _ (Keep.refl _ _) rfl
                go_simp
                generalize hZ : (Act.mk _ _) = Z
                refine hK Z ?_
                subst hZ
                clear hK K
                refine kAll_pw (by kernel_rfl) (fun K hK => ?_)
                go_simp
                generalize hZ : (Act.mk _ _) = Z
                refine hK Z ?_
                subst hZ
                clear hK K
                refine kAll_dn _ (fun W hW hF => kStep_w (by kernel_rfl) fun K Q hK => ?_) (fun K hK => ?_)
                · have c0 := (BX.out.drew.keep hW (fun h => h)).cell 0
                  have c1 := (BX.out.drew.keep hW (fun h => h)).cell 1
                  have c2 := (BX.out.drew.keep hW (fun h => h)).cell 2
                  simp at c0 c1 c2
                  go_simp
                  exact hK _ _ (Keep.refl _ _) rfl
                go_simp
                generalize hZ : (Act.mk _ _) = Z
                refine hK Z ?_
                subst hZ
                clear hK K
                refine kAll_dn _ (fun W hW hF => kStep_w (by kernel_rfl) fun K Q hK => ?_) (fun K hK => ?_)
                · go_simp
                  refine (ltID_any (pa, pi) (a, i) W).mono ?_
                  rintro e w' ⟨rfl, hk⟩
                  rw [HLT.out]
                  exact hK _ _ hk rfl
                go_simp
                generalize hZ : (Act.mk _ _) = Z
                refine hK Z ?_
                subst hZ
                clear hK K
                refine kAll_pw (by kernel_rfl) (fun K hK => ?_)
                go_simp
                generalize hZ : (Act.mk _ _) = Z
                refine hK Z ?_
                subst hZ
                clear hK K
                refine kAll_pw (by kernel_rfl) (fun K hK => ?_)
                go_simp
                generalize hZ : (Act.mk _ _) = Z
                refine hK Z ?_
                subst hZ
                clear hK K
                refine kAll_p (fun K hK => ?_)
                go_simp
                generalize hZ : (Act.mk _ _) = Z
                refine hK Z ?_
                subst hZ
                clear hK K
                refine kAll_nil (fun W hW hF => ?_)
                clear hF
                have HW := Lib.hid (keepD KX.out hW)
                clear hW
                go_wp2
                go_ret
                exact ⟨ret_bool HB.out.symm, keep0_trans _ _ _ HK.out HW.out⟩
              · have HLT := Lib.hid hp
                have HE := Lib.hid (show okT l k = true by rw [HO.out, hp]; simp)
                clear h0 hp
                go_wp2_with fail
                refine wp_region_krip (Keep (fun _ => False)) (Keep.refl _) keep0_trans 30 (by kernel_rfl) (by kernel_rfl) (Ts := [none, some (.inl (idV (a, i))), some (.inl (.bool true)), none, none, none, some (.inl (.int .i64 m)), none, none, none, none, some (.inl (.int .i64 m)), none, none, none, none, none, none, none, none, none, none, none, some (.inl (idV (pa, pi))), none, some (.inl (idV (a, i))), some (.inl (.bool true)), none, none, none]) ?_
                simp only [List.take, List.drop]
                refine kAll_p (fun K hK => ?_)
                go_simp
                generalize hZ : (Act.mk _ _) = Z
                refine hK Z ?_
                subst hZ
                clear hK K
                refine kAll_dn _ (fun W hW hF => kStep_of fun K Q hK => ?_) (fun K hK => ?_)
                · have c0 := (BX.out.drew.keep hW (fun h => h)).cell 0
                  have c1 := (BX.out.drew.keep hW (fun h => h)).cell 1
                  have c2 := (BX.out.drew.keep hW (fun h => h)).cell 2
                  simp at c0 c1 c2
                  go_simp
                  exact hK _ _ (Keep.refl _ _) rfl
                go_simp
                generalize hZ : (Act.mk _ _) = Z
                refine hK Z ?_
                subst hZ
                clear hK K
                refine kAll_dn _ (fun W hW hF => kStep_of fun K Q hK => ?_) (fun K hK => ?_)
                · go_simp
                  refine (may_any (a, i) W).mono ?_
                  rintro e w' ⟨rfl, hk⟩
                  rw [HM.out]
                  exact hK _ _ hk rfl
                go_simp
                generalize hZ : (Act.mk _ _) = Z
                refine hK Z ?_
                subst hZ
                clear hK K
                refine kAll_p (fun K hK => ?_)
                go_simp
                generalize hZ : (Act.mk _ _) = Z
                refine hK Z ?_
                subst hZ
                clear hK K
                refine kAll_p (fun K hK => ?_)
                go_simp
                generalize hZ : (Act.mk _ _) = Z
                refine hK Z ?_
                subst hZ
                clear hK K
                refine kAll_pw (by kernel_rfl) (fun K hK => ?_)
                go_simp
                generalize hZ : (Act.mk _ _) = Z
                refine hK Z ?_
                subst hZ
                clear hK K
                refine kAll_dn _ (fun W hW hF => kStep_w (by kernel_rfl) fun K Q hK => ?_) (fun K hK => ?_)
                · have c0 := (BX.out.drew.keep hW (fun h => h)).cell 0
                  have c1 := (BX.out.drew.keep hW (fun h => h)).cell 1
                  have c2 := (BX.out.drew.keep hW (fun h => h)).cell 2
                  simp at c0 c1 c2
                  go_simp
                  exact hK _ _ (Keep.refl _ _) rfl
                go_simp
                generalize hZ : (Act.mk _ _) = Z
                refine hK Z ?_
                subst hZ
                clear hK K
                refine kAll_pw (by kernel_rfl) (fun K hK => ?_)
                go_simp
                generalize hZ : (Act.mk _ _) = Z
                refine hK Z ?_
                subst hZ
                clear hK K
                refine kAll_p (fun K hK => ?_)
                go_simp
                generalize hZ : (Act.mk _ _) = Z
                refine hK Z ?_
                subst hZ
                clear hK K
                refine kAll_p (fun K hK => ?_)
                go_simp
                generalize hZ : (Act.mk _ _) = Z
                refine hK Z ?_
                subst hZ
                clear hK K
                refine kAll_pw (by kernel_rfl) (fun K hK => ?_)
                go_simp
                generalize hZ : (Act.mk _ _) = Z
                refine hK Z ?_
                subst hZ
                clear hK K
                refine kAll_dn _ (fun W hW hF => kStep_w (by kernel_rfl) fun K Q hK => ?_) (fun K hK => ?_)
                · have c0 := (BX.out.drew.keep hW (fun h => h)).cell 0
                  have c1 := (BX.out.drew.keep hW (fun h => h)).cell 1
                  have c2 := (BX.out.drew.keep hW (fun h => h)).cell 2
                  simp at c0 c1 c2
                  go_simp
                  exact hK _ _ (Keep.refl _ _) rfl
                go_simp
                generalize hZ : (Act.mk _ _) = Z
                refine hK Z ?_
                subst hZ
                clear hK K
                refine kAll_pw (by kernel_rfl) (fun K hK => ?_)
                go_simp
                generalize hZ : (Act.mk _ _) = Z
                refine hK Z ?_
                subst hZ
                clear hK K
                refine kAll_p (fun K hK => ?_)
                go_simp
                generalize hZ : (Act.mk _ _) = Z
                refine hK Z ?_
                subst hZ
                clear hK K
                refine kAll_p (fun K hK => ?_)
                go_simp
                generalize hZ : (Act.mk _ _) = Z
                refine hK Z ?_
                subst hZ
                clear hK K
                refine kAll_pw (by kernel_rfl) (fun K hK => ?_)
                go_simp
                generalize hZ : (Act.mk _ _) = Z
                refine hK Z ?_
                subst hZ
                clear hK K
                refine kAll_pw (by kernel_rfl) (fun K hK => ?_)
                go_simp
                generalize hZ : (Act.mk _ _) = Z
                refine hK Z ?_
                subst hZ
                clear hK K
                refine kAll_pw (by kernel_rfl) (fun K hK => ?_)
                go_simp
                generalize hZ : (Act.mk _ _) = Z
                refine hK Z ?_
                subst hZ
                clear hK K
                refine kAll_pw (by kernel_rfl) (fun K hK => ?_)
                go_simp
                generalize hZ : (Act.mk _ _) = Z
                refine hK Z ?_
                subst hZ
                clear hK K
                refine kAll_pw (by kernel_rfl) (fun K hK => ?_)
                go_simp
                generalize hZ : (Act.mk _ _) = Z
                refine hK Z ?_
                subst hZ
                clear hK K
                refine kAll_pw (by kernel_rfl) (fun K hK => ?_)
                go_simp
                generalize hZ : (Act.mk _ _) = Z
                refine hK Z ?_
                subst hZ
                clear hK K
                refine kAll_pw (by kernel_rfl) (fun K hK => ?_)
                go_simp
                generalize hZ : (Act.mk _ _) = Z
                refine hK Z ?_
                subst hZ
                clear hK K
                refine kAll_pw (by kernel_rfl) (fun K hK => ?_)
                go_simp
                generalize hZ : (Act.mk _ _) = Z
                refine hK Z ?_
                subst hZ
                clear hK K
                refine kAll_dn _ (fun W hW hF => kStep_w (by kernel_rfl) fun K Q hK => ?_) (fun K hK => ?_)
                · have hp := HP.out W (keepD KX.out hW)
                  have hp0 := hp.1
                  have hp1 := hp.2
                  clear hp
                  go_simp
                  exact hK _ _ (Keep.refl _ _) rfl
                go_simp
                generalize hZ : (Act.mk _ _) = Z
                refine hK Z ?_
                subst hZ
                clear hK K
                refine kAll_pw (by kernel_rfl) (fun K hK => ?_)
                go_simp
                generalize hZ : (Act.mk _ _) = Z
                refine hK Z ?_
                subst hZ
                clear hK K
                refine kAll_dn _ (fun W hW hF => kStep_w (by kernel_rfl) fun K Q hK => ?_) (fun K hK => ?_)
                · have c0 := (BX.out.drew.keep hW (fun h => h)).cell 0
                  have c1 := (BX.out.drew.keep hW (fun h => h)).cell 1
                  have c2 := (BX.out.drew.keep hW (fun h => h)).cell 2
                  simp at c0 c1 c2
                  go_simp
                  exact hK _ _ (Keep.refl _ _) rfl
                go_simp
                generalize hZ : (Act.mk _ _) = Z
                refine hK Z ?_
                subst hZ
                clear hK K
                refine kAll_dn _ (fun W hW hF => kStep_w (by kernel_rfl) fun K Q hK => ?_) (fun K hK => ?_)
                · go_simp
                  refine (ltID_any (pa, pi) (a, i) W).mono ?_
                  rintro e w' ⟨rfl, hk⟩
                  rw [HLT.out]
                  exact hK _ _ hk rfl
                go_simp
                generalize hZ : (Act.mk _ _) = Z
                refine hK Z ?_
                subst hZ
                clear hK K
                refine kAll_pw (by kernel_rfl) (fun K hK => ?_)
                go_simp
                generalize hZ : (Act.mk _ _) = Z
                refine hK Z ?_
                subst hZ
                clear hK K
                refine kAll_pw (by kernel_rfl) (fun K hK => ?_)
                go_simp
                generalize hZ : (Act.mk _ _) = Z
                refine hK Z ?_
                subst hZ
                clear hK K
                refine kAll_p (fun K hK => ?_)
                go_simp
                generalize hZ : (Act.mk _ _) = Z
                refine hK Z ?_
                subst hZ
                clear hK K
                refine kAll_nil (fun W hW hF => ?_)
                clear hF
                have HW := Lib.hid (keepD KX.out hW)
                clear hW
                go_wp2
                go_roundw
                case rel => exact ⟨k + 1, by omega, by go_num, Lib.hid (allT_snoc HA.out HE.out), Lib.hid (keep0_trans _ _ _ HK.out HW.out)⟩
                case measure => simp [intOf]; omega
    · obtain rfl : n = k := by omega
      have HB := Lib.hid (mayT_end HL.out HA.out)
      go_wp2
      go_ret
      exact ⟨ret_bool HB.out.symm, HK.out⟩
end Go.Proofs.Ytljmpjkfdkcjnaa
