/-
  Ticks: how they lie; clock.May.
  Whether two lists are the same: slices.Equal, coveyref03.IDs, coveyref05.Ticks, coveyref07.Same.
  Sums of bytes, plain: one bit, one byte, many; what is bent within four bytes has another sum.
  crc: table.
-/
import Derived.Test.YtgoldgamjogadaaGreatMgN1
import Derived.Test.YtgoldgamjogadaaGreatMgN2
import Derived.Test.YtgoldgamjogadaaGreatMgN3
import Derived.Laws.BitsAllLaws
import Derived.Deep.Cut
import Derived.WalkKit
import Derived.Laws.Rows
import Derived.Laws.EntriesVeiled
namespace Go.Proofs.YtgoldgamjogadaaGreat
open Go.RowKit

abbrev cT (t : Tick) : List Value := [.int .i64 t.1.1, .int .i64 t.1.2, .int .i64 t.2]
abbrev tV (t : Tick) : Value := .agg #[.int .i64 t.1.1, .int .i64 t.1.2, .int .i64 t.2]
def tick0 : Tick := ((0, 0), 0)
/-- a list of ticks that can be read -/
def RdT (w : World) (A : Option Addr) (n : Nat) (l : List Tick) : Prop := l.length = n ∧ RdK w 3 A n (l.flatMap cT)
theorem RdT.keep0 {w w' : World} {A : Option Addr} {n : Nat} {l : List Tick} (h : RdT w A n l) (hk : Keep (fun _ => False) w w') : RdT w' A n l := ⟨h.1, h.2.keep0 hk⟩
theorem RdT.at_ {w : World} {A : Option Addr} {n : Nat} {l : List Tick} (h : RdT w A n l) {i : Nat} (hi : i < n) : ∃ g off, A = some ⟨g, off, none⟩ ∧ w.cell? ⟨g, off + i * 3, none⟩ = some (.int .i64 (l.getD i tick0).1.1) ∧ w.cell? ⟨g, off + i * 3 + 1, none⟩ = some (.int .i64 (l.getD i tick0).1.2) ∧ w.cell? ⟨g, off + i * 3 + 2, none⟩ = some (.int .i64 (l.getD i tick0).2) := by
  have hl : i < l.length := by rw [h.1]; exact hi
  have e : l.getD i tick0 = l[i] := by simp [List.getD, hl]
  obtain ⟨g, off, v, h1, h2, h3⟩ := h.2.2 (i * 3) (by omega)
  obtain ⟨g', off', v', h1', h2', h3'⟩ := h.2.2 (i * 3 + 1) (by omega)
  rw [h1] at h1'; injection h1' with h1'; injection h1' with q1 q2; subst q1 q2
  obtain ⟨g', off', v'', h1', h2'', h3''⟩ := h.2.2 (i * 3 + 2) (by omega)
  rw [h1] at h1'; injection h1' with h1'; injection h1' with q1 q2; subst q1 q2
  have f0 := flat_get cT 3 (fun _ => rfl) l i 0 hl (by omega)
  have f1 := flat_get cT 3 (fun _ => rfl) l i 1 hl (by omega)
  have f2 := flat_get cT 3 (fun _ => rfl) l i 2 hl (by omega)
  rw [Nat.add_zero, h2] at f0
  rw [h2'] at f1
  rw [h2''] at f2
  simp at f0 f1 f2
  exact ⟨g, off, h1, by rw [h3, e, f0], by rw [Nat.add_assoc, h3', e, f1], by rw [Nat.add_assoc, h3'', e, f2]⟩
/-- a slice of ticks that can be read -/
def TSl (w : World) (A : Option Addr) (n c : Nat) (l : List Tick) : Prop := RdT w A n l ∧ n ≤ c ∧ c ≤ maxLen ∧ (A = none ∨ ∃ g off, A = some ⟨g, off, none⟩)
theorem TSl.keep0 {w w' : World} {A : Option Addr} {n c : Nat} {l : List Tick} (h : TSl w A n c l) (hk : Keep (fun _ => False) w w') : TSl w' A n c l := ⟨h.1.keep0 hk, h.2⟩
theorem SlK.tsl {w : World} {t : TypeId} {row : Option Nat} {A : Option Addr} {n c : Nat} {l : List Tick} (h : SlK w t 3 row A n c (l.flatMap cT)) : TSl w A n c l :=
  ⟨⟨by have := h.1; rw [flat_len cT 3 (fun _ => rfl)] at this; omega, h.rd⟩, h.2.1, h.2.2.1, by
    rcases h.2.2.2 with ⟨_, e, _⟩ | ⟨g, off, _, _, e, _⟩
    · exact .inl e
    · exact .inr ⟨g, off, e⟩⟩
theorem RdT.none_ (w : World) (A : Option Addr) : RdT w A 0 [] := ⟨rfl, by simp, fun j hj => by omega⟩
theorem TSl.nil_ (w : World) : TSl w none 0 0 [] := ⟨RdT.none_ _ _, Nat.le_refl _, by simp [maxLen], .inl rfl⟩
/-- a slice of ticks, to be read -/
def GotT (l : List Tick) (w : World) (e : Ending) (w' : World) : Prop := ∃ A n c, e = .returned (.slice A n c) ∧ TSl w' A n c l ∧ Keep (fun _ => False) w w'

attribute [local irreducible] kAll
attribute [local go_sem] kQuiet kQuietUpon

def okT (l : List Tick) (i : Nat) : Bool :=
  mayID (l.getD i tick0).1 && decide (1 ≤ (l.getD i tick0).2 ∧ (l.getD i tick0).2 ≤ 1099511627776) && (decide (i = 0) || ltID (l.getD (i - 1) tick0).1 (l.getD i tick0).1)
def mayCk (l : List Tick) : Bool := (List.range l.length).all (okT l) && decide (l.length ≤ 64)
theorem allT_snoc {p : Nat → Bool} {k : Nat} (h : ∀ j, j < k → p j = true) (hk : p k = true) : ∀ j, j < k + 1 → p j = true := fun j hj => by
  by_cases e : j = k
  · subst e; exact hk
  · exact h j (by omega)
theorem mayCk_no {l : List Tick} {k : Nat} (hk : k < l.length) (h : okT l k = false) : mayCk l = false := by
  have : (List.range l.length).all (okT l) = false := by
    rw [Bool.eq_false_iff]; intro h2
    have := List.all_eq_true.1 h2 k (List.mem_range.2 hk)
    rw [h] at this; cases this
  simp [mayCk, this]
theorem mayCk_end {l : List Tick} {n : Nat} (hl : l.length = n) (h : ∀ j, j < n → okT l j = true) : mayCk l = decide ((n : Int) ≤ 64) := by
  have : (List.range l.length).all (okT l) = true := List.all_eq_true.2 fun j hj => h j (by have := List.mem_range.1 hj; omega)
  unfold mayCk
  rw [this, Bool.true_and, hl]
  rw [Bool.eq_iff_iff]; simp; omega
theorem ris_of_next : ∀ {l : List ID}, (∀ (i : Nat) (h : i + 1 < l.length), ltID l[i] l[i + 1] = true) → Ris l
  | [], _ => ris_nil
  | [x], _ => ris_one x
  | x :: y :: l, h => by
    have ih : Ris (y :: l) := ris_of_next (fun i hi => by have := h (i + 1) (by simp at hi ⊢; omega); simpa using this)
    have h0 : ltID x y = true := h 0 (by simp)
    unfold Ris at ih ⊢
    rw [List.pairwise_cons]
    refine ⟨fun z hz => ?_, ih⟩
    rcases List.mem_cons.1 hz with rfl | hz
    · exact h0
    · exact lt_trans h0 ((List.pairwise_cons.1 ih).1 z hz)
theorem mayCk_iff (l : List Tick) : mayCk l = true ↔ mayC l := by
  unfold mayCk mayC
  rw [Bool.and_eq_true, List.all_eq_true, decide_eq_true_eq]
  have e : ∀ i (h : i < l.length), l.getD i tick0 = l[i] := fun i h => by simp [List.getD, h]
  constructor
  · rintro ⟨h, hl⟩
    have h' : ∀ i, i < l.length → okT l i = true := fun i hi => h i (List.mem_range.2 hi)
    unfold okT at h'
    simp only [Bool.and_eq_true, Bool.or_eq_true, decide_eq_true_eq] at h'
    refine ⟨fun t ht => ?_, ?_, hl⟩
    · obtain ⟨i, hi, rfl⟩ := List.getElem_of_mem ht
      have := h' i hi
      rw [e i hi] at this
      exact ⟨this.1.1, this.1.2.1, this.1.2.2⟩
    · refine ris_of_next (fun i hi => ?_)
      rw [List.length_map] at hi
      have := (h' (i + 1) hi).2
      rw [e (i + 1) hi, show i + 1 - 1 = i from rfl, e i (by omega)] at this
      rcases this with q | q
      · omega
      · simpa using q
  · rintro ⟨h1, h2, h3⟩
    refine ⟨fun i hi => ?_, h3⟩
    rw [List.mem_range] at hi
    have ha := h1 l[i] (List.getElem_mem hi)
    unfold okT
    rw [e i hi]
    simp only [Bool.and_eq_true, Bool.or_eq_true, decide_eq_true_eq]
    refine ⟨⟨ha.1, ha.2⟩, ?_⟩
    by_cases h0 : i = 0
    · exact .inl h0
    · right
      rw [e (i - 1) (by omega)]
      unfold Ris at h2
      have := List.pairwise_iff_getElem.1 h2 (i - 1) i (by simp; omega) (by simp; omega) (by omega)
      simpa using this
set_option maxRecDepth 100000 in
set_option maxHeartbeats 4000000 in
theorem mayC_any (A : Option Addr) (n c : Nat) (l : List Tick) (w : World) (h : RdT w A n l) (hn : n ≤ 9223372036854775807) :
    Calls Tryz.prog 37 #[.slice A n c] w (Tell (.bool (mayCk l)) w) := by
  have HL := Lib.hid h.1
  have H := Lib.hid h
  clear h
  go_enter Tryz.func37, Tryz.ntmps37
  go_wp2_with fail
  go_loopw [7] (fun i wr => ∃ k : Nat, k ≤ n ∧ i = .int .i64 (k : Int) ∧ Hid (∀ j, j < k → okT l j = true) ∧ Hid (Keep (fun _ => False) w wr)) (fun i _ => n - (intOf i).toNat)
  case atStart => exact ⟨0, Nat.zero_le _, rfl, Lib.hid (by intro j hj; omega), Lib.hid (Keep.refl _ _)⟩
  case round =>
    obtain ⟨k, hk, rfl, HA, HK⟩ := hrel
    by_cases hlt : k < n
    · obtain ⟨g, off, rfl, q0, q1, q2⟩ := (H.out.keep0 HK.out).at_ hlt
      have HFL := Lib.hid (fun h => mayCk_no (l := l) (k := k) (by rw [HL.out]; exact hlt) h)
      have HO := Lib.hid (show okT l k = (mayID (l.getD k tick0).1 && decide (1 ≤ (l.getD k tick0).2 ∧ (l.getD k tick0).2 ≤ 1099511627776) && (decide (k = 0) || ltID (l.getD (k - 1) tick0).1 (l.getD k tick0).1)) from rfl)
      have HPR : Hid (0 < k → ∀ W, Keep (fun _ => False) wr W → W.cell? ⟨g, off + (k - 1) * 3, none⟩ = some (.int .i64 (l.getD (k - 1) tick0).1.1) ∧ W.cell? ⟨g, off + (k - 1) * 3 + 1, none⟩ = some (.int .i64 (l.getD (k - 1) tick0).1.2)) := Lib.hid fun h0 W hW => by
        obtain ⟨g', off', hA, p0, p1, _⟩ := (H.out.keep0 (keep0_trans _ _ _ HK.out hW)).at_ (i := k - 1) (by omega)
        injection hA with hA; injection hA with r1 r2; subst r1 r2; exact ⟨p0, p1⟩
      generalize (l.getD (k - 1) tick0).1 = p at *
      generalize l.getD k tick0 = x at *
      obtain ⟨⟨a, i⟩, m⟩ := x
      obtain ⟨pa, pi⟩ := p
      simp only at q0 q1 q2 HO HPR
      have KX := Lib.hid ((Keep.refl (fun _ => False) wr).alloc (.cells #[.int .i64 a, .int .i64 i, .int .i64 m] 27))
      have BX := Lib.hid (Blk.new wr 27 #[.int .i64 a, .int .i64 i, .int .i64 m])
      have hkJ0 : (0 : Int) ≤ (k : Int) := by omega
      have hkI0 : (k : Int) < (n : Int) := by omega
      have e2 : IntKind.i64.wrap (k : Int) = (k : Int) := IntWalk.i64_in _ (by omega)
      cases hM : mayID (a, i)
      · have HM := Lib.hid hM
        have HB := Lib.hid (HFL.out (by rw [HO.out, hM]; rfl))
        clear hM
        go_wp2_with fail
        refine wp_region_krip (Keep (fun _ => False)) (Keep.refl _) keep0_trans 30 (by kernel_rfl) (by kernel_rfl) (Ts := [none, some (.inl (idV (a, i))), some (.inl (.bool false)), none, none, none, none, none, none, none, none, none, none, none, none, none, none, none, none, none, none, none, none, none, none, none, none, none, none, none]) ?_
        simp only [List.take, List.drop]
        refine kAll_p (fun K hK => ?_)
        go_simp
        generalize hZ : (Act.mk _ _) = Z
        refine hK Z ?_
        subst hZ
        clear hK K
        refine kAll_dn _ (fun W hW hF => kStep_of fun K Q hK => ?_) (fun K hK => ?_)
        · have c0 := (BX.out.drew.keep hW (fun h => h)).cell 0
          have c1 := (BX.out.drew.keep hW (fun h => h)).cell 1
          have c2 := (BX.out.drew.keep hW (fun h => h)).cell 2
          simp at c0 c1 c2
          go_simp
          exact hK _ _ (Keep.refl _ _) rfl
        go_simp
        generalize hZ : (Act.mk _ _) = Z
        refine hK Z ?_
        subst hZ
        clear hK K
        refine kAll_dn _ (fun W hW hF => kStep_of fun K Q hK => ?_) (fun K hK => ?_)
        · go_simp
          refine (may_any (a, i) W).mono ?_
          rintro e w' ⟨rfl, hk⟩
          rw [HM.out]
          exact hK _ _ hk rfl
        go_simp
        generalize hZ : (Act.mk _ _) = Z
        refine hK Z ?_
        subst hZ
        clear hK K
        refine kAll_p (fun K hK => ?_)
        go_simp
        generalize hZ : (Act.mk _ _) = Z
        refine hK Z ?_
        subst hZ
        clear hK K
        refine kAll_p (fun K hK => ?_)
        go_simp
        generalize hZ : (Act.mk _ _) = Z
        refine hK Z ?_
        subst hZ
        clear hK K
        refine kAll_skip (by kernel_rfl) ?_
        refine kAll_skip (by kernel_rfl) ?_
        refine kAll_skip (by kernel_rfl) ?_
        refine kAll_p (fun K hK => ?_)
        go_simp
        generalize hZ : (Act.mk _ _) = Z
        refine hK Z ?_
        subst hZ
        clear hK K
        refine kAll_p (fun K hK => ?_)
        go_simp
        generalize hZ : (Act.mk _ _) = Z
        refine hK Z ?_
        subst hZ
        clear hK K
        refine kAll_skip (by kernel_rfl) ?_
        refine kAll_skip (by kernel_rfl) ?_
        refine kAll_skip (by kernel_rfl) ?_
        refine kAll_p (fun K hK => ?_)
        go_simp
        generalize hZ : (Act.mk _ _) = Z
        refine hK Z ?_
        subst hZ
        clear hK K
        refine kAll_p (fun K hK => ?_)
        go_simp
        generalize hZ : (Act.mk _ _) = Z
        refine hK Z ?_
        subst hZ
        clear hK K
        refine kAll_skip (by kernel_rfl) ?_
        refine kAll_skip (by kernel_rfl) ?_
        refine kAll_skip (by kernel_rfl) ?_
        refine kAll_skip (by kernel_rfl) ?_
        refine kAll_skip (by kernel_rfl) ?_
        refine kAll_skip (by kernel_rfl) ?_
        refine kAll_skip (by kernel_rfl) ?_
        refine kAll_skip (by kernel_rfl) ?_
        refine kAll_skip (by kernel_rfl) ?_
        refine kAll_skip (by kernel_rfl) ?_
        refine kAll_skip (by kernel_rfl) ?_
        refine kAll_skip (by kernel_rfl) ?_
        refine kAll_skip (by kernel_rfl) ?_
        refine kAll_skip (by kernel_rfl) ?_
        refine kAll_p (fun K hK => ?_)
        go_simp
        generalize hZ : (Act.mk _ _) = Z
        refine hK Z ?_
        subst hZ
        clear hK K
        refine kAll_nil (fun W hW hF => ?_)
        clear hF
        have HW := Lib.hid (keepD KX.out hW)
        clear hW
        go_wp2
        go_ret
        exact ⟨ret_bool HB.out.symm, keep0_trans _ _ _ HK.out HW.out⟩
      · have HM := Lib.hid hM
        by_cases h1 : m < 1
        · have hs1 : decide (m < 1) = true := decide_eq_true h1
          have HB := Lib.hid (HFL.out (by rw [HO.out, hM, decide_eq_false (by omega)]; rfl))
          clear hM
          go_wp2_with fail
          refine wp_region_krip (Keep (fun _ => False)) (Keep.refl _) keep0_trans 30 (by kernel_rfl) (by kernel_rfl) (Ts := [none, some (.inl (idV (a, i))), some (.inl (.bool true)), none, none, none, some (.inl (.int .i64 m)), none, none, none, none, none, none, none, none, none, none, none, none, none, none, none, none, none, none, none, none, none, none, none]) ?_
          simp only [List.take, List.drop]
          refine kAll_p (fun K hK => ?_)
          go_simp
          generalize hZ : (Act.mk _ _) = Z
          refine hK Z ?_
          subst hZ
          clear hK K
          refine kAll_dn _ (fun W hW hF => kStep_of fun K Q hK => ?_) (fun K hK => ?_)
          · have c0 := (BX.out.drew.keep hW (fun h => h)).cell 0
            have c1 := (BX.out.drew.keep hW (fun h => h)).cell 1
            have c2 := (BX.out.drew.keep hW (fun h => h)).cell 2
            simp at c0 c1 c2
            go_simp
            exact hK _ _ (Keep.refl _ _) rfl
          go_simp
          generalize hZ : (Act.mk _ _) = Z
          refine hK Z ?_
          subst hZ
          clear hK K
          refine kAll_dn _ (fun W hW hF => kStep_of fun K Q hK => ?_) (fun K hK => ?_)
          · go_simp
            refine (may_any (a, i) W).mono ?_
            rintro e w' ⟨rfl, hk⟩
            rw [HM.out]
            exact hK _ _ hk rfl
          go_simp
          generalize hZ : (Act.mk _ _) = Z
          refine hK Z ?_
          subst hZ
          clear hK K
          refine kAll_p (fun K hK => ?_)
          go_simp
          generalize hZ : (Act.mk _ _) = Z
          refine hK Z ?_
          subst hZ
          clear hK K
          refine kAll_p (fun K hK => ?_)
          go_simp
          generalize hZ : (Act.mk _ _) = Z
          refine hK Z ?_
          subst hZ
          clear hK K
          refine kAll_pw (by kernel_rfl) (fun K hK => ?_)
          go_simp
          generalize hZ : (Act.mk _ _) = Z
          refine hK Z ?_
          subst hZ
          clear hK K
          refine kAll_dn _ (fun W hW hF => kStep_w (by kernel_rfl) fun K Q hK => ?_) (fun K hK => ?_)
          · have c0 := (BX.out.drew.keep hW (fun h => h)).cell 0
            have c1 := (BX.out.drew.keep hW (fun h => h)).cell 1
            have c2 := (BX.out.drew.keep hW (fun h => h)).cell 2
            simp at c0 c1 c2
            go_simp
            exact hK _ _ (Keep.refl _ _) rfl
          go_simp
          generalize hZ : (Act.mk _ _) = Z
          refine hK Z ?_
          subst hZ
          clear hK K
          refine kAll_pw (by kernel_rfl) (fun K hK => ?_)
          go_simp
          generalize hZ : (Act.mk _ _) = Z
          refine hK Z ?_
          subst hZ
          clear hK K
          refine kAll_p (fun K hK => ?_)
          go_simp
          generalize hZ : (Act.mk _ _) = Z
          refine hK Z ?_
          subst hZ
          clear hK K
          refine kAll_p (fun K hK => ?_)
          go_simp
          generalize hZ : (Act.mk _ _) = Z
          refine hK Z ?_
          subst hZ
          clear hK K
          refine kAll_skip (by kernel_rfl) ?_
          refine kAll_skip (by kernel_rfl) ?_
          refine kAll_skip (by kernel_rfl) ?_
          refine kAll_p (fun K hK => ?_)
          go_simp
          generalize hZ : (Act.mk _ _) = Z
          refine hK Z ?_
          subst hZ
          clear hK K
          refine kAll_p (fun K hK => ?_)
          go_simp
          generalize hZ : (Act.mk _ _) = Z
          refine hK Z ?_
          subst hZ
          clear hK K
          refine kAll_skip (by kernel_rfl) ?_
          refine kAll_skip (by kernel_rfl) ?_
          refine kAll_skip (by kernel_rfl) ?_
          refine kAll_skip (by kernel_rfl) ?_
          refine kAll_skip (by kernel_rfl) ?_
          refine kAll_skip (by kernel_rfl) ?_
          refine kAll_skip (by kernel_rfl) ?_
          refine kAll_skip (by kernel_rfl) ?_
          refine kAll_skip (by kernel_rfl) ?_
          refine kAll_skip (by kernel_rfl) ?_
          refine kAll_skip (by kernel_rfl) ?_
          refine kAll_skip (by kernel_rfl) ?_
          refine kAll_skip (by kernel_rfl) ?_
          refine kAll_skip (by kernel_rfl) ?_
          refine kAll_p (fun K hK => ?_)
          go_simp
          generalize hZ : (Act.mk _ _) = Z
          refine hK Z ?_
          subst hZ
          clear hK K
          refine kAll_nil (fun W hW hF => ?_)
          clear hF
          have HW := Lib.hid (keepD KX.out hW)
          clear hW
          go_wp2
          go_ret
          exact ⟨ret_bool HB.out.symm, keep0_trans _ _ _ HK.out HW.out⟩
        · have hs1 : decide (m < 1) = false := decide_eq_false h1
          by_cases h6 : 1099511627776 < m
          · have hs6 : decide (1099511627776 < m) = true := decide_eq_true h6
            have HB := Lib.hid (HFL.out (by rw [HO.out, hM, decide_eq_false (by omega)]; rfl))
            clear hM
            go_wp2_with fail
            refine wp_region_krip (Keep (fun _ => False)) (Keep.refl _) keep0_trans 30 (by kernel_rfl) (by kernel_rfl) (Ts := [none, some (.inl (idV (a, i))), some (.inl (.bool true)), none, none, none, some (.inl (.int .i64 m)), none, none, none, none, some (.inl (.int .i64 m)), none, none, none, none, none, none, none, none, none, none, none, none, none, none, none, none, none, none]) ?_
            simp only [List.take, List.drop]
            refine kAll_p (fun K hK => ?_)
            go_simp
            generalize hZ : (Act.mk _ _) = Z
            refine hK Z ?_
            subst hZ
            clear hK K
            refine kAll_dn _ (fun W hW hF => kStep_of fun K Q hK => ?_) (fun K hK => ?_)
            · have c0 := (BX.out.drew.keep hW (fun h => h)).cell 0
              have c1 := (BX.out.drew.keep hW (fun h => h)).cell 1
              have c2 := (BX.out.drew.keep hW (fun h => h)).cell 2
              simp at c0 c1 c2
              go_simp
              exact hK _ _ (Keep.refl _ _) rfl
            go_simp
            generalize hZ : (Act.mk _ _) = Z
            refine hK Z ?_
            subst hZ
            clear hK K
            refine kAll_dn _ (fun W hW hF => kStep_of fun K Q hK => ?_) (fun K hK => ?_)
            · go_simp
              refine (may_any (a, i) W).mono ?_
              rintro e w' ⟨rfl, hk⟩
              rw [HM.out]
              exact hK _ _ hk rfl
            go_simp
            generalize hZ : (Act.mk _ _) = Z
            refine hK Z ?_
            subst hZ
            clear hK K
            refine kAll_p (fun K hK => ?_)
            go_simp
            generalize hZ : (Act.mk _ _) = Z
            refine hK Z ?_
            subst hZ
            clear hK K
            refine kAll_p (fun K hK => ?_)
            go_simp
            generalize hZ : (Act.mk _ _) = Z
            refine hK Z ?_
            subst hZ
            clear hK K
            refine kAll_pw (by kernel_rfl) (fun K hK => ?_)
            go_simp
            generalize hZ : (Act.mk _ _) = Z
            refine hK Z ?_
            subst hZ
            clear hK K
            refine kAll_dn _ (fun W hW hF => kStep_w (by kernel_rfl) fun K Q hK => ?_) (fun K hK => ?_)
            · have c0 := (BX.out.drew.keep hW (fun h => h)).cell 0
              have c1 := (BX.out.drew.keep hW (fun h => h)).cell 1
              have c2 := (BX.out.drew.keep hW (fun h => h)).cell 2
              simp at c0 c1 c2
              go_simp
              exact hK _ _ (Keep.refl _ _) rfl
            go_simp
            generalize hZ : (Act.mk _ _) = Z
            refine hK Z ?_
            subst hZ
            clear hK K
            refine kAll_pw (by kernel_rfl) (fun K hK => ?_)
            go_simp
            generalize hZ : (Act.mk _ _) = Z
            refine hK Z ?_
            subst hZ
            clear hK K
            refine kAll_p (fun K hK => ?_)
            go_simp
            generalize hZ : (Act.mk _ _) = Z
            refine hK Z ?_
            subst hZ
            clear hK K
            refine kAll_p (fun K hK => ?_)
            go_simp
            generalize hZ : (Act.mk _ _) = Z
            refine hK Z ?_
            subst hZ
            clear hK K
            refine kAll_pw (by kernel_rfl) (fun K hK => ?_)
            go_simp
            generalize hZ : (Act.mk _ _) = Z
            refine hK Z ?_
            subst hZ
            clear hK K
            refine kAll_dn _ (fun W hW hF => kStep_w (by kernel_rfl) fun K Q hK => ?_) (fun K hK => ?_)
            · have c0 := (BX.out.drew.keep hW (fun h => h)).cell 0
              have c1 := (BX.out.drew.keep hW (fun h => h)).cell 1
              have c2 := (BX.out.drew.keep hW (fun h => h)).cell 2
              simp at c0 c1 c2
              go_simp
              exact hK _ _ (Keep.refl _ _) rfl
            go_simp
            generalize hZ : (Act.mk _ _) = Z
            refine hK Z ?_
            subst hZ
            clear hK K
            refine kAll_pw (by kernel_rfl) (fun K hK => ?_)
            go_simp
            generalize hZ : (Act.mk _ _) = Z
            refine hK Z ?_
            subst hZ
            clear hK K
            refine kAll_p (fun K hK => ?_)
            go_simp
            generalize hZ : (Act.mk _ _) = Z
            refine hK Z ?_
            subst hZ
            clear hK K
            refine kAll_p (fun K hK => ?_)
            go_simp
            generalize hZ : (Act.mk _ _) = Z
            refine hK Z ?_
            subst hZ
            clear hK K
            refine kAll_skip (by kernel_rfl) ?_
            refine kAll_skip (by kernel_rfl) ?_
            refine kAll_skip (by kernel_rfl) ?_
            refine kAll_skip (by kernel_rfl) ?_
            refine kAll_skip (by kernel_rfl) ?_
            refine kAll_skip (by kernel_rfl) ?_
            refine kAll_skip (by kernel_rfl) ?_
            refine kAll_skip (by kernel_rfl) ?_
            refine kAll_skip (by kernel_rfl) ?_
            refine kAll_skip (by kernel_rfl) ?_
            refine kAll_skip (by kernel_rfl) ?_
            refine kAll_skip (by kernel_rfl) ?_
            refine kAll_skip (by kernel_rfl) ?_
            refine kAll_skip (by kernel_rfl) ?_
            refine kAll_p (fun K hK => ?_)
            go_simp
            generalize hZ : (Act.mk _ _) = Z
            refine hK Z ?_
            subst hZ
            clear hK K
            refine kAll_nil (fun W hW hF => ?_)
            clear hF
            have HW := Lib.hid (keepD KX.out hW)
            clear hW
            go_wp2
            go_ret
            exact ⟨ret_bool HB.out.symm, keep0_trans _ _ _ HK.out HW.out⟩
          · have hs6 : decide (1099511627776 < m) = false := decide_eq_false h6
            have hS : decide (1 ≤ m ∧ m ≤ 1099511627776) = true := decide_eq_true (by omega)
            rw [hM, hS] at HO
            clear hM hS
            by_cases h0 : k = 0
            · have HE := Lib.hid (show okT l k = true by rw [HO.out, decide_eq_true h0]; rfl)
              subst h0
              simp only [Nat.zero_mul, Nat.add_zero] at q0 q1 q2
              go_wp2_with fail
              refine wp_region_krip (Keep (fun _ => False)) (Keep.refl _) keep0_trans 30 (by kernel_rfl) (by kernel_rfl) (Ts := [none, some (.inl (idV (a, i))), some (.inl (.bool true)), none, none, none, some (.inl (.int .i64 m)), none, none, none, none, some (.inl (.int .i64 m)), none, none, none, none, none, none, none, none, none, none, none, none, none, none, none, none, none, none]) ?_
              simp only [List.take, List.drop]
              refine kAll_p (fun K hK => ?_)
              go_simp
              generalize hZ : (Act.mk _ _) = Z
              refine hK Z ?_
              subst hZ
              clear hK K
              refine kAll_dn _ (fun W hW hF => kStep_of fun K Q hK => ?_) (fun K hK => ?_)
              · have c0 := (BX.out.drew.keep hW (fun h => h)).cell 0
                have c1 := (BX.out.drew.keep hW (fun h => h)).cell 1
                have c2 := (BX.out.drew.keep hW (fun h => h)).cell 2
                simp at c0 c1 c2
                go_simp
                exact hK _ _ (Keep.refl _ _) rfl
              go_simp
              generalize hZ : (Act.mk _ _) = Z
              refine hK Z ?_
              subst hZ
              clear hK K
              refine kAll_dn _ (fun W hW hF => kStep_of fun K Q hK => ?_) (fun K hK => ?_)
              · go_simp
                refine (may_any (a, i) W).mono ?_
                rintro e w' ⟨rfl, hk⟩
                rw [HM.out]
                exact hK _ _ hk rfl
              go_simp
              generalize hZ : (Act.mk _ _) = Z
              refine hK Z ?_
              subst hZ
              clear hK K
              refine kAll_p (fun K hK => ?_)
              go_simp
              generalize hZ : (Act.mk _ _) = Z
              refine hK Z ?_
              subst hZ
              clear hK K
              refine kAll_p (fun K hK => ?_)
              go_simp
              generalize hZ : (Act.mk _ _) = Z
              refine hK Z ?_
              subst hZ
              clear hK K
              refine kAll_pw (by kernel_rfl) (fun K hK => ?_)
              go_simp
              generalize hZ : (Act.mk _ _) = Z
              refine hK Z ?_
              subst hZ
              clear hK K
              refine kAll_dn _ (fun W hW hF => kStep_w (by kernel_rfl) fun K Q hK => ?_) (fun K hK => ?_)
              · have c0 := (BX.out.drew.keep hW (fun h => h)).cell 0
                have c1 := (BX.out.drew.keep hW (fun h => h)).cell 1
                have c2 := (BX.out.drew.keep hW (fun h => h)).cell 2
                simp at c0 c1 c2
                go_simp
                exact hK _ _ (Keep.refl _ _) rfl
              go_simp
              generalize hZ : (Act.mk _ _) = Z
              refine hK Z ?_
              subst hZ
              clear hK K
              refine kAll_pw (by kernel_rfl) (fun K hK => ?_)
              go_simp
              generalize hZ : (Act.mk _ _) = Z
              refine hK Z ?_
              subst hZ
              clear hK K
              refine kAll_p (fun K hK => ?_)
              go_simp
              generalize hZ : (Act.mk _ _) = Z
              refine hK Z ?_
              subst hZ
              clear hK K
              refine kAll_p (fun K hK => ?_)
              go_simp
              generalize hZ : (Act.mk _ _) = Z
              refine hK Z ?_
              subst hZ
              clear hK K
              refine kAll_pw (by kernel_rfl) (fun K hK => ?_)
              go_simp
              generalize hZ : (Act.mk _ _) = Z
              refine hK Z ?_
              subst hZ
              clear hK K
              refine kAll_dn _ (fun W hW hF => kStep_w (by kernel_rfl) fun K Q hK => ?_) (fun K hK => ?_)
              · have c0 := (BX.out.drew.keep hW (fun h => h)).cell 0
                have c1 := (BX.out.drew.keep hW (fun h => h)).cell 1
                have c2 := (BX.out.drew.keep hW (fun h => h)).cell 2
                simp at c0 c1 c2
                go_simp
                exact hK _ _ (Keep.refl _ _) rfl
              go_simp
              generalize hZ : (Act.mk _ _) = Z
              refine hK Z ?_
              subst hZ
              clear hK K
              refine kAll_pw (by kernel_rfl) (fun K hK => ?_)
              go_simp
              generalize hZ : (Act.mk _ _) = Z
              refine hK Z ?_
              subst hZ
              clear hK K
              refine kAll_p (fun K hK => ?_)
              go_simp
              generalize hZ : (Act.mk _ _) = Z
              refine hK Z ?_
              subst hZ
              clear hK K
              refine kAll_p (fun K hK => ?_)
              go_simp
              generalize hZ : (Act.mk _ _) = Z
              refine hK Z ?_
              subst hZ
              clear hK K
              refine kAll_pw (by kernel_rfl) (fun K hK => ?_)
              go_simp
              generalize hZ : (Act.mk _ _) = Z
              refine hK Z ?_
              subst hZ
              clear hK K
              refine kAll_pw (by kernel_rfl) (fun K hK => ?_)
              go_simp
              generalize hZ : (Act.mk _ _) = Z
              refine hK Z ?_
              subst hZ
              clear hK K
              refine kAll_pw (by kernel_rfl) (fun K hK => ?_)
              go_simp
              generalize hZ : (Act.mk _ _) = Z
              refine hK Z ?_
              subst hZ
              clear hK K
              refine kAll_skip (by kernel_rfl) ?_
              refine kAll_skip (by kernel_rfl) ?_
              refine kAll_skip (by kernel_rfl) ?_
              refine kAll_skip (by kernel_rfl) ?_
              refine kAll_skip (by kernel_rfl) ?_
              refine kAll_skip (by kernel_rfl) ?_
              refine kAll_skip (by kernel_rfl) ?_
              refine kAll_skip (by kernel_rfl) ?_
              refine kAll_skip (by kernel_rfl) ?_
              refine kAll_skip (by kernel_rfl) ?_
              refine kAll_pw (by kernel_rfl) (fun K hK => ?_)
              go_simp
              generalize hZ : (Act.mk _ _) = Z
              refine hK Z ?_
              subst hZ
              clear hK K
              refine kAll_p (fun K hK => ?_)
              go_simp
              generalize hZ : (Act.mk _ _) = Z
              refine hK Z ?_
              subst hZ
              clear hK K
              refine kAll_nil (fun W hW hF => ?_)
              clear hF
              have HW := Lib.hid (keepD KX.out hW)
              clear hW
              go_wp2
              go_roundw
              case rel => exact ⟨1, by omega, by go_num, Lib.hid (allT_snoc HA.out HE.out), Lib.hid (keep0_trans _ _ _ HK.out HW.out)⟩
              case measure => simp [intOf]; omega
            · have hk0 : 0 < k := by omega
              have HP := Lib.hid (HPR.out hk0)
              have hkI : (0 : Int) < (k : Int) := by omega
              have hk1 : (1 : Int) ≤ (k : Int) := by omega
              have hkJ : (0 : Int) ≤ (k : Int) - 1 := by omega
              have hkK : (k : Int) - 1 < (n : Int) := by omega
              have hkT : ((k : Int) - 1).toNat = k - 1 := by omega
              have hkW : IntKind.i64.wrap ((k : Int) - 1) = (k : Int) - 1 := IntWalk.i64_in _ (by omega)
              have hkD : decide ((0 : Int) < (k : Int)) = true := decide_eq_true hkI
              cases hp : ltID (pa, pi) (a, i)
              · have HLT := Lib.hid hp
                have HB := Lib.hid (HFL.out (by rw [HO.out, decide_eq_false h0, hp]; rfl))
                clear h0 hp
                go_wp2_with fail
                refine wp_region_krip (Keep (fun _ => False)) (Keep.refl _) keep0_trans 30 (by kernel_rfl) (by kernel_rfl) (Ts := [none, some (.inl (idV (a, i))), some (.inl (.bool true)), none, none, none, some (.inl (.int .i64 m)), none, none, none, none, some (.inl (.int .i64 m)), none, none, none, none, none, none, none, none, none, none, none, some (.inl (idV (pa, pi))), none, some (.inl (idV (a, i))), some (.inl (.bool false)), none, none, none]) ?_
                simp only [List.take, List.drop]
                refine kAll_p (fun K hK => ?_)
                go_simp
                generalize hZ : (Act.mk _ _) = Z
                refine hK Z ?_
                subst hZ
                clear hK K
                refine kAll_dn _ (fun W hW hF => kStep_of fun K Q hK => ?_) (fun K hK => ?_)
                · have c0 := (BX.out.drew.keep hW (fun h => h)).cell 0
                  have c1 := (BX.out.drew.keep hW (fun h => h)).cell 1
                  have c2 := (BX.out.drew.keep hW (fun h => h)).cell 2
                  simp at c0 c1 c2
                  go_simp
                  exact hK _ _ (Keep.refl _ _) rfl
                go_simp
                generalize hZ : (Act.mk _ _) = Z
                refine hK Z ?_
                subst hZ
                clear hK K
                refine kAll_dn _ (fun W hW hF => kStep_of fun K Q hK => ?_) (fun K hK => ?_)
                · go_simp
                  refine (may_any (a, i) W).mono ?_
                  rintro e w' ⟨rfl, hk⟩
                  rw [HM.out]
                  exact hK _ _ hk rfl
                go_simp
                generalize hZ : (Act.mk _ _) = Z
                refine hK Z ?_
                subst hZ
                clear hK K
                refine kAll_p (fun K hK => ?_)
                go_simp
                generalize hZ : (Act.mk _ _) = Z
                refine hK Z ?_
                subst hZ
                clear hK K
                refine kAll_p (fun K hK => ?_)
                go_simp
                generalize hZ : (Act.mk _ _) = Z
                refine hK Z ?_
                subst hZ
                clear hK K
                refine kAll_pw (by kernel_rfl) (fun K hK => ?_)
                go_simp
                generalize hZ : (Act.mk _ _) = Z
                refine hK Z ?_
                subst hZ
                clear hK K
                refine kAll_dn _ (fun W hW hF => kStep_w (by kernel_rfl) fun K Q hK => ?_) (fun K hK => ?_)
                · have c0 := (BX.out.drew.keep hW (fun h => h)).cell 0
                  have c1 := (BX.out.drew.keep hW (fun h => h)).cell 1
                  have c2 := (BX.out.drew.keep hW (fun h => h)).cell 2
                  simp at c0 c1 c2
                  go_simp
                  exact hK _ _ (Keep.refl _ _) rfl
                go_simp
                generalize hZ : (Act.mk _ _) = Z
                refine hK Z ?_
                subst hZ
                clear hK K
                refine kAll_pw (by kernel_rfl) (fun K hK => ?_)
                go_simp
                generalize hZ : (Act.mk _ _) = Z
                refine hK Z ?_
                subst hZ
                clear hK K
                refine kAll_p (fun K hK => ?_)
                go_simp
                generalize hZ : (Act.mk _ _) = Z
                refine hK Z ?_
                subst hZ
                clear hK K
                refine kAll_p (fun K hK => ?_)
                go_simp
                generalize hZ : (Act.mk _ _) = Z
                refine hK Z ?_
                subst hZ
                clear hK K
                refine kAll_pw (by kernel_rfl) (fun K hK => ?_)
                go_simp
                generalize hZ : (Act.mk _ _) = Z
                refine hK Z ?_
                subst hZ
                clear hK K
                refine kAll_dn _ (fun W hW hF => kStep_w (by kernel_rfl) fun K Q hK => ?_) (fun K hK => ?_)
                · have c0 := (BX.out.drew.keep hW (fun h => h)).cell 0
                  have c1 := (BX.out.drew.keep hW (fun h => h)).cell 1
                  have c2 := (BX.out.drew.keep hW (fun h => h)).cell 2
                  simp at c0 c1 c2
                  go_simp
                  exact hK _ _ (Keep.refl _ _) rfl
                go_simp
                generalize hZ : (Act.mk _ _) = Z
                refine hK Z ?_
                subst hZ
                clear hK K
                refine kAll_pw (by kernel_rfl) (fun K hK => ?_)
                go_simp
                generalize hZ : (Act.mk _ _) = Z
                refine hK Z ?_
                subst hZ
                clear hK K
                refine kAll_p (fun K hK => ?_)
                go_simp
                generalize hZ : (Act.mk _ _) = Z
                refine hK Z ?_
                subst hZ
                clear hK K
                refine kAll_p (fun K hK => ?_)
                go_simp
                generalize hZ : (Act.mk _ _) = Z
                refine hK Z ?_
                subst hZ
                clear hK K
                refine kAll_pw (by kernel_rfl) (fun K hK => ?_)
                go_simp
                generalize hZ : (Act.mk _ _) = Z
                refine hK Z ?_
                subst hZ
                clear hK K
                refine kAll_pw (by kernel_rfl) (fun K hK => ?_)
                go_simp
                generalize hZ : (Act.mk _ _) = Z
                refine hK Z ?_
                subst hZ
                clear hK K
                refine kAll_pw (by kernel_rfl) (fun K hK => ?_)
                go_simp
                generalize hZ : (Act.mk _ _) = Z
                refine hK Z ?_
                subst hZ
                clear hK K
                refine kAll_pw (by kernel_rfl) (fun K hK => ?_)
                go_simp
                generalize hZ : (Act.mk _ _) = Z
                refine hK Z ?_
                subst hZ
                clear hK K
                refine kAll_pw (by kernel_rfl) (fun K hK => ?_)
                go_simp
                generalize hZ : (Act.mk _ _) = Z
                refine hK Z ?_
                subst hZ
                clear hK K
                refine kAll_pw (by kernel_rfl) (fun K hK => ?_)
                go_simp
                generalize hZ : (Act.mk _ _) = Z
                refine hK Z ?_
                subst hZ
                clear hK K
                refine kAll_pw (by kernel_rfl) (fun K hK => ?_)
                go_simp
                generalize hZ : (Act.mk _ _) = Z
                refine hK Z ?_
                subst hZ
                clear hK K
                refine kAll_pw (by kernel_rfl) (fun K hK => ?_)
                go_simp
                generalize hZ : (Act.mk _ _) = Z
                refine hK Z ?_
                subst hZ
                clear hK K
                refine kAll_dn _ (fun W hW hF => kStep_w (by kernel_rfl) fun K Q hK => ?_) (fun K hK => ?_)
                · have hp := HP.out W (keepD KX.out hW)
                  have hp0 := hp.1
                  have hp1 := hp.2
                  clear hp
                  go_simp
                  exact hK _ _ (Keep.refl _ _) rfl
                go_simp
                generalize hZ : (Act.mk _ _) = Z
                refine hK Z ?_
                subst hZ
                clear hK K
                refine kAll_pw (by kernel_rfl) (fun K hK => ?_)
                go_simp
                generalize hZ : (Act.mk _ _) = Z
                refine hK Z ?_
                subst hZ
                clear hK K
                refine kAll_dn _ (fun W hW hF => kStep_w (by kernel_rfl) fun K Q hK => ?_) (fun K hK => ?_)
                · have c0 := (BX.out.drew.keep hW (fun h => h)).cell 0
                  have c1 := (BX.out.drew.keep hW (fun h => h)).cell 1
                  have c2 := (BX.out.drew.keep hW (fun h => h)).cell 2
                  simp at c0 c1 c2
                  go_simp
                  exact hK _ _ (Keep.refl _ _) rfl
                go_simp
                generalize hZ : (Act.mk _ _) = Z
                refine hK Z ?_
                subst hZ
                clear hK K
                refine kAll_dn _ (fun W hW hF => kStep_w (by kernel_rfl) fun K Q hK => ?_) (fun K hK => ?_)
                · go_simp
                  refine (ltID_any (pa, pi) (a, i) W).mono ?_
                  rintro e w' ⟨rfl, hk⟩
                  rw [HLT.out]
                  exact hK _ _ hk rfl
                go_simp
                generalize hZ : (Act.mk _ _) = Z
                refine hK Z ?_
                subst hZ
                clear hK K
                refine kAll_pw (by kernel_rfl) (fun K hK => ?_)
                go_simp
                generalize hZ : (Act.mk _ _) = Z
                refine hK Z ?_
                subst hZ
                clear hK K
                refine kAll_pw (by kernel_rfl) (fun K hK => ?_)
                go_simp
                generalize hZ : (Act.mk _ _) = Z
                refine hK Z ?_
                subst hZ
                clear hK K
                refine kAll_p (fun K hK => ?_)
                go_simp
                generalize hZ : (Act.mk _ _) = Z
                refine hK Z ?_
                subst hZ
                clear hK K
                refine kAll_nil (fun W hW hF => ?_)
                clear hF
                have HW := Lib.hid (keepD KX.out hW)
                clear hW
                go_wp2
                go_ret
                exact ⟨ret_bool HB.out.symm, keep0_trans _ _ _ HK.out HW.out⟩
              · have HLT := Lib.hid hp
                have HE := Lib.hid (show okT l k = true by rw [HO.out, hp]; simp)
                clear h0 hp
                go_wp2_with fail
                refine wp_region_krip (Keep (fun _ => False)) (Keep.refl _) keep0_trans 30 (by kernel_rfl) (by kernel_rfl) (Ts := [none, some (.inl (idV (a, i))), some (.inl (.bool true)), none, none, none, some (.inl (.int .i64 m)), none, none, none, none, some (.inl (.int .i64 m)), none, none, none, none, none, none, none, none, none, none, none, some (.inl (idV (pa, pi))), none, some (.inl (idV (a, i))), some (.inl (.bool true)), none, none, none]) ?_
                simp only [List.take, List.drop]
                refine kAll_p (fun K hK => ?_)
                go_simp
                generalize hZ : (Act.mk _ _) = Z
                refine hK Z ?_
                subst hZ
                clear hK K
                refine kAll_dn _ (fun W hW hF => kStep_of fun K Q hK => ?_) (fun K hK => ?_)
                · have c0 := (BX.out.drew.keep hW (fun h => h)).cell 0
                  have c1 := (BX.out.drew.keep hW (fun h => h)).cell 1
                  have c2 := (BX.out.drew.keep hW (fun h => h)).cell 2
                  simp at c0 c1 c2
                  go_simp
                  exact hK _ _ (Keep.refl _ _) rfl
                go_simp
                generalize hZ : (Act.mk _ _) = Z
                refine hK Z ?_
                subst hZ
                clear hK K
                refine kAll_dn _ (fun W hW hF => kStep_of fun K Q hK => ?_) (fun K hK => ?_)
                · go_simp
                  refine (may_any (a, i) W).mono ?_
                  rintro e w' ⟨rfl, hk⟩
                  rw [HM.out]
                  exact hK _ _ hk rfl
                go_simp
                generalize hZ : (Act.mk _ _) = Z
                refine hK Z ?_
                subst hZ
                clear hK K
                refine kAll_p (fun K hK => ?_)
                go_simp
                generalize hZ : (Act.mk _ _) = Z
                refine hK Z ?_
                subst hZ
                clear hK K
                refine kAll_p (fun K hK => ?_)
                go_simp
                generalize hZ : (Act.mk _ _) = Z
                refine hK Z ?_
                subst hZ
                clear hK K
                refine kAll_pw (by kernel_rfl) (fun K hK => ?_)
                go_simp
                generalize hZ : (Act.mk _ _) = Z
                refine hK Z ?_
                subst hZ
                clear hK K
                refine kAll_dn _ (fun W hW hF => kStep_w (by kernel_rfl) fun K Q hK => ?_) (fun K hK => ?_)
                · have c0 := (BX.out.drew.keep hW (fun h => h)).cell 0
                  have c1 := (BX.out.drew.keep hW (fun h => h)).cell 1
                  have c2 := (BX.out.drew.keep hW (fun h => h)).cell 2
                  simp at c0 c1 c2
                  go_simp
                  exact hK _ _ (Keep.refl _ _) rfl
                go_simp
                generalize hZ : (Act.mk _ _) = Z
                refine hK Z ?_
                subst hZ
                clear hK K
                refine kAll_pw (by kernel_rfl) (fun K hK => ?_)
                go_simp
                generalize hZ : (Act.mk _ _) = Z
                refine hK Z ?_
                subst hZ
                clear hK K
                refine kAll_p (fun K hK => ?_)
                go_simp
                generalize hZ : (Act.mk _ _) = Z
                refine hK Z ?_
                subst hZ
                clear hK K
                refine kAll_p (fun K hK => ?_)
                go_simp
                generalize hZ : (Act.mk _ _) = Z
                refine hK Z ?_
                subst hZ
                clear hK K
                refine kAll_pw (by kernel_rfl) (fun K hK => ?_)
                go_simp
                generalize hZ : (Act.mk _ _) = Z
                refine hK Z ?_
                subst hZ
                clear hK K
                refine kAll_dn _ (fun W hW hF => kStep_w (by kernel_rfl) fun K Q hK => ?_) (fun K hK => ?_)
                · have c0 := (BX.out.drew.keep hW (fun h => h)).cell 0
                  have c1 := (BX.out.drew.keep hW (fun h => h)).cell 1
                  have c2 := (BX.out.drew.keep hW (fun h => h)).cell 2
                  simp at c0 c1 c2
                  go_simp
                  exact hK _ _ (Keep.refl _ _) rfl
                go_simp
                generalize hZ : (Act.mk _ _) = Z
                refine hK Z ?_
                subst hZ
                clear hK K
                refine kAll_pw (by kernel_rfl) (fun K hK => ?_)
                go_simp
                generalize hZ : (Act.mk _ _) = Z
                refine hK Z ?_
                subst hZ
                clear hK K
                refine kAll_p (fun K hK => ?_)
                go_simp
                generalize hZ : (Act.mk _ _) = Z
                refine hK Z ?_
                subst hZ
                clear hK K
                refine kAll_p (fun K hK => ?_)
                go_simp
                generalize hZ : (Act.mk _ _) = Z
                refine hK Z ?_
                subst hZ
                clear hK K
                refine kAll_pw (by kernel_rfl) (fun K hK => ?_)
                go_simp
                generalize hZ : (Act.mk _ _) = Z
                refine hK Z ?_
                subst hZ
                clear hK K
                refine kAll_pw (by kernel_rfl) (fun K hK => ?_)
                go_simp
                generalize hZ : (Act.mk _ _) = Z
                refine hK Z ?_
                subst hZ
                clear hK K
                refine kAll_pw (by kernel_rfl) (fun K hK => ?_)
                go_simp
                generalize hZ : (Act.mk _ _) = Z
                refine hK Z ?_
                subst hZ
                clear hK K
                refine kAll_pw (by kernel_rfl) (fun K hK => ?_)
                go_simp
                generalize hZ : (Act.mk _ _) = Z
                refine hK Z ?_
                subst hZ
                clear hK K
                refine kAll_pw (by kernel_rfl) (fun K hK => ?_)
                go_simp
                generalize hZ : (Act.mk _ _) = Z
                refine hK Z ?_
                subst hZ
                clear hK K
                refine kAll_pw (by kernel_rfl) (fun K hK => ?_)
                go_simp
                generalize hZ : (Act.mk _ _) = Z
                refine hK Z ?_
                subst hZ
                clear hK K
                refine kAll_pw (by kernel_rfl) (fun K hK => ?_)
                go_simp
                generalize hZ : (Act.mk _ _) = Z
                refine hK Z ?_
                subst hZ
                clear hK K
                refine kAll_pw (by kernel_rfl) (fun K hK => ?_)
                go_simp
                generalize hZ : (Act.mk _ _) = Z
                refine hK Z ?_
                subst hZ
                clear hK K
                refine kAll_dn _ (fun W hW hF => kStep_w (by kernel_rfl) fun K Q hK => ?_) (fun K hK => ?_)
                · have hp := HP.out W (keepD KX.out hW)
                  have hp0 := hp.1
                  have hp1 := hp.2
                  clear hp
                  go_simp
                  exact hK _ _ (Keep.refl _ _) rfl
                go_simp
                generalize hZ : (Act.mk _ _) = Z
                refine hK Z ?_
                subst hZ
                clear hK K
                refine kAll_pw (by kernel_rfl) (fun K hK => ?_)
                go_simp
                generalize hZ : (Act.mk _ _) = Z
                refine hK Z ?_
                subst hZ
                clear hK K
                refine kAll_dn _ (fun W hW hF => kStep_w (by kernel_rfl) fun K Q hK => ?_) (fun K hK => ?_)
                · have c0 := (BX.out.drew.keep hW (fun h => h)).cell 0
                  have c1 := (BX.out.drew.keep hW (fun h => h)).cell 1
                  have c2 := (BX.out.drew.keep hW (fun h => h)).cell 2
                  simp at c0 c1 c2
                  go_simp
                  exact hK _ _ (Keep.refl _ _) rfl
                go_simp
                generalize hZ : (Act.mk _ _) = Z
                refine hK Z ?_
                subst hZ
                clear hK K
                refine kAll_dn _ (fun W hW hF => kStep_w (by kernel_rfl) fun K Q hK => ?_) (fun K hK => ?_)
                · go_simp
                  refine (ltID_any (pa, pi) (a, i) W).mono ?_
                  rintro e w' ⟨rfl, hk⟩
                  rw [HLT.out]
                  exact hK _ _ hk rfl
                go_simp
                generalize hZ : (Act.mk _ _) = Z
                refine hK Z ?_
                subst hZ
                clear hK K
                refine kAll_pw (by kernel_rfl) (fun K hK => ?_)
                go_simp
                generalize hZ : (Act.mk _ _) = Z
                refine hK Z ?_
                subst hZ
                clear hK K
                refine kAll_pw (by kernel_rfl) (fun K hK => ?_)
                go_simp
                generalize hZ : (Act.mk _ _) = Z
                refine hK Z ?_
                subst hZ
                clear hK K
                refine kAll_p (fun K hK => ?_)
                go_simp
                generalize hZ : (Act.mk _ _) = Z
                refine hK Z ?_
                subst hZ
                clear hK K
                refine kAll_nil (fun W hW hF => ?_)
                clear hF
                have HW := Lib.hid (keepD KX.out hW)
                clear hW
                go_wp2
                go_roundw
                case rel => exact ⟨k + 1, by omega, by go_num, Lib.hid (allT_snoc HA.out HE.out), Lib.hid (keep0_trans _ _ _ HK.out HW.out)⟩
                case measure => simp [intOf]; omega
    · obtain rfl : n = k := by omega
      have HB := Lib.hid (mayCk_end HL.out HA.out)
      go_wp2
      go_ret
      exact ⟨ret_bool HB.out.symm, HK.out⟩
end Go.Proofs.YtgoldgamjogadaaGreat

namespace Go.Proofs.YtgoldgamjogadaaGreat
open Go.RowKit
set_option maxRecDepth 100000
theorem gMem : Tryz.prog.eqGuardType Tryz.prog.depth 35 = false := by kernel_rfl
theorem eqi_ID (d : Nat) (a i b j : Int) (w : World) : (Op.equalIn (d + 2) 24 (.agg #[.int .i64 a, .int .i64 i]) (.agg #[.int .i64 b, .int .i64 j])).run Tryz.prog w = .ok (decide (a = b ∧ i = j)) w := by
  have u3 := Tryz.underlying3
  have a3 := Tryz.isAgg3
  have z3 := Tryz.sizeOf3
  have hS : Tryz.prog.underlying 24 = some (.struct (Tryz.prog.fieldsOf 24)) := by kernel_rfl
  have hp : Tryz.prog.stoodInHeld 24 = false := by kernel_rfl
  rw [show d + 2 = (d + 1) + 1 from rfl, run_equalIn_agg w (d + 1) 24 _ _ hS hp]
  simp only [Program.fieldsOf, Tryz.underlying24]
  go_simp
  by_cases h1 : a = b <;> by_cases h2 : i = j <;> simp [h1, h2]
theorem eqi_Mem (d : Nat) (x y : Mem) (w : World) : (Op.equalIn (d + 3) 35 (memV x) (memV y)).run Tryz.prog w = .ok (decide (x = y)) w := by
  obtain ⟨a, i, s, n⟩ := x
  obtain ⟨b, j, t, m⟩ := y
  have hI := fun W => eqi_ID d a i b j W
  have u3 := Tryz.underlying3
  have a3 := Tryz.isAgg3
  have z3 := Tryz.sizeOf3
  have u5 := Tryz.underlying5
  have a5 := Tryz.isAgg5
  have z5 := Tryz.sizeOf5
  have aI := Tryz.isAgg24
  have zI := Tryz.sizeOf24
  have hS : Tryz.prog.underlying 35 = some (.struct (Tryz.prog.fieldsOf 35)) := by kernel_rfl
  have hp : Tryz.prog.stoodInHeld 35 = false := by kernel_rfl
  rw [show d + 3 = (d + 2) + 1 from rfl, run_equalIn_agg w (d + 2) 35 _ _ hS hp]
  clear hS hp
  simp only [Program.fieldsOf, Tryz.underlying35]
  go_simp
  by_cases h1 : a = b <;> by_cases h2 : i = j <;> by_cases h3 : s = t <;> by_cases h4 : n = m <;> simp [h1, h2, h3, h4]
theorem neq_Mem (x y : Mem) (w : World) : (binOp .neq 35 (memV x) (memV y)).run Tryz.prog w = .ok (.bool (!decide (x = y))) w := by
  rw [run_neq_struct, show (10000 : Nat) = 9997 + 3 from rfl, eqi_Mem]; rfl

theorem take_eq_succ {α : Type} {l l' : List α} {k : Nat} (h : k < l.length) (h' : k < l'.length) (he : l.take k = l'.take k) (hk : l[k] = l'[k]) : l.take (k + 1) = l'.take (k + 1) := by
  rw [List.take_succ_eq_append_getElem h, List.take_succ_eq_append_getElem h', he, hk]
theorem gTick : Tryz.prog.eqGuardType Tryz.prog.depth 27 = false := by kernel_rfl
theorem eqIn_ID (d : Nat) (p q : ID) (w : World) : (Op.equalIn (d + 2) 24 (idV p) (idV q)).run Tryz.prog w = .ok (decide (p = q)) w := by
  have u3 := Tryz.underlying3
  have a3 := Tryz.isAgg3
  have z3 := Tryz.sizeOf3
  have hS : Tryz.prog.underlying 24 = some (.struct (Tryz.prog.fieldsOf 24)) := by kernel_rfl
  have hp : Tryz.prog.stoodInHeld 24 = false := by kernel_rfl
  obtain ⟨a, i⟩ := p
  obtain ⟨b, j⟩ := q
  rw [run_equalIn_agg w (d + 1) 24 _ _ hS hp]
  simp only [Program.fieldsOf, Tryz.underlying24]
  go_simp
  by_cases h1 : a = b <;> by_cases h2 : i = j <;> simp [h1, h2]
theorem eqIn_T (d : Nat) (p q : Tick) (w : World) : (Op.equalIn (d + 3) 27 (tV p) (tV q)).run Tryz.prog w = .ok (decide (p = q)) w := by
  have u3 := Tryz.underlying3
  have a3 := Tryz.isAgg3
  have z3 := Tryz.sizeOf3
  have hS : Tryz.prog.underlying 27 = some (.struct (Tryz.prog.fieldsOf 27)) := by kernel_rfl
  have hp : Tryz.prog.stoodInHeld 27 = false := by kernel_rfl
  have a2 := Tryz.isAgg24
  have z2 := Tryz.sizeOf24
  obtain ⟨⟨a, i⟩, n⟩ := p
  obtain ⟨⟨b, j⟩, m⟩ := q
  have HI := eqIn_ID d (a, i) (b, j)
  rw [run_equalIn_agg w (d + 2) 27 _ _ hS hp]
  simp only [Program.fieldsOf, Tryz.underlying27]
  simp only [Op.eqFields]
  have P1 : ∀ (x y z : Int) (w : World), (part 24 #[.int .i64 x, .int .i64 y, .int .i64 z] 0).run Tryz.prog w = .ok (idV (x, y)) w := fun x y z w => by
    unfold part
    simp [Sem.run_bind, a2, z2, Result.andThen_ok]
  have P2 : ∀ (x y z : Int) (w : World), (part 3 #[.int .i64 x, .int .i64 y, .int .i64 z] 2).run Tryz.prog w = .ok (.int .i64 z) w := fun x y z w => by
    unfold part
    simp [Sem.run_bind, a3, Result.andThen_ok]
  rw [if_pos (by decide), if_pos (by decide)]
  simp only [Sem.run_bind, P1, Result.andThen_ok, HI]
  by_cases h1 : (a, i) = (b, j)
  · rw [decide_eq_true h1]
    simp only [Bool.not_true, Bool.false_eq_true, if_false, Sem.run_bind, P2, Result.andThen_ok, run_equalIn_int _ (d + 1) 3 .i64 .i64 _ _ u3]
    injection h1 with h1 h1'
    subst h1 h1'
    by_cases h2 : n = m
    · subst h2; simp
    · have h3 : (n == m) = false := by simpa using h2
      simp [h3, h2]
  · rw [decide_eq_false h1]
    simp only [Bool.not_false, if_true, Sem.run_pure]
    rw [decide_eq_false (fun e => h1 (by injection e))]
theorem neq_T (p q : Tick) (w : World) : (binOp .neq 27 (tV p) (tV q)).run Tryz.prog w = .ok (.bool (!decide (p = q))) w := by
  rw [run_neq_struct, show (10000 : Nat) = 9997 + 3 from rfl, eqIn_T]
  rfl
set_option maxHeartbeats 1000000 in
theorem same_ids (A A' : Option Addr) (n n' c c' : Nat) (l l' : List ID) (w : World) (h : RdI w A n l) (h' : RdI w A' n' l') (hn : n ≤ 9223372036854775806) (hn' : n' ≤ 9223372036854775806) :
    Calls Tryz.prog 73 #[.slice A n c, .slice A' n' c'] w (Tell (.bool (decide (l = l'))) w) := by
  have HL := Lib.hid h.1
  have HL' := Lib.hid h'.1
  by_cases hne : n = n'
  · subst hne
    have H := Lib.hid h
    have H' := Lib.hid h'
    clear h h' hn'
    go_enter Tryz.func73, Tryz.ntmps73
    go_wp2
    go_loopw [5] (fun i wr => ∃ k : Nat, k ≤ n ∧ i = .int .i64 (k : Int) ∧ Hid (l.take k = l'.take k) ∧ Hid (∃ q, wr = w.drewN q)) (fun i _ => n - (intOf i).toNat)
    case atStart => exact ⟨0, Nat.zero_le _, rfl, Lib.hid (by simp), Lib.hid ⟨0, rfl⟩⟩
    case round =>
      obtain ⟨k, hk, rfl, HT, HW⟩ := hrel
      obtain ⟨q, rfl⟩ := HW.out
      by_cases hlt : k < n
      · obtain ⟨g, off, rfl, p0, p1⟩ := H.out.at_ hlt
        obtain ⟨g', off', rfl, q0, q1⟩ := H'.out.at_ hlt
        have hkl : k < l.length := by rw [HL.out]; exact hlt
        have hkl' : k < l'.length := by rw [HL'.out]; exact hlt
        have hx : l[k] = l.getD k (0, 0) := by simp [List.getD, hkl]
        have hy : l'[k] = l'.getD k (0, 0) := by simp [List.getD, hkl']
        have HTS := Lib.hid (take_eq_succ hkl hkl' HT.out)
        rw [hx, hy] at HTS
        have HNE := Lib.hid (show l.getD k (0, 0) ≠ l'.getD k (0, 0) → decide (l = l') = false from fun hne => decide_eq_false (fun e => hne (by rw [e])))
        clear hx hy hkl hkl'
        generalize l.getD k (0, 0) = x at *
        generalize l'.getD k (0, 0) = y at *
        obtain ⟨a, i⟩ := x
        obtain ⟨b, j⟩ := y
        simp only at p0 p1 q0 q1
        have hkI : (k : Int) < (n : Int) := by omega
        have hkJ : (0 : Int) ≤ (k : Int) := by omega
        by_cases he : ((a, i) : ID) = (b, j)
        · have HTS2 := Lib.hid (HTS.out he)
          have E := (fun W => by simpa [he] using neq_ID (a, i) (b, j) W : ∀ W, (binOp .neq 24 (idV (a, i)) (idV (b, j))).run Tryz.prog W = .ok (.bool false) W)
          have G := gID
          clear he
          go_wp2
          go_quiet (fail)
          go_wp2
          go_roundw
          case rel => exact ⟨k + 1, by omega, by go_num, HTS2, Lib.hid ⟨_, rfl⟩⟩
          case measure => simp [intOf]; omega
        · have HB := Lib.hid (HNE.out he)
          have E := (fun W => by simpa [he] using neq_ID (a, i) (b, j) W : ∀ W, (binOp .neq 24 (idV (a, i)) (idV (b, j))).run Tryz.prog W = .ok (.bool true) W)
          have G := gID
          clear he
          go_wp2
          go_quiet (fail)
          go_wp2
          go_ret
          exact ⟨ret_bool HB.out.symm, ((Keep.refl _ w).drewN _).drewN _⟩
      · obtain rfl : n = k := by omega
        have HB := Lib.hid (show decide (l = l') = true from decide_eq_true (by
          have := HT.out
          rwa [List.take_of_length_le (by rw [HL.out]; exact Nat.le_refl _), List.take_of_length_le (by rw [HL'.out]; exact Nat.le_refl _)] at this))
        go_wp2
        go_ret
        exact ⟨ret_bool HB.out.symm, (Keep.refl _ w).drewN _⟩
  · have HB := Lib.hid (show decide (l = l') = false from decide_eq_false (fun e => hne (by rw [← HL.out, ← HL'.out, e])))
    have hb : ((n : Int) != (n' : Int)) = true := by simp; omega
    clear hne h h'
    go_enter Tryz.func73, Tryz.ntmps73
    go_wp2
    go_ret
    exact ⟨ret_bool HB.out.symm, Keep.refl _ _⟩
set_option maxHeartbeats 1000000 in
theorem same_mems (A A' : Option Addr) (n n' c c' : Nat) (l l' : List Mem) (w : World) (h : RdMem w A n l) (h' : RdMem w A' n' l') (hn : n ≤ 9223372036854775806) (hn' : n' ≤ 9223372036854775806) :
    Calls Tryz.prog 72 #[.slice A n c, .slice A' n' c'] w (Tell (.bool (decide (l = l'))) w) := by
  have HL := Lib.hid h.1
  have HL' := Lib.hid h'.1
  by_cases hne : n = n'
  · subst hne
    have H := Lib.hid h
    have H' := Lib.hid h'
    clear h h' hn'
    go_enter Tryz.func72, Tryz.ntmps72
    go_wp2
    go_loopw [5] (fun i wr => ∃ k : Nat, k ≤ n ∧ i = .int .i64 (k : Int) ∧ Hid (l.take k = l'.take k) ∧ Hid (∃ q, wr = w.drewN q)) (fun i _ => n - (intOf i).toNat)
    case atStart => exact ⟨0, Nat.zero_le _, rfl, Lib.hid (by simp), Lib.hid ⟨0, rfl⟩⟩
    case round =>
      obtain ⟨k, hk, rfl, HT, HW⟩ := hrel
      obtain ⟨q, rfl⟩ := HW.out
      by_cases hlt : k < n
      · obtain ⟨g, off, rfl, p0, p1, p2, p3⟩ := H.out.at_ hlt
        obtain ⟨g', off', rfl, q0, q1, q2, q3⟩ := H'.out.at_ hlt
        have hkl : k < l.length := by rw [HL.out]; exact hlt
        have hkl' : k < l'.length := by rw [HL'.out]; exact hlt
        have hx : l[k] = l.getD k zeroMem := by simp [List.getD, hkl]
        have hy : l'[k] = l'.getD k zeroMem := by simp [List.getD, hkl']
        have HTS := Lib.hid (take_eq_succ hkl hkl' HT.out)
        rw [hx, hy] at HTS
        have HNE := Lib.hid (show l.getD k zeroMem ≠ l'.getD k zeroMem → decide (l = l') = false from fun hne => decide_eq_false (fun e => hne (by rw [e])))
        clear hx hy hkl hkl'
        generalize l.getD k zeroMem = x at *
        generalize l'.getD k zeroMem = y at *
        obtain ⟨a, i, s, m⟩ := x
        obtain ⟨b, j, t, r⟩ := y
        simp only at p0 p1 p2 p3 q0 q1 q2 q3
        have hkI : (k : Int) < (n : Int) := by omega
        have hkJ : (0 : Int) ≤ (k : Int) := by omega
        by_cases he : (⟨a, i, s, m⟩ : Mem) = ⟨b, j, t, r⟩
        · have HTS2 := Lib.hid (HTS.out he)
          have E := (fun W => by simpa [he] using neq_Mem ⟨a, i, s, m⟩ ⟨b, j, t, r⟩ W : ∀ W, (binOp .neq 35 (memV ⟨a, i, s, m⟩) (memV ⟨b, j, t, r⟩)).run Tryz.prog W = .ok (.bool false) W)
          have G := gMem
          clear he
          go_wp2
          go_quiet (fail)
          go_wp2
          go_roundw
          case rel => exact ⟨k + 1, by omega, by go_num, HTS2, Lib.hid ⟨_, rfl⟩⟩
          case measure => simp [intOf]; omega
        · have HB := Lib.hid (HNE.out he)
          have E := (fun W => by simpa [he] using neq_Mem ⟨a, i, s, m⟩ ⟨b, j, t, r⟩ W : ∀ W, (binOp .neq 35 (memV ⟨a, i, s, m⟩) (memV ⟨b, j, t, r⟩)).run Tryz.prog W = .ok (.bool true) W)
          have G := gMem
          clear he
          go_wp2
          go_quiet (fail)
          go_wp2
          go_ret
          exact ⟨ret_bool HB.out.symm, ((Keep.refl _ w).drewN _).drewN _⟩
      · obtain rfl : n = k := by omega
        have HB := Lib.hid (show decide (l = l') = true from decide_eq_true (by
          have := HT.out
          rwa [List.take_of_length_le (by rw [HL.out]; exact Nat.le_refl _), List.take_of_length_le (by rw [HL'.out]; exact Nat.le_refl _)] at this))
        go_wp2
        go_ret
        exact ⟨ret_bool HB.out.symm, (Keep.refl _ w).drewN _⟩
  · have HB := Lib.hid (show decide (l = l') = false from decide_eq_false (fun e => hne (by rw [← HL.out, ← HL'.out, e])))
    have hb : ((n : Int) != (n' : Int)) = true := by simp; omega
    clear hne h h'
    go_enter Tryz.func72, Tryz.ntmps72
    go_wp2
    go_ret
    exact ⟨ret_bool HB.out.symm, Keep.refl _ _⟩
set_option maxHeartbeats 1000000 in
theorem same_ticks (A A' : Option Addr) (n n' c c' : Nat) (l l' : List Tick) (w : World) (h : RdT w A n l) (h' : RdT w A' n' l') (hn : n ≤ 9223372036854775806) (hn' : n' ≤ 9223372036854775806) :
    Calls Tryz.prog 74 #[.slice A n c, .slice A' n' c'] w (Tell (.bool (decide (l = l'))) w) := by
  have HL := Lib.hid h.1
  have HL' := Lib.hid h'.1
  by_cases hne : n = n'
  · subst hne
    have H := Lib.hid h
    have H' := Lib.hid h'
    clear h h' hn'
    go_enter Tryz.func74, Tryz.ntmps74
    go_wp2
    go_loopw [5] (fun i wr => ∃ k : Nat, k ≤ n ∧ i = .int .i64 (k : Int) ∧ Hid (l.take k = l'.take k) ∧ Hid (∃ q, wr = w.drewN q)) (fun i _ => n - (intOf i).toNat)
    case atStart => exact ⟨0, Nat.zero_le _, rfl, Lib.hid (by simp), Lib.hid ⟨0, rfl⟩⟩
    case round =>
      obtain ⟨k, hk, rfl, HT, HW⟩ := hrel
      obtain ⟨q, rfl⟩ := HW.out
      by_cases hlt : k < n
      · obtain ⟨g, off, rfl, p0, p1, p2⟩ := H.out.at_ hlt
        obtain ⟨g', off', rfl, q0, q1, q2⟩ := H'.out.at_ hlt
        have hkl : k < l.length := by rw [HL.out]; exact hlt
        have hkl' : k < l'.length := by rw [HL'.out]; exact hlt
        have hx : l[k] = l.getD k tick0 := by simp [List.getD, hkl]
        have hy : l'[k] = l'.getD k tick0 := by simp [List.getD, hkl']
        have HTS := Lib.hid (take_eq_succ hkl hkl' HT.out)
        rw [hx, hy] at HTS
        have HNE := Lib.hid (show l.getD k tick0 ≠ l'.getD k tick0 → decide (l = l') = false from fun hne => decide_eq_false (fun e => hne (by rw [e])))
        clear hx hy hkl hkl'
        generalize l.getD k tick0 = x at *
        generalize l'.getD k tick0 = y at *
        obtain ⟨⟨a, i⟩, m⟩ := x
        obtain ⟨⟨b, j⟩, r⟩ := y
        simp only at p0 p1 p2 q0 q1 q2
        have hkI : (k : Int) < (n : Int) := by omega
        have hkJ : (0 : Int) ≤ (k : Int) := by omega
        by_cases he : (((a, i), m) : Tick) = ((b, j), r)
        · have HTS2 := Lib.hid (HTS.out he)
          have E := (fun W => by simpa [he] using neq_T ((a, i), m) ((b, j), r) W : ∀ W, (binOp .neq 27 (tV ((a, i), m)) (tV ((b, j), r))).run Tryz.prog W = .ok (.bool false) W)
          have G := gTick
          clear he
          go_wp2
          go_quiet (fail)
          go_wp2
          go_roundw
          case rel => exact ⟨k + 1, by omega, by go_num, HTS2, Lib.hid ⟨_, rfl⟩⟩
          case measure => simp [intOf]; omega
        · have HB := Lib.hid (HNE.out he)
          have E := (fun W => by simpa [he] using neq_T ((a, i), m) ((b, j), r) W : ∀ W, (binOp .neq 27 (tV ((a, i), m)) (tV ((b, j), r))).run Tryz.prog W = .ok (.bool true) W)
          have G := gTick
          clear he
          go_wp2
          go_quiet (fail)
          go_wp2
          go_ret
          exact ⟨ret_bool HB.out.symm, ((Keep.refl _ w).drewN _).drewN _⟩
      · obtain rfl : n = k := by omega
        have HB := Lib.hid (show decide (l = l') = true from decide_eq_true (by
          have := HT.out
          rwa [List.take_of_length_le (by rw [HL.out]; exact Nat.le_refl _), List.take_of_length_le (by rw [HL'.out]; exact Nat.le_refl _)] at this))
        go_wp2
        go_ret
        exact ⟨ret_bool HB.out.symm, (Keep.refl _ w).drewN _⟩
  · have HB := Lib.hid (show decide (l = l') = false from decide_eq_false (fun e => hne (by rw [← HL.out, ← HL'.out, e])))
    have hb : ((n : Int) != (n' : Int)) = true := by simp; omega
    clear hne h h'
    go_enter Tryz.func74, Tryz.ntmps74
    go_wp2
    go_ret
    exact ⟨ret_bool HB.out.symm, Keep.refl _ _⟩
set_option maxHeartbeats 1000000 in
theorem equal_ids (A A' : Option Addr) (n n' c c' : Nat) (l l' : List ID) (w : World) (h : RdI w A n l) (h' : RdI w A' n' l') (hn : n ≤ 9223372036854775806) (hn' : n' ≤ 9223372036854775806) :
    Calls Tryz.prog 76 #[.slice A n c, .slice A' n' c'] w (Tell (.bool (decide (l = l'))) w) := by
  have HL := Lib.hid h.1
  have HL' := Lib.hid h'.1
  by_cases hne : n = n'
  · subst hne
    have H := Lib.hid h
    have H' := Lib.hid h'
    clear h h' hn'
    go_enter Tryz.func76, Tryz.ntmps76
    go_wp2
    go_loopw [13] (fun i wr => ∃ k : Nat, k ≤ n ∧ i = .int .i64 (k : Int) ∧ Hid (l.take k = l'.take k) ∧ Hid (∃ q, wr = w.drewN q)) (fun i _ => n - (intOf i).toNat)
    case atStart => exact ⟨0, Nat.zero_le _, rfl, Lib.hid (by simp), Lib.hid ⟨0, rfl⟩⟩
    case round =>
      obtain ⟨k, hk, rfl, HT, HW⟩ := hrel
      obtain ⟨q, rfl⟩ := HW.out
      by_cases hlt : k < n
      · obtain ⟨g, off, rfl, p0, p1⟩ := H.out.at_ hlt
        obtain ⟨g', off', rfl, q0, q1⟩ := H'.out.at_ hlt
        have hkl : k < l.length := by rw [HL.out]; exact hlt
        have hkl' : k < l'.length := by rw [HL'.out]; exact hlt
        have hx : l[k] = l.getD k (0, 0) := by simp [List.getD, hkl]
        have hy : l'[k] = l'.getD k (0, 0) := by simp [List.getD, hkl']
        have HTS := Lib.hid (take_eq_succ hkl hkl' HT.out)
        rw [hx, hy] at HTS
        have HNE := Lib.hid (show l.getD k (0, 0) ≠ l'.getD k (0, 0) → decide (l = l') = false from fun hne => decide_eq_false (fun e => hne (by rw [e])))
        clear hx hy hkl hkl'
        generalize l.getD k (0, 0) = x at *
        generalize l'.getD k (0, 0) = y at *
        obtain ⟨a, i⟩ := x
        obtain ⟨b, j⟩ := y
        simp only at p0 p1 q0 q1
        have hkI : (k : Int) < (n : Int) := by omega
        have hkJ : (0 : Int) ≤ (k : Int) := by omega
        by_cases he : ((a, i) : ID) = (b, j)
        · have HTS2 := Lib.hid (HTS.out he)
          have E := (fun W => by simpa [he] using neq_ID (a, i) (b, j) W : ∀ W, (binOp .neq 24 (idV (a, i)) (idV (b, j))).run Tryz.prog W = .ok (.bool false) W)
          have G := gID
          clear he
          go_wp2
          go_quiet (fail)
          go_wp2
          go_roundw
          case rel => exact ⟨k + 1, by omega, by go_num, HTS2, Lib.hid ⟨_, rfl⟩⟩
          case measure => simp [intOf]; omega
        · have HB := Lib.hid (HNE.out he)
          have E := (fun W => by simpa [he] using neq_ID (a, i) (b, j) W : ∀ W, (binOp .neq 24 (idV (a, i)) (idV (b, j))).run Tryz.prog W = .ok (.bool true) W)
          have G := gID
          clear he
          go_wp2
          go_quiet (fail)
          go_wp2
          go_ret
          exact ⟨ret_bool HB.out.symm, ((Keep.refl _ w).drewN _).drewN _⟩
      · obtain rfl : n = k := by omega
        have HB := Lib.hid (show decide (l = l') = true from decide_eq_true (by
          have := HT.out
          rwa [List.take_of_length_le (by rw [HL.out]; exact Nat.le_refl _), List.take_of_length_le (by rw [HL'.out]; exact Nat.le_refl _)] at this))
        go_wp2
        go_ret
        exact ⟨ret_bool HB.out.symm, (Keep.refl _ w).drewN _⟩
  · have HB := Lib.hid (show decide (l = l') = false from decide_eq_false (fun e => hne (by rw [← HL.out, ← HL'.out, e])))
    have hb : ((n : Int) != (n' : Int)) = true := by simp; omega
    clear hne h h'
    go_enter Tryz.func76, Tryz.ntmps76
    go_wp2
    go_ret
    exact ⟨ret_bool HB.out.symm, Keep.refl _ _⟩
set_option maxHeartbeats 1000000 in
theorem equal_mems (A A' : Option Addr) (n n' c c' : Nat) (l l' : List Mem) (w : World) (h : RdMem w A n l) (h' : RdMem w A' n' l') (hn : n ≤ 9223372036854775806) (hn' : n' ≤ 9223372036854775806) :
    Calls Tryz.prog 103 #[.slice A n c, .slice A' n' c'] w (Tell (.bool (decide (l = l'))) w) := by
  have HL := Lib.hid h.1
  have HL' := Lib.hid h'.1
  by_cases hne : n = n'
  · subst hne
    have H := Lib.hid h
    have H' := Lib.hid h'
    clear h h' hn'
    go_enter Tryz.func103, Tryz.ntmps103
    go_wp2
    go_loopw [13] (fun i wr => ∃ k : Nat, k ≤ n ∧ i = .int .i64 (k : Int) ∧ Hid (l.take k = l'.take k) ∧ Hid (∃ q, wr = w.drewN q)) (fun i _ => n - (intOf i).toNat)
    case atStart => exact ⟨0, Nat.zero_le _, rfl, Lib.hid (by simp), Lib.hid ⟨0, rfl⟩⟩
    case round =>
      obtain ⟨k, hk, rfl, HT, HW⟩ := hrel
      obtain ⟨q, rfl⟩ := HW.out
      by_cases hlt : k < n
      · obtain ⟨g, off, rfl, p0, p1, p2, p3⟩ := H.out.at_ hlt
        obtain ⟨g', off', rfl, q0, q1, q2, q3⟩ := H'.out.at_ hlt
        have hkl : k < l.length := by rw [HL.out]; exact hlt
        have hkl' : k < l'.length := by rw [HL'.out]; exact hlt
        have hx : l[k] = l.getD k zeroMem := by simp [List.getD, hkl]
        have hy : l'[k] = l'.getD k zeroMem := by simp [List.getD, hkl']
        have HTS := Lib.hid (take_eq_succ hkl hkl' HT.out)
        rw [hx, hy] at HTS
        have HNE := Lib.hid (show l.getD k zeroMem ≠ l'.getD k zeroMem → decide (l = l') = false from fun hne => decide_eq_false (fun e => hne (by rw [e])))
        clear hx hy hkl hkl'
        generalize l.getD k zeroMem = x at *
        generalize l'.getD k zeroMem = y at *
        obtain ⟨a, i, s, m⟩ := x
        obtain ⟨b, j, t, r⟩ := y
        simp only at p0 p1 p2 p3 q0 q1 q2 q3
        have hkI : (k : Int) < (n : Int) := by omega
        have hkJ : (0 : Int) ≤ (k : Int) := by omega
        by_cases he : (⟨a, i, s, m⟩ : Mem) = ⟨b, j, t, r⟩
        · have HTS2 := Lib.hid (HTS.out he)
          have E := (fun W => by simpa [he] using neq_Mem ⟨a, i, s, m⟩ ⟨b, j, t, r⟩ W : ∀ W, (binOp .neq 35 (memV ⟨a, i, s, m⟩) (memV ⟨b, j, t, r⟩)).run Tryz.prog W = .ok (.bool false) W)
          have G := gMem
          clear he
          go_wp2
          go_quiet (fail)
          go_wp2
          go_roundw
          case rel => exact ⟨k + 1, by omega, by go_num, HTS2, Lib.hid ⟨_, rfl⟩⟩
          case measure => simp [intOf]; omega
        · have HB := Lib.hid (HNE.out he)
          have E := (fun W => by simpa [he] using neq_Mem ⟨a, i, s, m⟩ ⟨b, j, t, r⟩ W : ∀ W, (binOp .neq 35 (memV ⟨a, i, s, m⟩) (memV ⟨b, j, t, r⟩)).run Tryz.prog W = .ok (.bool true) W)
          have G := gMem
          clear he
          go_wp2
          go_quiet (fail)
          go_wp2
          go_ret
          exact ⟨ret_bool HB.out.symm, ((Keep.refl _ w).drewN _).drewN _⟩
      · obtain rfl : n = k := by omega
        have HB := Lib.hid (show decide (l = l') = true from decide_eq_true (by
          have := HT.out
          rwa [List.take_of_length_le (by rw [HL.out]; exact Nat.le_refl _), List.take_of_length_le (by rw [HL'.out]; exact Nat.le_refl _)] at this))
        go_wp2
        go_ret
        exact ⟨ret_bool HB.out.symm, (Keep.refl _ w).drewN _⟩
  · have HB := Lib.hid (show decide (l = l') = false from decide_eq_false (fun e => hne (by rw [← HL.out, ← HL'.out, e])))
    have hb : ((n : Int) != (n' : Int)) = true := by simp; omega
    clear hne h h'
    go_enter Tryz.func103, Tryz.ntmps103
    go_wp2
    go_ret
    exact ⟨ret_bool HB.out.symm, Keep.refl _ _⟩
set_option maxHeartbeats 1000000 in
theorem equal_ticks (A A' : Option Addr) (n n' c c' : Nat) (l l' : List Tick) (w : World) (h : RdT w A n l) (h' : RdT w A' n' l') (hn : n ≤ 9223372036854775806) (hn' : n' ≤ 9223372036854775806) :
    Calls Tryz.prog 91 #[.slice A n c, .slice A' n' c'] w (Tell (.bool (decide (l = l'))) w) := by
  have HL := Lib.hid h.1
  have HL' := Lib.hid h'.1
  by_cases hne : n = n'
  · subst hne
    have H := Lib.hid h
    have H' := Lib.hid h'
    clear h h' hn'
    go_enter Tryz.func91, Tryz.ntmps91
    go_wp2
    go_loopw [13] (fun i wr => ∃ k : Nat, k ≤ n ∧ i = .int .i64 (k : Int) ∧ Hid (l.take k = l'.take k) ∧ Hid (∃ q, wr = w.drewN q)) (fun i _ => n - (intOf i).toNat)
    case atStart => exact ⟨0, Nat.zero_le _, rfl, Lib.hid (by simp), Lib.hid ⟨0, rfl⟩⟩
    case round =>
      obtain ⟨k, hk, rfl, HT, HW⟩ := hrel
      obtain ⟨q, rfl⟩ := HW.out
      by_cases hlt : k < n
      · obtain ⟨g, off, rfl, p0, p1, p2⟩ := H.out.at_ hlt
        obtain ⟨g', off', rfl, q0, q1, q2⟩ := H'.out.at_ hlt
        have hkl : k < l.length := by rw [HL.out]; exact hlt
        have hkl' : k < l'.length := by rw [HL'.out]; exact hlt
        have hx : l[k] = l.getD k tick0 := by simp [List.getD, hkl]
        have hy : l'[k] = l'.getD k tick0 := by simp [List.getD, hkl']
        have HTS := Lib.hid (take_eq_succ hkl hkl' HT.out)
        rw [hx, hy] at HTS
        have HNE := Lib.hid (show l.getD k tick0 ≠ l'.getD k tick0 → decide (l = l') = false from fun hne => decide_eq_false (fun e => hne (by rw [e])))
        clear hx hy hkl hkl'
        generalize l.getD k tick0 = x at *
        generalize l'.getD k tick0 = y at *
        obtain ⟨⟨a, i⟩, m⟩ := x
        obtain ⟨⟨b, j⟩, r⟩ := y
        simp only at p0 p1 p2 q0 q1 q2
        have hkI : (k : Int) < (n : Int) := by omega
        have hkJ : (0 : Int) ≤ (k : Int) := by omega
        by_cases he : (((a, i), m) : Tick) = ((b, j), r)
        · have HTS2 := Lib.hid (HTS.out he)
          have E := (fun W => by simpa [he] using neq_T ((a, i), m) ((b, j), r) W : ∀ W, (binOp .neq 27 (tV ((a, i), m)) (tV ((b, j), r))).run Tryz.prog W = .ok (.bool false) W)
          have G := gTick
          clear he
          go_wp2
          go_quiet (fail)
          go_wp2
          go_roundw
          case rel => exact ⟨k + 1, by omega, by go_num, HTS2, Lib.hid ⟨_, rfl⟩⟩
          case measure => simp [intOf]; omega
        · have HB := Lib.hid (HNE.out he)
          have E := (fun W => by simpa [he] using neq_T ((a, i), m) ((b, j), r) W : ∀ W, (binOp .neq 27 (tV ((a, i), m)) (tV ((b, j), r))).run Tryz.prog W = .ok (.bool true) W)
          have G := gTick
          clear he
          go_wp2
          go_quiet (fail)
          go_wp2
          go_ret
          exact ⟨ret_bool HB.out.symm, ((Keep.refl _ w).drewN _).drewN _⟩
      · obtain rfl : n = k := by omega
        have HB := Lib.hid (show decide (l = l') = true from decide_eq_true (by
          have := HT.out
          rwa [List.take_of_length_le (by rw [HL.out]; exact Nat.le_refl _), List.take_of_length_le (by rw [HL'.out]; exact Nat.le_refl _)] at this))
        go_wp2
        go_ret
        exact ⟨ret_bool HB.out.symm, (Keep.refl _ w).drewN _⟩
  · have HB := Lib.hid (show decide (l = l') = false from decide_eq_false (fun e => hne (by rw [← HL.out, ← HL'.out, e])))
    have hb : ((n : Int) != (n' : Int)) = true := by simp; omega
    clear hne h h'
    go_enter Tryz.func91, Tryz.ntmps91
    go_wp2
    go_ret
    exact ⟨ret_bool HB.out.symm, Keep.refl _ _⟩
end Go.Proofs.YtgoldgamjogadaaGreat

namespace Go.Proofs.YtgoldgamjogadaaGreat

abbrev Bs := List UInt8
/-- one bit -/
def uB (x : Nat) : Nat := if x % 2 = 1 then (x / 2) ^^^ 3988292384 else x / 2
theorem uB_lt {x : Nat} (h : x < 2 ^ 32) : uB x < 2 ^ 32 := by
  unfold uB
  split
  · exact Nat.xor_lt_two_pow (by omega) (by decide)
  · omega
theorem xor_cancel {a b c : Nat} (h : a ^^^ c = b ^^^ c) : a = b := by
  have := congrArg (· ^^^ c) h
  simpa [Nat.xor_assoc] using this
theorem poly_top {x : Nat} (h : x < 2 ^ 31) : (x ^^^ 3988292384).testBit 31 = true := by
  rw [Nat.testBit_xor, Nat.testBit_lt_two_pow h]
  decide
theorem uB_inj {x y : Nat} (hx : x < 2 ^ 32) (hy : y < 2 ^ 32) (h : uB x = uB y) : x = y := by
  unfold uB at h
  by_cases h1 : x % 2 = 1
  · rw [if_pos h1] at h
    by_cases h2 : y % 2 = 1
    · rw [if_pos h2] at h
      have := xor_cancel h
      omega
    · rw [if_neg h2] at h
      have e := poly_top (x := x / 2) (by omega)
      rw [h, Nat.testBit_lt_two_pow (by omega)] at e
      cases e
  · rw [if_neg h1] at h
    by_cases h2 : y % 2 = 1
    · rw [if_pos h2] at h
      have e := poly_top (x := y / 2) (by omega)
      rw [← h, Nat.testBit_lt_two_pow (by omega)] at e
      cases e
    · rw [if_neg h2] at h
      omega
theorem xor_half (x y : Nat) : (x ^^^ y) / 2 = x / 2 ^^^ y / 2 := by
  apply Nat.eq_of_testBit_eq
  intro i
  rw [Nat.testBit_xor, Nat.testBit_div_two, Nat.testBit_div_two, Nat.testBit_div_two, Nat.testBit_xor]
theorem xor_odd (x y : Nat) : ((x ^^^ y) % 2 = 1) ↔ ((x % 2 = 1) ≠ (y % 2 = 1)) := by
  have h : ∀ z : Nat, (z % 2 = 1) ↔ z.testBit 0 = true := fun z => by rw [Nat.testBit_zero]; simp
  have e : (x ^^^ y).testBit 0 = (x.testBit 0 ^^ y.testBit 0) := Nat.testBit_xor ..
  rw [h, h, h, e]
  cases x.testBit 0 <;> cases y.testBit 0 <;> simp
theorem uB_xor (x y : Nat) : uB (x ^^^ y) = uB x ^^^ uB y := by
  unfold uB
  rw [xor_half]
  by_cases h1 : x % 2 = 1 <;> by_cases h2 : y % 2 = 1
  · rw [if_neg (by rw [xor_odd]; simp [h1, h2]), if_pos h1, if_pos h2, Nat.xor_assoc, Nat.xor_comm (y / 2), ← Nat.xor_assoc 3988292384, Nat.xor_self, Nat.zero_xor]
  · rw [if_pos (by rw [xor_odd]; simp [h1, h2]), if_pos h1, if_neg h2, Nat.xor_assoc, Nat.xor_comm (y / 2), ← Nat.xor_assoc]
  · rw [if_pos (by rw [xor_odd]; simp [h1, h2]), if_neg h1, if_pos h2, Nat.xor_assoc]
  · rw [if_neg (by rw [xor_odd]; simp [h1, h2]), if_neg h1, if_neg h2]
/-- k bits -/
def uN : Nat → Nat → Nat
  | 0, x => x
  | k + 1, x => uN k (uB x)
theorem uN_lt : ∀ (k : Nat) {x : Nat}, x < 2 ^ 32 → uN k x < 2 ^ 32
  | 0, _, h => h
  | k + 1, _, h => uN_lt k (uB_lt h)
theorem uN_inj : ∀ (k : Nat) {x y : Nat}, x < 2 ^ 32 → y < 2 ^ 32 → uN k x = uN k y → x = y
  | 0, _, _, _, _, h => h
  | k + 1, _, _, hx, hy, h => uB_inj hx hy (uN_inj k (uB_lt hx) (uB_lt hy) h)
theorem uN_xor : ∀ (k x y : Nat), uN k (x ^^^ y) = uN k x ^^^ uN k y
  | 0, _, _ => rfl
  | k + 1, x, y => by
    show uN k (uB (x ^^^ y)) = _
    rw [uB_xor, uN_xor k]; rfl
theorem uN_mul : ∀ (k y : Nat), uN k (y * 2 ^ k) = y
  | 0, y => by show y * 2 ^ 0 = y; omega
  | k + 1, y => by
    show uN k (uB (y * 2 ^ (k + 1))) = y
    have e : y * 2 ^ (k + 1) = (y * 2 ^ k) * 2 := by rw [Nat.pow_succ, Nat.mul_assoc]
    have : uB (y * 2 ^ (k + 1)) = y * 2 ^ k := by
      unfold uB
      rw [e, if_neg (by omega)]
      omega
    rw [this, uN_mul k]
theorem uN_add : ∀ (a b x : Nat), uN (a + b) x = uN b (uN a x)
  | 0, b, x => by rw [Nat.zero_add]; rfl
  | a + 1, b, x => by
    rw [show a + 1 + b = (a + b) + 1 by omega]
    show uN (a + b) (uB x) = _
    rw [uN_add a b]; rfl
/-- the lower byte, and the others -/
theorem split8 (x : Nat) : x = (x % 256) ^^^ (x / 256 * 256) := by
  apply Nat.eq_of_testBit_eq
  intro i
  rw [Nat.testBit_xor, show (256 : Nat) = 2 ^ 8 from rfl, Nat.testBit_mod_two_pow, Nat.testBit_mul_two_pow, Nat.testBit_div_two_pow]
  by_cases h : i < 8
  · have h2 : ¬ 8 ≤ i := by omega
    simp [h, h2]
  · have h2 : 8 ≤ i := by omega
    simp [h, h2]
/-- one byte, as the program goes on -/
def stepM (x : Nat) (b : UInt8) : Nat := uN 8 ((x % 256) ^^^ b.toNat) ^^^ (x / 256)
theorem step_eq (x : Nat) (b : UInt8) : stepM x b = uN 8 (x ^^^ b.toNat) := by
  have e : x ^^^ b.toNat = ((x % 256) ^^^ b.toNat) ^^^ (x / 256 * 256) := by
    conv => lhs; rw [split8 x]
    rw [Nat.xor_assoc, Nat.xor_comm (x / 256 * 256), ← Nat.xor_assoc]
  rw [e, uN_xor]
  unfold stepM
  rw [show x / 256 * 256 = (x / 256) * 2 ^ 8 from rfl, uN_mul]
def overM (x : Nat) (s : Bs) : Nat := s.foldl stepM x
theorem byte_lt (b : UInt8) : b.toNat < 2 ^ 32 := Nat.lt_of_lt_of_le b.toNat_lt (by decide)
theorem step_lt {x : Nat} (h : x < 2 ^ 32) (b : UInt8) : stepM x b < 2 ^ 32 := by rw [step_eq]; exact uN_lt 8 (Nat.xor_lt_two_pow h (byte_lt b))
theorem over_lt : ∀ (s : Bs) {x : Nat}, x < 2 ^ 32 → overM x s < 2 ^ 32
  | [], _, h => h
  | b :: s, _, h => over_lt s (step_lt h b)
theorem over_app (x : Nat) (s t : Bs) : overM x (s ++ t) = overM (overM x s) t := List.foldl_append
theorem step_inj {x y : Nat} (hx : x < 2 ^ 32) (hy : y < 2 ^ 32) {b : UInt8} (h : stepM x b = stepM y b) : x = y := by
  rw [step_eq, step_eq] at h
  exact xor_cancel (uN_inj 8 (Nat.xor_lt_two_pow hx (byte_lt b)) (Nat.xor_lt_two_pow hy (byte_lt b)) h)
theorem over_inj : ∀ (s : Bs) {x y : Nat}, x < 2 ^ 32 → y < 2 ^ 32 → overM x s = overM y s → x = y
  | [], _, _, _, _, h => h
  | b :: s, _, _, hx, hy, h => step_inj hx hy (over_inj s (step_lt hx b) (step_lt hy b) h)
/-- four bytes, as a number -/
def word (a b c d : UInt8) : Nat := a.toNat ^^^ (b.toNat * 2 ^ 8 ^^^ (c.toNat * 2 ^ 16 ^^^ d.toNat * 2 ^ 24))
theorem uN_mul2 (k j y : Nat) : uN k (y * 2 ^ (k + j)) = y * 2 ^ j := by
  rw [Nat.pow_add, Nat.mul_comm (2 ^ k), ← Nat.mul_assoc, uN_mul]
theorem four (x : Nat) (a b c d : UInt8) : overM x [a, b, c, d] = uN 32 (x ^^^ word a b c d) := by
  show stepM (stepM (stepM (stepM x a) b) c) d = _
  rw [step_eq, step_eq, step_eq, step_eq]
  have e : x ^^^ word a b c d = (((x ^^^ a.toNat) ^^^ b.toNat * 2 ^ 8) ^^^ c.toNat * 2 ^ 16) ^^^ d.toNat * 2 ^ 24 := by
    unfold word; simp only [Nat.xor_assoc]
  rw [e, show 32 = 8 + (8 + (8 + 8)) from rfl, uN_add, uN_add, uN_add]
  have h1 := uN_mul2 8 0 b.toNat
  have h2 := uN_mul2 8 8 c.toNat
  have h3 := uN_mul2 8 16 d.toNat
  have h4 := uN_mul2 8 0 c.toNat
  have h5 := uN_mul2 8 8 d.toNat
  have h6 := uN_mul2 8 0 d.toNat
  simp only [Nat.reduceAdd, Nat.pow_zero, Nat.mul_one] at h1 h2 h3 h4 h5 h6
  rw [uN_xor 8 _ (d.toNat * 2 ^ 24), uN_xor 8 _ (c.toNat * 2 ^ 16), uN_xor 8 _ (b.toNat * 2 ^ 8), h1, h2, h3, uN_xor 8 _ (d.toNat * 2 ^ 16), uN_xor 8 _ (c.toNat * 2 ^ 8), h4, h5, uN_xor 8 _ (d.toNat * 2 ^ 8), h6]
theorem word_lt (a b c d : UInt8) : word a b c d < 2 ^ 32 := by
  have ha := a.toNat_lt; have hb := b.toNat_lt; have hc := c.toNat_lt; have hd := d.toNat_lt
  unfold word
  exact Nat.xor_lt_two_pow (by omega) (Nat.xor_lt_two_pow (by omega) (Nat.xor_lt_two_pow (by omega) (by omega)))
theorem word_bit (a b c d : UInt8) (i : Nat) : (word a b c d).testBit i = if i < 8 then a.toNat.testBit i else if i < 16 then b.toNat.testBit (i - 8) else if i < 24 then c.toNat.testBit (i - 16) else d.toNat.testBit (i - 24) := by
  have lo : ∀ (x : UInt8) (j : Nat), 8 ≤ j → x.toNat.testBit j = false := fun x j hj => Nat.testBit_lt_two_pow (Nat.lt_of_lt_of_le x.toNat_lt (Nat.pow_le_pow_right (by decide) hj))
  unfold word
  rw [Nat.testBit_xor, Nat.testBit_xor, Nat.testBit_xor, Nat.testBit_mul_two_pow, Nat.testBit_mul_two_pow, Nat.testBit_mul_two_pow]
  by_cases h1 : i < 8
  · rw [if_pos h1]
    have q1 : ¬ 8 ≤ i := by omega
    have q2 : ¬ 16 ≤ i := by omega
    have q3 : ¬ 24 ≤ i := by omega
    simp [q1, q2, q3]
  · rw [if_neg h1, lo a i (by omega)]
    have q1 : 8 ≤ i := by omega
    by_cases h2 : i < 16
    · have q2 : ¬ 16 ≤ i := by omega
      have q3 : ¬ 24 ≤ i := by omega
      simp [q1, q2, q3, h2]
    · rw [if_neg h2, lo b (i - 8) (by omega)]
      have q2 : 16 ≤ i := by omega
      by_cases h3 : i < 24
      · have q3 : ¬ 24 ≤ i := by omega
        simp [q1, q2, q3, h3]
      · rw [if_neg h3, lo c (i - 16) (by omega)]
        have q3 : 24 ≤ i := by omega
        simp [q1, q2, q3]
theorem word_inj {a b c d a' b' c' d' : UInt8} (h : word a b c d = word a' b' c' d') : a = a' ∧ b = b' ∧ c = c' ∧ d = d' := by
  have lo : ∀ (x : UInt8) (j : Nat), 8 ≤ j → x.toNat.testBit j = false := fun x j hj => Nat.testBit_lt_two_pow (Nat.lt_of_lt_of_le x.toNat_lt (Nat.pow_le_pow_right (by decide) hj))
  have bits := fun i => (word_bit a b c d i).symm.trans ((congrArg (·.testBit i) h).trans (word_bit a' b' c' d' i))
  have eq : ∀ x y : UInt8, (∀ i, i < 8 → x.toNat.testBit i = y.toNat.testBit i) → x = y := fun x y hxy => UInt8.toNat_inj.1 (Nat.eq_of_testBit_eq fun i => by
    by_cases hi : i < 8
    · exact hxy i hi
    · rw [lo x i (by omega), lo y i (by omega)])
  refine ⟨eq _ _ fun i hi => ?_, eq _ _ fun i hi => ?_, eq _ _ fun i hi => ?_, eq _ _ fun i hi => ?_⟩
  · have := bits i
    simpa [hi] using this
  · have := bits (i + 8)
    simpa [show ¬ i + 8 < 8 by omega, show i + 8 < 16 by omega] using this
  · have := bits (i + 16)
    simpa [show ¬ i + 16 < 8 by omega, show ¬ i + 16 < 16 by omega, show i + 16 < 24 by omega] using this
  · have := bits (i + 24)
    simpa [show ¬ i + 24 < 8 by omega, show ¬ i + 24 < 16 by omega, show ¬ i + 24 < 24 by omega] using this
/-- what is bent within four bytes has another sum -/
theorem over_window {x : Nat} (hx : x < 2 ^ 32) (p q : Bs) {a b : Bs} (ha : a.length = 4) (hb : b.length = 4) (h : overM x (p ++ a ++ q) = overM x (p ++ b ++ q)) : a = b := by
  rw [over_app, over_app, over_app, over_app] at h
  have hz := over_lt p hx
  have h2 := over_inj q (over_lt a hz) (over_lt b hz) h
  match a, b, ha, hb with
  | [a1, a2, a3, a4], [b1, b2, b3, b4], _, _ =>
    rw [four, four] at h2
    have h3 := uN_inj 32 (Nat.xor_lt_two_pow hz (word_lt ..)) (Nat.xor_lt_two_pow hz (word_lt ..)) h2
    rw [Nat.xor_comm, Nat.xor_comm (overM x p)] at h3
    obtain ⟨rfl, rfl, rfl, rfl⟩ := word_inj (xor_cancel h3)
    rfl
def sumM (s : Bs) : Nat := overM 4294967295 s ^^^ 4294967295
theorem sum_lt (s : Bs) : sumM s < 2 ^ 32 := Nat.xor_lt_two_pow (over_lt s (by decide)) (by decide)
def le4 (y : Nat) : Bs := [UInt8.ofNat (y % 256), UInt8.ofNat (y / 256 % 256), UInt8.ofNat (y / 65536 % 256), UInt8.ofNat (y / 16777216 % 256)]
theorem word_le4 {y : Nat} (h : y < 2 ^ 32) : word (UInt8.ofNat (y % 256)) (UInt8.ofNat (y / 256 % 256)) (UInt8.ofNat (y / 65536 % 256)) (UInt8.ofNat (y / 16777216 % 256)) = y := by
  have hb : ∀ n, n < 256 → (UInt8.ofNat n).toNat = n := fun n hn => by rw [UInt8.toNat_ofNat']; omega
  apply Nat.eq_of_testBit_eq
  intro i
  rw [word_bit, hb _ (Nat.mod_lt _ (by decide)), hb _ (Nat.mod_lt _ (by decide)), hb _ (Nat.mod_lt _ (by decide)), hb _ (Nat.mod_lt _ (by decide))]
  rw [show (256 : Nat) = 2 ^ 8 from rfl, show (65536 : Nat) = 2 ^ 16 from rfl, show (16777216 : Nat) = 2 ^ 24 from rfl]
  simp only [Nat.testBit_mod_two_pow, Nat.testBit_div_two_pow]
  by_cases h1 : i < 8
  · simp [h1]
  · rw [if_neg h1]
    by_cases h2 : i < 16
    · rw [if_pos h2, show i - 8 + 8 = i by omega, decide_eq_true (by omega : i - 8 < 8), Bool.true_and]
    · rw [if_neg h2]
      by_cases h3 : i < 24
      · rw [if_pos h3, show i - 16 + 16 = i by omega, decide_eq_true (by omega : i - 16 < 8), Bool.true_and]
      · rw [if_neg h3, show i - 24 + 24 = i by omega]
        by_cases h4 : i < 32
        · rw [decide_eq_true (by omega : i - 24 < 8), Bool.true_and]
        · rw [Nat.testBit_lt_two_pow (Nat.lt_of_lt_of_le h (Nat.pow_le_pow_right (by decide) (by omega))), Bool.and_false]
/-- with its sum behind it a text has one rest -/
theorem over_valid (s : Bs) : overM 4294967295 (s ++ le4 (sumM s)) = uN 32 4294967295 := by
  rw [over_app]
  unfold le4
  rw [four, word_le4 (sum_lt s)]
  unfold sumM
  rw [← Nat.xor_assoc, Nat.xor_self, Nat.zero_xor]
/-- two texts with their sums behind them that are alike outside of four bytes are the same -/
theorem bent {s t p q a b : Bs} (ha : a.length = 4) (hb : b.length = 4) (h1 : s ++ le4 (sumM s) = p ++ a ++ q) (h2 : t ++ le4 (sumM t) = p ++ b ++ q) : a = b := by
  refine over_window (x := 4294967295) (by decide) p q ha hb ?_
  rw [← h1, ← h2, over_valid, over_valid]
end Go.Proofs.YtgoldgamjogadaaGreat

namespace Go.Proofs.YtgoldgamjogadaaGreat
open Go.RowKit Go
set_option maxRecDepth 100000

theorem Blk.setRow_ {w : World} {g : Nat} {t : TypeId} {old : Array Value} (h : Blk w g t old) (cs : Array Value) : Blk (w.setRow g cs) g t cs := setRow_heap w g old cs t (0, 0) h
theorem Keep.setRow_ (w : World) (g : Nat) (cs : Array Value) : Keep (fun k => k = g) w (w.setRow g cs) :=
  ⟨rfl, rfl, rfl, by simp, fun k _ hn => setRow_other w g k cs hn⟩
theorem uN_succ : ∀ (k x : Nat), uN (k + 1) x = uB (uN k x)
  | 0, _ => rfl
  | k + 1, x => uN_succ k (uB x)
def tabV : Array Value := ((List.range 256).map (fun i => Value.int .u32 (uN 8 i : Nat))).toArray
theorem tabV_size : tabV.size = 256 := by simp [tabV]
theorem tabV_get {i : Nat} (h : i < 256) : tabV[i]? = some (.int .u32 (uN 8 i : Nat)) := by
  unfold tabV
  rw [List.getElem?_toArray, List.getElem?_map, List.getElem?_range h]; rfl
theorem tabV_one : tabV.all (·.oneCell') = true := by simp [tabV, Value.oneCell']
theorem infoTab : (Tryz.prog.info? 129).map (·.size) = some 256 := by kernel_rfl
theorem zc_size : Tryz.zeroCells129.size = 256 := by kernel_rfl
theorem zc_one : Tryz.zeroCells129.all (·.oneCell') = true := by kernel_rfl
set_option maxHeartbeats 2000000 in
theorem table_any (w : World) : Calls Tryz.prog 94 #[] w (Tell (.agg tabV) w) := by
  obtain ⟨b, hb⟩ : ∃ b, w.heap.size = b := ⟨_, rfl⟩
  have hk0 : Keep (fun _ => False) w ((w.alloc (.cells Tryz.zeroCells129 129)).alloc (.cells Tryz.zeroCells129 129)) := ((Keep.refl _ w).alloc _).alloc _
  have h0 : Blk ((w.alloc (.cells Tryz.zeroCells129 129)).alloc (.cells Tryz.zeroCells129 129)) w.heap.size 129 Tryz.zeroCells129 := (Blk.new w 129 _).alloc _
  have h1 : Blk ((w.alloc (.cells Tryz.zeroCells129 129)).alloc (.cells Tryz.zeroCells129 129)) (w.heap.size + 1) 129 Tryz.zeroCells129 := Blk.new_ (by simp) _ _
  have HB := Lib.hid hb
  have HK0 := Lib.hid hk0
  have H0 := Lib.hid h0
  have H1 := Lib.hid h1
  clear hk0 h0 h1 hb
  go_enter Tryz.func94, Tryz.ntmps94
  go_upto_region 2 with fail
  generalize (w.alloc (.cells Tryz.zeroCells129 129)).alloc (.cells Tryz.zeroCells129 129) = W0 at *
  rw [HB.out] at H0 H1 ⊢
  go_wp2
  go_loopw [4] (fun j wr => ∃ i : Nat, i ≤ 256 ∧ j = .int .i64 (i : Int) ∧ Hid (∃ cs, Blk wr (b + 1) 129 cs ∧ cs.size = 256 ∧ ∀ k, k < i → cs[k]? = some (.int .u32 (uN 8 k : Nat))) ∧ Hid (Blk wr b 129 Tryz.zeroCells129) ∧ Hid (Keep (fun _ => False) w wr)) (fun j _ => 256 - (intOf j).toNat)
  case atStart => exact ⟨0, by omega, rfl, Lib.hid ⟨_, H1.out, zc_size, fun k h => by omega⟩, H0, HK0⟩
  case round =>
    obtain ⟨i, hi, rfl, HT, HZ, HK⟩ := hrel
    have e2 : IntKind.i64.wrap ((i : Int) + 1) = (i : Int) + 1 := IntWalk.i64_in _ (by omega)
    by_cases hlt : i < 256
    · have q1 : (i : Int) < 256 := by omega
      have e3 : IntKind.u32.wrap (i : Int) = (i : Int) := IntWalk.u32_in _ (by omega)
      go_wp2
      go_loopw [9, 3] (fun j x wz => ∃ k : Nat, k ≤ 8 ∧ j = .int .i64 (k : Int) ∧ x = .int .u32 (uN k i : Nat) ∧ wz = wr) (fun j _ _ => 8 - (intOf j).toNat)
      case atStart => exact ⟨0, by omega, rfl, rfl, rfl⟩
      case round =>
        obtain ⟨k, hk, rfl, rfl, rfl⟩ := hrel
        have e4 : IntKind.i64.wrap ((k : Int) + 1) = (k : Int) + 1 := IntWalk.i64_in _ (by omega)
        have hX : uN k i < 2 ^ 32 := uN_lt k (by omega)
        have HS := Lib.hid (uN_succ k i)
        obtain ⟨X, hXe⟩ : ∃ X, uN k i = X := ⟨_, rfl⟩
        have HXe := Lib.hid hXe
        rw [hXe] at hX HS ⊢
        by_cases hk8 : k < 8
        · have q2 : (k : Int) < 8 := by omega
          have f1 : bits .and .u32 (X : Int) 1 = ((X % 2 : Nat) : Int) := by
            have := u32_and_nat X 1 (by omega) (by decide)
            rw [Nat.and_one_is_mod] at this
            exact this
          clear hXe
          by_cases hp : X % 2 = 1
          · have f2 : bits .and .u32 (X : Int) 1 = 1 := by rw [f1, hp]; rfl
            have f3 : bits .xor .u32 ((X : Int) / 2) 3988292384 = ((X / 2 ^^^ 3988292384 : Nat) : Int) := by
              have := u32_xor_nat (X / 2) 3988292384 (by omega) (by decide)
              rw [show ((X / 2 : Nat) : Int) = (X : Int) / 2 by omega] at this
              exact this
            have HN := Lib.hid (show uN (k + 1) i = X / 2 ^^^ 3988292384 by rw [HS.out]; exact if_pos hp)
            clear f1 hp
            go_wp2
            go_roundw
            case rel => exact ⟨k + 1, by omega, by go_num, by rw [HN.out], trivial⟩
            case measure => simp [intOf]; omega
          · have f2 : bits .and .u32 (X : Int) 1 = 0 := by rw [f1, show X % 2 = 0 by omega]; rfl
            have HN := Lib.hid (show uN (k + 1) i = X / 2 by rw [HS.out]; exact if_neg hp)
            clear f1 hp
            go_wp2
            go_roundw
            case rel => exact ⟨k + 1, by omega, by go_num, by rw [HN.out]; simp, trivial⟩
            case measure => simp [intOf]; omega
        · obtain rfl : k = 8 := by omega
          obtain ⟨cs, hc, hsz, hcs⟩ := HT.out
          have ci := hc.cell i
          rw [Array.getElem?_eq_getElem (by omega)] at ci
          have fi := hc.frozen i
          have q3 : (0 : Int) ≤ (i : Int) := by omega
          have HC := Lib.hid hc
          have HCs := Lib.hid hcs
          have hkk : Keep (fun x => x = b + 1) wr (wr.setCell ⟨b + 1, i, none⟩ (.int .u32 (X : Int))) := (Keep.refl (fun x => x = b + 1) wr).setCell (fun _ => rfl) _
          have HT2 := Lib.hid (show ∃ cs, Blk (wr.setCell ⟨b + 1, i, none⟩ (.int .u32 (X : Int))) (b + 1) 129 cs ∧ cs.size = 256 ∧ ∀ k, k < i + 1 → cs[k]? = some (.int .u32 (uN 8 k : Nat)) from
            ⟨_, hc.set_ i (.int .u32 (X : Int)), by rw [Array.size_setIfInBounds]; exact hsz, fun k h => by
              by_cases e : k = i
              · subst e
                rw [Array.getElem?_setIfInBounds_self_of_lt (by omega), HXe.out]
              · rw [Array.getElem?_setIfInBounds_ne (by omega)]
                exact hcs k (by omega)⟩)
          have HZ2 := Lib.hid (HZ.out.keep hkk (by omega))
          have HK2 := Lib.hid (HK.out.trans (hkk.mono fun x _ e => .inr (by have := HB.out; omega)))
          clear hc hcs hkk hXe HT
          go_wp2
          go_roundw
          case rel => exact ⟨i + 1, by omega, by go_num, HT2, HZ2, HK2⟩
          case measure => simp [intOf]; omega
    · obtain rfl : i = 256 := by omega
      obtain ⟨cs, hc, hsz, hcs⟩ := HT.out
      have hct : cs = tabV := by
        apply Array.ext_getElem?
        intro k
        by_cases hk : k < 256
        · rw [hcs k hk, tabV_get hk]
        · rw [Array.getElem?_eq_none (by omega), Array.getElem?_eq_none (by rw [tabV_size]; omega)]
      subst hct
      have HC := Lib.hid hc
      clear hc hcs HT hsz
      go_wp2_with (first | (refine wpList_load_row rfl 129 _ rfl (b + 1) rfl 129 _ (0, 0) _ HC.out Tryz.underlying129 rfl (by rw [tabV_size]; exact infoTab) ?_) | (refine wpList_store_row rfl 129 _ _ rfl b tabV rfl rfl 129 _ HZ.out (by rw [tabV_size]; exact infoTab) (by rw [tabV_size, zc_size]) tabV_one ?_))
      (try simp only [Exit.inBlock, Exit.then])
      refine bodyPost_ret (results_cell_row rfl _ _ b 129 tabV (0, 0) _ rfl (HZ.out.setRow_ _) Tryz.underlying129 rfl (by rw [tabV_size]; exact infoTab)) rfl ?_
      exact ⟨rfl, HK.out.trans ((Keep.setRow_ _ _ _).mono fun g _ e => .inr (by have := HB.out; omega))⟩
end Go.Proofs.YtgoldgamjogadaaGreat
