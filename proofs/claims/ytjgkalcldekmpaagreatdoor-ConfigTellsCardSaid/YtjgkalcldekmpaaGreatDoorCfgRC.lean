/-
  coveyref26: May. Written by gen_rc.py.
-/
import Derived.Test.YtjgkalcldekmpaaGreatDoorCfgRA
namespace Go.Proofs.YtjgkalcldekmpaaGreatDoor
open Go.RowKit Go Go.Shelf
set_option maxRecDepth 100000
attribute [local go_sem] bs_toList bs_size bs_zero
attribute [local irreducible] kAll
attribute [local go_sem] kQuiet kQuietUpon

theorem rin_same (n lo hi : Int) (w : World) : Calls Tryz.prog 37 #[.int .i64 n, .int .i64 lo, .int .i64 hi] w fun e w' => e = .returned (.bool (inD n lo hi)) ∧ w = w' := by
  go_enter Tryz.func37, Tryz.ntmps37
  by_cases h1 : lo ≤ n
  · by_cases h2 : n ≤ hi
    · have HD := Lib.hid (show inD n lo hi = true from decide_eq_true ⟨h1, h2⟩)
      go_wp2
      go_ret
      exact ⟨by rw [HD.out]; rfl, rfl⟩
    · have HD := Lib.hid (show inD n lo hi = false from decide_eq_false fun h => h2 h.2)
      go_wp2
      go_ret
      exact ⟨by rw [HD.out]; rfl, rfl⟩
  · have HD := Lib.hid (show inD n lo hi = false from decide_eq_false fun h => h1 h.1)
    go_wp2
    go_ret
    exact ⟨by rw [HD.out]; rfl, rfl⟩
theorem is_in {n lo hi : Int} (h : inD n lo hi = true) : lo ≤ n ∧ n ≤ hi := of_decide_eq_true h
theorem not_in {n lo hi : Int} (h : inD n lo hi = false) : ¬ (lo ≤ n ∧ n ≤ hi) := of_decide_eq_false h
def MayP (c : Cfg) : Prop := (1 ≤ c.v 1 ∧ c.v 1 ≤ 12) ∧ (1 ≤ c.v 2 ∧ c.v 2 ≤ 4096) ∧ (c.v 2 ≤ c.v 3 ∧ c.v 3 ≤ 4096) ∧ (1 ≤ c.v 4 ∧ c.v 4 ≤ 4096) ∧ (1 ≤ c.v 5 ∧ c.v 5 ≤ 4096) ∧ (1 ≤ c.v 6 ∧ c.v 6 ≤ 4096) ∧ (1 ≤ c.v 15 ∧ c.v 15 ≤ 4096) ∧ (1 ≤ c.v 16 ∧ c.v 16 ≤ 4096) ∧ (0 ≤ c.v 7 ∧ c.v 7 ≤ 4096) ∧ (c.v 10 = 0 ∨ c.v 8 = 3) ∧
  ((c.v 8 = 1 ∧ (1 ≤ c.v 9 ∧ c.v 9 ≤ 12) ∧ c.v 12 = 0 ∧ c.v 13 = 0 ∧ c.v 14 = 0) ∨ ((c.v 8 = 2 ∨ c.v 8 = 3) ∧ c.v 9 = 0 ∧ c.v 12 = 0 ∧ c.v 13 = 0 ∧ c.v 14 = 0) ∨ (c.v 8 = 4 ∧ c.v 9 = 0 ∧ (0 ≤ c.v 12 ∧ c.v 12 ≤ 4096) ∧ (1 ≤ c.v 13 ∧ c.v 13 ≤ 4096) ∧ (1 ≤ c.v 14 ∧ c.v 14 ≤ c.v 13 - 1)))
theorem kind_iff (x8 x9 x12 x13 x14 : Int) : kindM x8 x9 x12 x13 x14 = true ↔ ((x8 = 1 ∧ (1 ≤ x9 ∧ x9 ≤ 12) ∧ x12 = 0 ∧ x13 = 0 ∧ x14 = 0) ∨ ((x8 = 2 ∨ x8 = 3) ∧ x9 = 0 ∧ x12 = 0 ∧ x13 = 0 ∧ x14 = 0) ∨ (x8 = 4 ∧ x9 = 0 ∧ (0 ≤ x12 ∧ x12 ≤ 4096) ∧ (1 ≤ x13 ∧ x13 ≤ 4096) ∧ (1 ≤ x14 ∧ x14 ≤ x13 - 1))) := by
  unfold kindM inB
  by_cases h1 : x8 = 1
  · rw [if_pos h1]
    simp only [List.all_cons, List.all_nil, Bool.and_true, Bool.and_eq_true, decide_eq_true_eq]
    omega
  · rw [if_neg h1]
    by_cases h2 : x8 = 2 ∨ x8 = 3
    · rw [if_pos h2]
      simp only [List.all_cons, List.all_nil, Bool.and_true, Bool.and_eq_true, decide_eq_true_eq]
      omega
    · rw [if_neg h2]
      by_cases h4 : x8 = 4
      · rw [if_pos h4]
        simp only [List.all_cons, List.all_nil, Bool.and_true, Bool.and_eq_true, decide_eq_true_eq]
        omega
      · rw [if_neg h4]
        simp only [Bool.false_eq_true, false_iff]
        omega
theorem may_iff (c : Cfg) : mayM c = true ↔ riseM c.seeds = true ∧ MayP c := by
  unfold mayM mayX timesM MayP
  rw [Bool.and_eq_true, Bool.and_eq_true, Bool.and_eq_true, Bool.and_eq_true, kind_iff]
  unfold inB
  have e10 : (!(decide (c.v 10 ≠ 0) && decide (c.v 8 ≠ 3))) = true ↔ (c.v 10 = 0 ∨ c.v 8 = 3) := by
    by_cases h1 : c.v 10 = 0 <;> by_cases h2 : c.v 8 = 3 <;> simp [h1, h2]
  rw [e10]
  simp only [List.all_cons, List.all_nil, Bool.and_true, Bool.and_eq_true, decide_eq_true_eq]
  constructor
  · rintro ⟨⟨⟨⟨h1, h2⟩, h3⟩, h4⟩, h5⟩
    exact ⟨h1, by omega⟩
  · rintro ⟨h1, h2⟩
    exact ⟨⟨⟨⟨h1, by omega⟩, by omega⟩, by omega⟩, by omega⟩
theorem may_no {c : Cfg} (h : ¬ MayP c) : mayM c = false := Bool.eq_false_iff.2 fun e => h ((may_iff c).1 e).2
theorem rise_iff (s : List Int) : riseM s = true ↔ 0 < s.length ∧ ∀ i (hi : i < s.length), (1 ≤ s[i] ∧ s[i] ≤ 12) ∧ ∀ h : 0 < i, s[i - 1] < s[i] := by
  have g : ∀ i (hi : i < s.length), s.toArray[i]! = s[i] := fun i hi => by
    rw [getElem!_pos s.toArray i (by simpa using hi)]; simp
  unfold riseM
  simp only [Bool.and_eq_true, decide_eq_true_eq]
  constructor
  · rintro ⟨⟨⟨h0, h1⟩, h2⟩, h3⟩
    refine ⟨h0, fun i hi => ⟨inB_of h3 (List.getElem_mem hi), fun hp => ?_⟩⟩
    have e1 := (Lib.downOK_iff _ _ _).1 h1 (i - 1) (by omega)
    have e2 : ∀ j, j < s.length → Lib.keeps s.toArray j = true := by
      unfold distB at h2
      have h2 := of_decide_eq_true h2
      unfold Lib.compact Lib.compactUpTo at h2
      rw [List.length_map] at h2
      have h4 : ((List.range s.length).filter (Lib.keeps s.toArray)).length = (List.range s.length).length := by rw [List.length_range]; exact h2
      exact fun j hj => List.length_filter_eq_length_iff.1 h4 j (List.mem_range.2 hj)
    have e3 := e2 i hi
    unfold Lib.keeps at e3
    rw [show i - 1 + 1 = i by omega] at e1
    rw [g _ hi, g _ (by omega)] at e1 e3
    simp at e1 e3
    omega
  · rintro ⟨h0, h1⟩
    refine ⟨⟨⟨h0, ?_⟩, ?_⟩, ?_⟩
    · refine (Lib.downOK_iff _ _ _).2 fun i hi => ?_
      have := (h1 (i + 1) (by omega)).2 (by omega)
      rw [g _ (by omega), g _ (by omega)]
      simp only [Nat.add_sub_cancel] at this
      simp; omega
    · unfold distB
      rw [Lib.compact_all s (fun j hj => ?_)]
      · simp
      · unfold Lib.keeps
        by_cases hj0 : j = 0
        · simp [hj0]
        · have := (h1 j hj).2 (by omega)
          rw [g _ hj, g _ (by omega)]
          simp; omega
    · unfold inB
      refine List.all_eq_true.2 fun x hx => ?_
      obtain ⟨i, hi, rfl⟩ := List.getElem_of_mem hx
      exact decide_eq_true (h1 i hi).1
theorem rise_no {c : Cfg} (h : ¬ riseM c.seeds = true) : mayM c = false := Bool.eq_false_iff.2 fun e => h ((may_iff c).1 e).1
set_option maxHeartbeats 16000000 in
theorem rmay_any (c : Cfg) (A : Option Addr) (cap : Nat) (w : World) (hR : RdN w A c.seeds.length c.seeds) (hl : c.seeds.length ≤ 1000000000) :
    Calls Tryz.prog 17 #[.agg (cfgA (.slice A c.seeds.length cap) c.v)] w (Tell (.bool (mayM c)) w) := by
  have hk0 : Keep (fun _ => False) w (w.alloc (.cells (cfgA (.slice A c.seeds.length cap) c.v) 25)) := (Keep.refl _ w).alloc _
  have hX := Blk.new w 25 (cfgA (.slice A c.seeds.length cap) c.v)
  obtain ⟨W0, hW0⟩ : ∃ W0, w.alloc (.cells (cfgA (.slice A c.seeds.length cap) c.v) 25) = W0 := ⟨_, rfl⟩
  rw [hW0] at hk0 hX
  have c0 := hX.cell 0
  rw [cfgA_get _ _ (by decide)] at c0
  simp only [cfgC, if_true] at c0
  have HX := Lib.hid hX
  have HK0 := Lib.hid hk0
  have HR := Lib.hid (hR.keep0 hk0)
  clear hX hk0 hR
  go_enter Tryz.func17, Tryz.ntmps17
  by_cases hz : c.seeds.length = 0
  · have HF := Lib.hid (show mayM c = false from rise_no fun h => by have := ((rise_iff _).1 h).1; omega)
    have q1 : ((c.seeds.length : Int) == 0) = true := by rw [hz]; rfl
    clear hz hl
    go_wp2
    go_ret
    exact ⟨by rw [HF.out]; rfl, HK0.out⟩
  have q1 : ((c.seeds.length : Int) == 0) = false := beq_eq_false_iff_ne.2 (by omega)
  go_upto_region 4 with fail
  clear hW0 c0
  go_loopw [3] (fun j wr => ∃ i : Nat, i ≤ c.seeds.length ∧ j = .int .i64 (i : Int) ∧ Hid (∀ k (hk : k < c.seeds.length), k < i → (1 ≤ c.seeds[k] ∧ c.seeds[k] ≤ 12) ∧ ∀ h : 0 < k, c.seeds[k - 1] < c.seeds[k]) ∧ Hid (Keep (fun _ => False) W0 wr)) (fun j _ => c.seeds.length - (intOf j).toNat)
  case atStart => exact ⟨0, Nat.zero_le _, rfl, Lib.hid (fun k _ h => by omega), Lib.hid (Keep.refl _ _)⟩
  case round =>
    obtain ⟨i, hil, rfl, HOk, HKk⟩ := hrel
    have e2 : IntKind.i64.wrap ((i : Int) + 1) = (i : Int) + 1 := IntWalk.i64_in _ (by omega)
    have hXw := HX.out.keep HKk.out (fun h => h)
    have HXw := Lib.hid hXw
    have c0 := hXw.cell 0
    rw [cfgA_get _ _ (by decide)] at c0
    simp only [cfgC, if_true] at c0
    by_cases hlt : i < c.seeds.length
    · have q2 : (i : Int) < (c.seeds.length : Int) := by omega
      have q3 : (0 : Int) ≤ (i : Int) := by omega
      obtain ⟨g, off, v0, rfl, h1, h2⟩ := (HR.out.keep0 HKk.out).2 i (by omega)
      rw [List.getElem?_map, List.getElem?_eq_getElem hlt] at h1
      simp only [Option.map_some, Option.some.injEq] at h1
      subst h1
      obtain ⟨x, hx⟩ : ∃ x, c.seeds[i] = x := ⟨_, rfl⟩
      rw [hx] at h2
      have HCx := Lib.hid h2
      have Hx := Lib.hid hx
      clear h2 hXw
      rcases Bool.eq_false_or_eq_true (inD x 1 12) with hin | hin
      case inr =>
        have HF := Lib.hid (show mayM c = false from rise_no fun h => by
          have h1 := (((rise_iff _).1 h).2 i hlt).1
          rw [Hx.out] at h1
          exact not_in hin h1)
        have HIn := Lib.hid hin
        clear hin hx
        go_wp2_with fail
        refine wp_region_krip (Keep (fun _ => False)) (Keep.refl _) keep0_trans 25 (by kernel_rfl) (by kernel_rfl) (Ts := [none, some (.inl (.slice (some ⟨g, off, none⟩) c.seeds.length cap)), none, none, some (.inl (.int .i64 x)), some (.inl (.bool false)), none, none, none, none, none, none, none, none, none, none, none, none, none, none, none, none, none, none, none]) ?_
        simp only [List.take, List.drop]
        refine kAll_p (fun K hK => ?_)
        go_simp
        generalize hZ : (Act.mk _ _) = Z
        refine hK Z ?_
        subst hZ
        clear hK K
        refine kAll_dn _ (fun W hW hF => kStep_of fun K Q hK => ?_) (fun K hK => ?_)
        · have q0 := (HXw.out.keep (keepD (Keep.refl _ _) hW) (fun h => h)).cell 0
          rw [cfgA_get _ _ (by decide)] at q0
          simp only [cfgC, if_true] at q0
          go_simp
          exact hK _ _ (Keep.refl _ _) rfl
        go_simp
        generalize hZ : (Act.mk _ _) = Z
        refine hK Z ?_
        subst hZ
        clear hK K
        refine kAll_p (fun K hK => ?_)
        go_simp
        generalize hZ : (Act.mk _ _) = Z
        refine hK Z ?_
        subst hZ
        clear hK K
        refine kAll_p (fun K hK => ?_)
        go_simp
        generalize hZ : (Act.mk _ _) = Z
        refine hK Z ?_
        subst hZ
        clear hK K
        refine kAll_dn _ (fun W hW hF => kStep_of fun K Q hK => ?_) (fun K hK => ?_)
        · have q1 := (keepD (Keep.refl _ _) hW).cell (HCx.out) (fun h => h)
          go_simp
          exact hK _ _ (Keep.refl _ _) rfl
        go_simp
        generalize hZ : (Act.mk _ _) = Z
        refine hK Z ?_
        subst hZ
        clear hK K
        refine kAll_dn _ (fun W hW hF => kStep_of fun K Q hK => ?_) (fun K hK => ?_)
        · go_simp
          refine (rin_same x 1 12 W).mono ?_
          rintro e w' ⟨rfl, rfl⟩
          rw [HIn.out]
          exact hK _ _ (Keep.refl _ _) rfl
        go_simp
        generalize hZ : (Act.mk _ _) = Z
        refine hK Z ?_
        subst hZ
        clear hK K
        refine kAll_p (fun K hK => ?_)
        go_simp
        generalize hZ : (Act.mk _ _) = Z
        refine hK Z ?_
        subst hZ
        clear hK K
        refine kAll_p (fun K hK => ?_)
        go_simp
        generalize hZ : (Act.mk _ _) = Z
        refine hK Z ?_
        subst hZ
        clear hK K
        refine kAll_skip (by kernel_rfl) ?_
        refine kAll_skip (by kernel_rfl) ?_
        refine kAll_skip (by kernel_rfl) ?_
        refine kAll_skip (by kernel_rfl) ?_
        refine kAll_skip (by kernel_rfl) ?_
        refine kAll_skip (by kernel_rfl) ?_
        refine kAll_skip (by kernel_rfl) ?_
        refine kAll_skip (by kernel_rfl) ?_
        refine kAll_skip (by kernel_rfl) ?_
        refine kAll_skip (by kernel_rfl) ?_
        refine kAll_skip (by kernel_rfl) ?_
        refine kAll_skip (by kernel_rfl) ?_
        refine kAll_skip (by kernel_rfl) ?_
        refine kAll_skip (by kernel_rfl) ?_
        refine kAll_skip (by kernel_rfl) ?_
        refine kAll_skip (by kernel_rfl) ?_
        refine kAll_p (fun K hK => ?_)
        go_simp
        generalize hZ : (Act.mk _ _) = Z
        refine hK Z ?_
        subst hZ
        clear hK K
        refine kAll_nil (fun W hW hF => ?_)
        have HKq := Lib.hid (keep0_trans _ _ _ HKk.out (keepD (Keep.refl _ _) hW))
        clear hF hW
        go_wp2
        go_ret
        exact ⟨by rw [HF.out]; rfl, keep0_trans _ _ _ HK0.out HKq.out⟩
      have HIn := Lib.hid hin
      by_cases hi0 : i = 0
      · have HOk2 := Lib.hid (show ∀ k (hk : k < c.seeds.length), k < i + 1 → (1 ≤ c.seeds[k] ∧ c.seeds[k] ≤ 12) ∧ ∀ h : 0 < k, c.seeds[k - 1] < c.seeds[k] from fun k hk h => by
          obtain rfl : k = i := by omega
          exact ⟨by rw [hx]; exact is_in hin, fun h => by omega⟩)
        clear hin hx
        subst hi0
        rw [Nat.add_zero] at HCx
        go_wp2_with fail
        refine wp_region_krip (Keep (fun _ => False)) (Keep.refl _) keep0_trans 25 (by kernel_rfl) (by kernel_rfl) (Ts := [none, some (.inl (.slice (some ⟨g, off, none⟩) c.seeds.length cap)), none, none, some (.inl (.int .i64 x)), some (.inl (.bool true)), none, none, none, none, none, none, none, none, none, none, none, none, none, none, none, none, none, none, none]) ?_
        simp only [List.take, List.drop]
        refine kAll_p (fun K hK => ?_)
        go_simp
        generalize hZ : (Act.mk _ _) = Z
        refine hK Z ?_
        subst hZ
        clear hK K
        refine kAll_dn _ (fun W hW hF => kStep_of fun K Q hK => ?_) (fun K hK => ?_)
        · have q0 := (HXw.out.keep (keepD (Keep.refl _ _) hW) (fun h => h)).cell 0
          rw [cfgA_get _ _ (by decide)] at q0
          simp only [cfgC, if_true] at q0
          go_simp
          exact hK _ _ (Keep.refl _ _) rfl
        go_simp
        generalize hZ : (Act.mk _ _) = Z
        refine hK Z ?_
        subst hZ
        clear hK K
        refine kAll_p (fun K hK => ?_)
        go_simp
        generalize hZ : (Act.mk _ _) = Z
        refine hK Z ?_
        subst hZ
        clear hK K
        refine kAll_p (fun K hK => ?_)
        go_simp
        generalize hZ : (Act.mk _ _) = Z
        refine hK Z ?_
        subst hZ
        clear hK K
        refine kAll_dn _ (fun W hW hF => kStep_of fun K Q hK => ?_) (fun K hK => ?_)
        · have q1 := (keepD (Keep.refl _ _) hW).cell (HCx.out) (fun h => h)
          go_simp
          exact hK _ _ (Keep.refl _ _) rfl
        go_simp
        generalize hZ : (Act.mk _ _) = Z
        refine hK Z ?_
        subst hZ
        clear hK K
        refine kAll_dn _ (fun W hW hF => kStep_of fun K Q hK => ?_) (fun K hK => ?_)
        · go_simp
          refine (rin_same x 1 12 W).mono ?_
          rintro e w' ⟨rfl, rfl⟩
          rw [HIn.out]
          exact hK _ _ (Keep.refl _ _) rfl
        go_simp
        generalize hZ : (Act.mk _ _) = Z
        refine hK Z ?_
        subst hZ
        clear hK K
        refine kAll_p (fun K hK => ?_)
        go_simp
        generalize hZ : (Act.mk _ _) = Z
        refine hK Z ?_
        subst hZ
        clear hK K
        refine kAll_p (fun K hK => ?_)
        go_simp
        generalize hZ : (Act.mk _ _) = Z
        refine hK Z ?_
        subst hZ
        clear hK K
        refine kAll_pw (by kernel_rfl) (fun K hK => ?_)
        go_simp
        generalize hZ : (Act.mk _ _) = Z
        refine hK Z ?_
        subst hZ
        clear hK K
        refine kAll_pw (by kernel_rfl) (fun K hK => ?_)
        go_simp
        generalize hZ : (Act.mk _ _) = Z
        refine hK Z ?_
        subst hZ
        clear hK K
        refine kAll_pw (by kernel_rfl) (fun K hK => ?_)
        go_simp
        generalize hZ : (Act.mk _ _) = Z
        refine hK Z ?_
        subst hZ
        clear hK K
        refine kAll_skip (by kernel_rfl) ?_
        refine kAll_skip (by kernel_rfl) ?_
        refine kAll_skip (by kernel_rfl) ?_
        refine kAll_skip (by kernel_rfl) ?_
        refine kAll_skip (by kernel_rfl) ?_
        refine kAll_skip (by kernel_rfl) ?_
        refine kAll_skip (by kernel_rfl) ?_
        refine kAll_skip (by kernel_rfl) ?_
        refine kAll_skip (by kernel_rfl) ?_
        refine kAll_skip (by kernel_rfl) ?_
        refine kAll_skip (by kernel_rfl) ?_
        refine kAll_skip (by kernel_rfl) ?_
        refine kAll_pw (by kernel_rfl) (fun K hK => ?_)
        go_simp
        generalize hZ : (Act.mk _ _) = Z
        refine hK Z ?_
        subst hZ
        clear hK K
        refine kAll_p (fun K hK => ?_)
        go_simp
        generalize hZ : (Act.mk _ _) = Z
        refine hK Z ?_
        subst hZ
        clear hK K
        refine kAll_nil (fun W hW hF => ?_)
        have HKq := Lib.hid (keep0_trans _ _ _ HKk.out (keepD (Keep.refl _ _) hW))
        clear hF hW
        go_wp2
        go_roundw
        case rel => exact ⟨0 + 1, by omega, by go_num, HOk2, HKq⟩
        case measure => simp [intOf]; omega
      have q4 : (0 : Int) < (i : Int) := by omega
      obtain ⟨g', off', v1, hA, h3, h4⟩ := (HR.out.keep0 HKk.out).2 (i - 1) (by omega)
      injection hA with hA; injection hA with hA1 hA2; subst hA1 hA2
      rw [List.getElem?_map, List.getElem?_eq_getElem (show i - 1 < c.seeds.length by omega)] at h3
      simp only [Option.map_some, Option.some.injEq] at h3
      subst h3
      obtain ⟨y, hy⟩ : ∃ y, c.seeds[i - 1]'(by omega) = y := ⟨_, rfl⟩
      rw [hy] at h4
      obtain ⟨j, hj⟩ : ∃ j, i = j + 1 := ⟨i - 1, by omega⟩
      have HCy := Lib.hid (show World.cell? wr ⟨g, off + j, none⟩ = some (.int .i64 y) by rw [show j = i - 1 by omega]; exact h4)
      have e3 : IntKind.i64.wrap (j : Int) = (j : Int) := IntWalk.i64_in _ (by omega)
      have q5 : (0 : Int) ≤ (j : Int) := by omega
      have q6 : (j : Int) < (c.seeds.length : Int) := by omega
      have Hy := Lib.hid hy
      clear h4
      by_cases hlt2 : y < x
      · have q7 : ¬ x ≤ y := by omega
        have HOk2 := Lib.hid (show ∀ k (hk : k < c.seeds.length), k < i + 1 → (1 ≤ c.seeds[k] ∧ c.seeds[k] ≤ 12) ∧ ∀ h : 0 < k, c.seeds[k - 1] < c.seeds[k] from fun k hk h => by
          by_cases e : k = i
          · subst e
            exact ⟨by rw [hx]; exact is_in hin, fun h => by rw [hx, hy]; exact hlt2⟩
          · exact HOk.out k hk (by omega))
        clear hin hx hy hlt2 hi0
        subst hj
        have q8 : (0 : Int) < (j : Int) + 1 := by omega
        have q9 : (0 : Int) ≤ (j : Int) + 1 := by omega
        have q10 : (j : Int) + 1 < (c.seeds.length : Int) := by omega
        go_wp2_with fail
        refine wp_region_krip (Keep (fun _ => False)) (Keep.refl _) keep0_trans 25 (by kernel_rfl) (by kernel_rfl) (Ts := [none, some (.inl (.slice (some ⟨g, off, none⟩) c.seeds.length cap)), none, none, some (.inl (.int .i64 x)), some (.inl (.bool true)), none, none, none, none, none, none, some (.inl (.slice (some ⟨g, off, none⟩) c.seeds.length cap)), none, none, none, some (.inl (.int .i64 y)), none, some (.inl (.slice (some ⟨g, off, none⟩) c.seeds.length cap)), none, none, some (.inl (.int .i64 x)), none, none, none]) ?_
        simp only [List.take, List.drop]
        refine kAll_p (fun K hK => ?_)
        go_simp
        generalize hZ : (Act.mk _ _) = Z
        refine hK Z ?_
        subst hZ
        clear hK K
        refine kAll_dn _ (fun W hW hF => kStep_of fun K Q hK => ?_) (fun K hK => ?_)
        · have q0 := (HXw.out.keep (keepD (Keep.refl _ _) hW) (fun h => h)).cell 0
          rw [cfgA_get _ _ (by decide)] at q0
          simp only [cfgC, if_true] at q0
          go_simp
          exact hK _ _ (Keep.refl _ _) rfl
        go_simp
        generalize hZ : (Act.mk _ _) = Z
        refine hK Z ?_
        subst hZ
        clear hK K
        refine kAll_p (fun K hK => ?_)
        go_simp
        generalize hZ : (Act.mk _ _) = Z
        refine hK Z ?_
        subst hZ
        clear hK K
        refine kAll_p (fun K hK => ?_)
        go_simp
        generalize hZ : (Act.mk _ _) = Z
        refine hK Z ?_
        subst hZ
        clear hK K
        refine kAll_dn _ (fun W hW hF => kStep_of fun K Q hK => ?_) (fun K hK => ?_)
        · have q1 := (keepD (Keep.refl _ _) hW).cell (HCx.out) (fun h => h)
          go_simp
          exact hK _ _ (Keep.refl _ _) rfl
        go_simp
        generalize hZ : (Act.mk _ _) = Z
        refine hK Z ?_
        subst hZ
        clear hK K
        refine kAll_dn _ (fun W hW hF => kStep_of fun K Q hK => ?_) (fun K hK => ?_)
        · go_simp
          refine (rin_same x 1 12 W).mono ?_
          rintro e w' ⟨rfl, rfl⟩
          rw [HIn.out]
          exact hK _ _ (Keep.refl _ _) rfl
        go_simp
        generalize hZ : (Act.mk _ _) = Z
        refine hK Z ?_
        subst hZ
        clear hK K
        refine kAll_p (fun K hK => ?_)
        go_simp
        generalize hZ : (Act.mk _ _) = Z
        refine hK Z ?_
        subst hZ
        clear hK K
        refine kAll_p (fun K hK => ?_)
        go_simp
        generalize hZ : (Act.mk _ _) = Z
        refine hK Z ?_
        subst hZ
        clear hK K
        refine kAll_pw (by kernel_rfl) (fun K hK => ?_)
        go_simp
        generalize hZ : (Act.mk _ _) = Z
        refine hK Z ?_
        subst hZ
        clear hK K
        refine kAll_pw (by kernel_rfl) (fun K hK => ?_)
        go_simp
        generalize hZ : (Act.mk _ _) = Z
        refine hK Z ?_
        subst hZ
        clear hK K
        refine kAll_pw (by kernel_rfl) (fun K hK => ?_)
        go_simp
        generalize hZ : (Act.mk _ _) = Z
        refine hK Z ?_
        subst hZ
        clear hK K
        refine kAll_pw (by kernel_rfl) (fun K hK => ?_)
        go_simp
        generalize hZ : (Act.mk _ _) = Z
        refine hK Z ?_
        subst hZ
        clear hK K
        refine kAll_dn _ (fun W hW hF => kStep_w (by kernel_rfl) fun K Q hK => ?_) (fun K hK => ?_)
        · have q0 := (HXw.out.keep (keepD (Keep.refl _ _) hW) (fun h => h)).cell 0
          rw [cfgA_get _ _ (by decide)] at q0
          simp only [cfgC, if_true] at q0
          go_simp
          exact hK _ _ (Keep.refl _ _) rfl
        go_simp
        generalize hZ : (Act.mk _ _) = Z
        refine hK Z ?_
        subst hZ
        clear hK K
        refine kAll_pw (by kernel_rfl) (fun K hK => ?_)
        go_simp
        generalize hZ : (Act.mk _ _) = Z
        refine hK Z ?_
        subst hZ
        clear hK K
        refine kAll_pw (by kernel_rfl) (fun K hK => ?_)
        go_simp
        generalize hZ : (Act.mk _ _) = Z
        refine hK Z ?_
        subst hZ
        clear hK K
        refine kAll_pw (by kernel_rfl) (fun K hK => ?_)
        go_simp
        generalize hZ : (Act.mk _ _) = Z
        refine hK Z ?_
        subst hZ
        clear hK K
        refine kAll_dn _ (fun W hW hF => kStep_w (by kernel_rfl) fun K Q hK => ?_) (fun K hK => ?_)
        · have q1 := (keepD (Keep.refl _ _) hW).cell (HCy.out) (fun h => h)
          go_simp
          exact hK _ _ (Keep.refl _ _) rfl
        go_simp
        generalize hZ : (Act.mk _ _) = Z
        refine hK Z ?_
        subst hZ
        clear hK K
        refine kAll_pw (by kernel_rfl) (fun K hK => ?_)
        go_simp
        generalize hZ : (Act.mk _ _) = Z
        refine hK Z ?_
        subst hZ
        clear hK K
        refine kAll_dn _ (fun W hW hF => kStep_w (by kernel_rfl) fun K Q hK => ?_) (fun K hK => ?_)
        · have q0 := (HXw.out.keep (keepD (Keep.refl _ _) hW) (fun h => h)).cell 0
          rw [cfgA_get _ _ (by decide)] at q0
          simp only [cfgC, if_true] at q0
          go_simp
          exact hK _ _ (Keep.refl _ _) rfl
        go_simp
        generalize hZ : (Act.mk _ _) = Z
        refine hK Z ?_
        subst hZ
        clear hK K
        refine kAll_pw (by kernel_rfl) (fun K hK => ?_)
        go_simp
        generalize hZ : (Act.mk _ _) = Z
        refine hK Z ?_
        subst hZ
        clear hK K
        refine kAll_pw (by kernel_rfl) (fun K hK => ?_)
        go_simp
        generalize hZ : (Act.mk _ _) = Z
        refine hK Z ?_
        subst hZ
        clear hK K
        refine kAll_dn _ (fun W hW hF => kStep_w (by kernel_rfl) fun K Q hK => ?_) (fun K hK => ?_)
        · have q1 := (keepD (Keep.refl _ _) hW).cell (HCx.out) (fun h => h)
          go_simp
          exact hK _ _ (Keep.refl _ _) rfl
        go_simp
        generalize hZ : (Act.mk _ _) = Z
        refine hK Z ?_
        subst hZ
        clear hK K
        refine kAll_pw (by kernel_rfl) (fun K hK => ?_)
        go_simp
        generalize hZ : (Act.mk _ _) = Z
        refine hK Z ?_
        subst hZ
        clear hK K
        refine kAll_pw (by kernel_rfl) (fun K hK => ?_)
        go_simp
        generalize hZ : (Act.mk _ _) = Z
        refine hK Z ?_
        subst hZ
        clear hK K
        refine kAll_p (fun K hK => ?_)
        go_simp
        generalize hZ : (Act.mk _ _) = Z
        refine hK Z ?_
        subst hZ
        clear hK K
        refine kAll_nil (fun W hW hF => ?_)
        have HKq := Lib.hid (keep0_trans _ _ _ HKk.out (keepD (Keep.refl _ _) hW))
        clear hF hW
        go_wp2
        go_roundw
        case rel => exact ⟨j + 1 + 1, by omega, by go_num, HOk2, HKq⟩
        case measure => simp [intOf]; omega
      · have q7 : x ≤ y := by omega
        have HF := Lib.hid (show mayM c = false from rise_no fun h => by
          have h1 := (((rise_iff _).1 h).2 i hlt).2 (by omega)
          rw [hx, hy] at h1
          exact hlt2 h1)
        clear hin hx hy hlt2 hi0
        subst hj
        have q8 : (0 : Int) < (j : Int) + 1 := by omega
        have q9 : (0 : Int) ≤ (j : Int) + 1 := by omega
        have q10 : (j : Int) + 1 < (c.seeds.length : Int) := by omega
        go_wp2_with fail
        refine wp_region_krip (Keep (fun _ => False)) (Keep.refl _) keep0_trans 25 (by kernel_rfl) (by kernel_rfl) (Ts := [none, some (.inl (.slice (some ⟨g, off, none⟩) c.seeds.length cap)), none, none, some (.inl (.int .i64 x)), some (.inl (.bool true)), none, none, none, none, none, none, some (.inl (.slice (some ⟨g, off, none⟩) c.seeds.length cap)), none, none, none, some (.inl (.int .i64 y)), none, some (.inl (.slice (some ⟨g, off, none⟩) c.seeds.length cap)), none, none, some (.inl (.int .i64 x)), none, none, none]) ?_
        simp only [List.take, List.drop]
        refine kAll_p (fun K hK => ?_)
        go_simp
        generalize hZ : (Act.mk _ _) = Z
        refine hK Z ?_
        subst hZ
        clear hK K
        refine kAll_dn _ (fun W hW hF => kStep_of fun K Q hK => ?_) (fun K hK => ?_)
        · have q0 := (HXw.out.keep (keepD (Keep.refl _ _) hW) (fun h => h)).cell 0
          rw [cfgA_get _ _ (by decide)] at q0
          simp only [cfgC, if_true] at q0
          go_simp
          exact hK _ _ (Keep.refl _ _) rfl
        go_simp
        generalize hZ : (Act.mk _ _) = Z
        refine hK Z ?_
        subst hZ
        clear hK K
        refine kAll_p (fun K hK => ?_)
        go_simp
        generalize hZ : (Act.mk _ _) = Z
        refine hK Z ?_
        subst hZ
        clear hK K
        refine kAll_p (fun K hK => ?_)
        go_simp
        generalize hZ : (Act.mk _ _) = Z
        refine hK Z ?_
        subst hZ
        clear hK K
        refine kAll_dn _ (fun W hW hF => kStep_of fun K Q hK => ?_) (fun K hK => ?_)
        · have q1 := (keepD (Keep.refl _ _) hW).cell (HCx.out) (fun h => h)
          go_simp
          exact hK _ _ (Keep.refl _ _) rfl
        go_simp
        generalize hZ : (Act.mk _ _) = Z
        refine hK Z ?_
        subst hZ
        clear hK K
        refine kAll_dn _ (fun W hW hF => kStep_of fun K Q hK => ?_) (fun K hK => ?_)
        · go_simp
          refine (rin_same x 1 12 W).mono ?_
          rintro e w' ⟨rfl, rfl⟩
          rw [HIn.out]
          exact hK _ _ (Keep.refl _ _) rfl
        go_simp
        generalize hZ : (Act.mk _ _) = Z
        refine hK Z ?_
        subst hZ
        clear hK K
        refine kAll_p (fun K hK => ?_)
        go_simp
        generalize hZ : (Act.mk _ _) = Z
        refine hK Z ?_
        subst hZ
        clear hK K
        refine kAll_p (fun K hK => ?_)
        go_simp
        generalize hZ : (Act.mk _ _) = Z
        refine hK Z ?_
        subst hZ
        clear hK K
        refine kAll_pw (by kernel_rfl) (fun K hK => ?_)
        go_simp
        generalize hZ : (Act.mk _ _) = Z
        refine hK Z ?_
        subst hZ
        clear hK K
        refine kAll_pw (by kernel_rfl) (fun K hK => ?_)
        go_simp
        generalize hZ : (Act.mk _ _) = Z
        refine hK Z ?_
        subst hZ
        clear hK K
        refine kAll_pw (by kernel_rfl) (fun K hK => ?_)
        go_simp
        generalize hZ : (Act.mk _ _) = Z
        refine hK Z ?_
        subst hZ
        clear hK K
        refine kAll_pw (by kernel_rfl) (fun K hK => ?_)
        go_simp
        generalize hZ : (Act.mk _ _) = Z
        refine hK Z ?_
        subst hZ
        clear hK K
        refine kAll_dn _ (fun W hW hF => kStep_w (by kernel_rfl) fun K Q hK => ?_) (fun K hK => ?_)
        · have q0 := (HXw.out.keep (keepD (Keep.refl _ _) hW) (fun h => h)).cell 0
          rw [cfgA_get _ _ (by decide)] at q0
          simp only [cfgC, if_true] at q0
          go_simp
          exact hK _ _ (Keep.refl _ _) rfl
        go_simp
        generalize hZ : (Act.mk _ _) = Z
        refine hK Z ?_
        subst hZ
        clear hK K
        refine kAll_pw (by kernel_rfl) (fun K hK => ?_)
        go_simp
        generalize hZ : (Act.mk _ _) = Z
        refine hK Z ?_
        subst hZ
        clear hK K
        refine kAll_pw (by kernel_rfl) (fun K hK => ?_)
        go_simp
        generalize hZ : (Act.mk _ _) = Z
        refine hK Z ?_
        subst hZ
        clear hK K
        refine kAll_pw (by kernel_rfl) (fun K hK => ?_)
        go_simp
        generalize hZ : (Act.mk _ _) = Z
        refine hK Z ?_
        subst hZ
        clear hK K
        refine kAll_dn _ (fun W hW hF => kStep_w (by kernel_rfl) fun K Q hK => ?_) (fun K hK => ?_)
        · have q1 := (keepD (Keep.refl _ _) hW).cell (HCy.out) (fun h => h)
          go_simp
          exact hK _ _ (Keep.refl _ _) rfl
        go_simp
        generalize hZ : (Act.mk _ _) = Z
        refine hK Z ?_
        subst hZ
        clear hK K
        refine kAll_pw (by kernel_rfl) (fun K hK => ?_)
        go_simp
        generalize hZ : (Act.mk _ _) = Z
        refine hK Z ?_
        subst hZ
        clear hK K
        refine kAll_dn _ (fun W hW hF => kStep_w (by kernel_rfl) fun K Q hK => ?_) (fun K hK => ?_)
        · have q0 := (HXw.out.keep (keepD (Keep.refl _ _) hW) (fun h => h)).cell 0
          rw [cfgA_get _ _ (by decide)] at q0
          simp only [cfgC, if_true] at q0
          go_simp
          exact hK _ _ (Keep.refl _ _) rfl
        go_simp
        generalize hZ : (Act.mk _ _) = Z
        refine hK Z ?_
        subst hZ
        clear hK K
        refine kAll_pw (by kernel_rfl) (fun K hK => ?_)
        go_simp
        generalize hZ : (Act.mk _ _) = Z
        refine hK Z ?_
        subst hZ
        clear hK K
        refine kAll_pw (by kernel_rfl) (fun K hK => ?_)
        go_simp
        generalize hZ : (Act.mk _ _) = Z
        refine hK Z ?_
        subst hZ
        clear hK K
        refine kAll_dn _ (fun W hW hF => kStep_w (by kernel_rfl) fun K Q hK => ?_) (fun K hK => ?_)
        · have q1 := (keepD (Keep.refl _ _) hW).cell (HCx.out) (fun h => h)
          go_simp
          exact hK _ _ (Keep.refl _ _) rfl
        go_simp
        generalize hZ : (Act.mk _ _) = Z
        refine hK Z ?_
        subst hZ
        clear hK K
        refine kAll_pw (by kernel_rfl) (fun K hK => ?_)
        go_simp
        generalize hZ : (Act.mk _ _) = Z
        refine hK Z ?_
        subst hZ
        clear hK K
        refine kAll_pw (by kernel_rfl) (fun K hK => ?_)
        go_simp
        generalize hZ : (Act.mk _ _) = Z
        refine hK Z ?_
        subst hZ
        clear hK K
        refine kAll_p (fun K hK => ?_)
        go_simp
        generalize hZ : (Act.mk _ _) = Z
        refine hK Z ?_
        subst hZ
        clear hK K
        refine kAll_nil (fun W hW hF => ?_)
        have HKq := Lib.hid (keep0_trans _ _ _ HKk.out (keepD (Keep.refl _ _) hW))
        clear hF hW
        go_wp2
        go_ret
        exact ⟨by rw [HF.out]; rfl, keep0_trans _ _ _ HK0.out HKq.out⟩
    · obtain rfl : i = c.seeds.length := by omega
      have HRise := Lib.hid ((rise_iff c.seeds).2 ⟨by omega, fun k hk => HOk.out k hk hk⟩)
      clear hlt hz
      have c1 : World.cell? wr ⟨w.heap.size, 1, none⟩ = some (.int .i64 (c.v 1)) := by rw [hXw.cell 1, cfgA_get _ _ (by decide)]; rfl
      have c2 : World.cell? wr ⟨w.heap.size, 2, none⟩ = some (.int .i64 (c.v 2)) := by rw [hXw.cell 2, cfgA_get _ _ (by decide)]; rfl
      have c3 : World.cell? wr ⟨w.heap.size, 3, none⟩ = some (.int .i64 (c.v 3)) := by rw [hXw.cell 3, cfgA_get _ _ (by decide)]; rfl
      have c4 : World.cell? wr ⟨w.heap.size, 4, none⟩ = some (.int .i64 (c.v 4)) := by rw [hXw.cell 4, cfgA_get _ _ (by decide)]; rfl
      have c5 : World.cell? wr ⟨w.heap.size, 5, none⟩ = some (.int .i64 (c.v 5)) := by rw [hXw.cell 5, cfgA_get _ _ (by decide)]; rfl
      have c6 : World.cell? wr ⟨w.heap.size, 6, none⟩ = some (.int .i64 (c.v 6)) := by rw [hXw.cell 6, cfgA_get _ _ (by decide)]; rfl
      have c7 : World.cell? wr ⟨w.heap.size, 7, none⟩ = some (.int .i64 (c.v 7)) := by rw [hXw.cell 7, cfgA_get _ _ (by decide)]; rfl
      have c8 : World.cell? wr ⟨w.heap.size, 8, none⟩ = some (.int .u8 (c.v 8)) := by rw [hXw.cell 8, cfgA_get _ _ (by decide)]; rfl
      have c9 : World.cell? wr ⟨w.heap.size, 9, none⟩ = some (.int .i64 (c.v 9)) := by rw [hXw.cell 9, cfgA_get _ _ (by decide)]; rfl
      have c10 : World.cell? wr ⟨w.heap.size, 10, none⟩ = some (.bool (decide (c.v 10 ≠ 0))) := by rw [hXw.cell 10, cfgA_get _ _ (by decide)]; rfl
      have c12 : World.cell? wr ⟨w.heap.size, 12, none⟩ = some (.int .i64 (c.v 12)) := by rw [hXw.cell 12, cfgA_get _ _ (by decide)]; rfl
      have c13 : World.cell? wr ⟨w.heap.size, 13, none⟩ = some (.int .i64 (c.v 13)) := by rw [hXw.cell 13, cfgA_get _ _ (by decide)]; rfl
      have c14 : World.cell? wr ⟨w.heap.size, 14, none⟩ = some (.int .i64 (c.v 14)) := by rw [hXw.cell 14, cfgA_get _ _ (by decide)]; rfl
      have c15 : World.cell? wr ⟨w.heap.size, 15, none⟩ = some (.int .i64 (c.v 15)) := by rw [hXw.cell 15, cfgA_get _ _ (by decide)]; rfl
      have c16 : World.cell? wr ⟨w.heap.size, 16, none⟩ = some (.int .i64 (c.v 16)) := by rw [hXw.cell 16, cfgA_get _ _ (by decide)]; rfl
      clear hXw
      go_wp2_with fail
      refine (rin_same (c.v 1) 1 12 wr).mono ?_
      rintro e w' ⟨rfl, rfl⟩
      rcases Bool.eq_false_or_eq_true (inD (c.v 1) 1 12) with h1 | h1
      case inr =>
        have HF := Lib.hid (show mayM c = false from may_no fun hp => by have h1 := not_in h1; unfold MayP at hp; omega)
        rw [h1]
        clear h1
        go_wp2
        go_ret
        exact ⟨by rw [HF.out]; rfl, keep0_trans _ _ _ HK0.out HKk.out⟩
      have Ph1 := Lib.hid (is_in h1)
      rw [h1]
      clear h1
      go_wp2_with fail
      refine (rin_same (c.v 2) 1 4096 wr).mono ?_
      rintro e w' ⟨rfl, rfl⟩
      rcases Bool.eq_false_or_eq_true (inD (c.v 2) 1 4096) with h2 | h2
      case inr =>
        have HF := Lib.hid (show mayM c = false from may_no fun hp => by have h1 := not_in h2; unfold MayP at hp; omega)
        rw [h2]
        clear h2
        go_wp2
        go_ret
        exact ⟨by rw [HF.out]; rfl, keep0_trans _ _ _ HK0.out HKk.out⟩
      have Ph2 := Lib.hid (is_in h2)
      rw [h2]
      clear h2
      go_wp2_with fail
      refine (rin_same (c.v 3) (c.v 2) 4096 wr).mono ?_
      rintro e w' ⟨rfl, rfl⟩
      rcases Bool.eq_false_or_eq_true (inD (c.v 3) (c.v 2) 4096) with h3 | h3
      case inr =>
        have HF := Lib.hid (show mayM c = false from may_no fun hp => by have h1 := not_in h3; unfold MayP at hp; omega)
        rw [h3]
        clear h3
        go_wp2
        go_ret
        exact ⟨by rw [HF.out]; rfl, keep0_trans _ _ _ HK0.out HKk.out⟩
      have Ph3 := Lib.hid (is_in h3)
      rw [h3]
      clear h3
      go_wp2_with fail
      refine (rin_same (c.v 4) 1 4096 wr).mono ?_
      rintro e w' ⟨rfl, rfl⟩
      rcases Bool.eq_false_or_eq_true (inD (c.v 4) 1 4096) with h4 | h4
      case inr =>
        have HF := Lib.hid (show mayM c = false from may_no fun hp => by have h1 := not_in h4; unfold MayP at hp; omega)
        rw [h4]
        clear h4
        go_wp2
        go_ret
        exact ⟨by rw [HF.out]; rfl, keep0_trans _ _ _ HK0.out HKk.out⟩
      have Ph4 := Lib.hid (is_in h4)
      rw [h4]
      clear h4
      go_wp2_with fail
      refine (rin_same (c.v 5) 1 4096 wr).mono ?_
      rintro e w' ⟨rfl, rfl⟩
      rcases Bool.eq_false_or_eq_true (inD (c.v 5) 1 4096) with h5 | h5
      case inr =>
        have HF := Lib.hid (show mayM c = false from may_no fun hp => by have h1 := not_in h5; unfold MayP at hp; omega)
        rw [h5]
        clear h5
        go_wp2
        go_ret
        exact ⟨by rw [HF.out]; rfl, keep0_trans _ _ _ HK0.out HKk.out⟩
      have Ph5 := Lib.hid (is_in h5)
      rw [h5]
      clear h5
      go_wp2_with fail
      refine (rin_same (c.v 6) 1 4096 wr).mono ?_
      rintro e w' ⟨rfl, rfl⟩
      rcases Bool.eq_false_or_eq_true (inD (c.v 6) 1 4096) with h6 | h6
      case inr =>
        have HF := Lib.hid (show mayM c = false from may_no fun hp => by have h1 := not_in h6; unfold MayP at hp; omega)
        rw [h6]
        clear h6
        go_wp2
        go_ret
        exact ⟨by rw [HF.out]; rfl, keep0_trans _ _ _ HK0.out HKk.out⟩
      have Ph6 := Lib.hid (is_in h6)
      rw [h6]
      clear h6
      go_wp2_with fail
      refine (rin_same (c.v 15) 1 4096 wr).mono ?_
      rintro e w' ⟨rfl, rfl⟩
      rcases Bool.eq_false_or_eq_true (inD (c.v 15) 1 4096) with h15 | h15
      case inr =>
        have HF := Lib.hid (show mayM c = false from may_no fun hp => by have h1 := not_in h15; unfold MayP at hp; omega)
        rw [h15]
        clear h15
        go_wp2
        go_ret
        exact ⟨by rw [HF.out]; rfl, keep0_trans _ _ _ HK0.out HKk.out⟩
      have Ph15 := Lib.hid (is_in h15)
      rw [h15]
      clear h15
      go_wp2_with fail
      refine (rin_same (c.v 16) 1 4096 wr).mono ?_
      rintro e w' ⟨rfl, rfl⟩
      rcases Bool.eq_false_or_eq_true (inD (c.v 16) 1 4096) with h16 | h16
      case inr =>
        have HF := Lib.hid (show mayM c = false from may_no fun hp => by have h1 := not_in h16; unfold MayP at hp; omega)
        rw [h16]
        clear h16
        go_wp2
        go_ret
        exact ⟨by rw [HF.out]; rfl, keep0_trans _ _ _ HK0.out HKk.out⟩
      have Ph16 := Lib.hid (is_in h16)
      rw [h16]
      clear h16
      go_wp2_with fail
      refine (rin_same (c.v 7) 0 4096 wr).mono ?_
      rintro e w' ⟨rfl, rfl⟩
      rcases Bool.eq_false_or_eq_true (inD (c.v 7) 0 4096) with h7 | h7
      case inr =>
        have HF := Lib.hid (show mayM c = false from may_no fun hp => by have h1 := not_in h7; unfold MayP at hp; omega)
        rw [h7]
        clear h7
        go_wp2
        go_ret
        exact ⟨by rw [HF.out]; rfl, keep0_trans _ _ _ HK0.out HKk.out⟩
      have Ph7 := Lib.hid (is_in h7)
      rw [h7]
      clear h7
      obtain ⟨b10, hb10⟩ : ∃ b, decide (c.v 10 ≠ 0) = b := ⟨_, rfl⟩
      rw [hb10] at c10
      have HB10 := Lib.hid hb10
      clear hb10
      by_cases ha : b10 = true ∧ ¬ c.v 8 = 3
      · obtain ⟨rfl, h83⟩ := ha
        have HF := Lib.hid (show mayM c = false from may_no fun hp => by have h1 := of_decide_eq_true HB10.out; unfold MayP at hp; omega)
        go_wp2
        go_ret
        exact ⟨by rw [HF.out]; rfl, keep0_trans _ _ _ HK0.out HKk.out⟩
      have HAl := Lib.hid (show c.v 10 = 0 ∨ c.v 8 = 3 by
        rcases Bool.eq_false_or_eq_true b10 with e | e
        · exact .inr (Classical.byContradiction fun h => ha ⟨e, h⟩)
        · rw [e] at HB10; exact .inl (by have := of_decide_eq_false HB10.out; omega))
      have hb : b10 = false ∨ (b10 = true ∧ c.v 8 = 3) := by
        rcases Bool.eq_false_or_eq_true b10 with e | e
        · exact .inr ⟨e, Classical.byContradiction fun h => ha ⟨e, h⟩⟩
        · exact .inl e
      clear ha HB10
      by_cases h81 : c.v 8 = 1
      · rcases hb with rfl | ⟨_, h⟩
        case inr => exact absurd (h.symm.trans h81) (by decide)
        go_wp2_with fail
        refine (rin_same (c.v 9) 1 12 wr).mono ?_
        rintro e w' ⟨rfl, rfl⟩
        rcases Bool.eq_false_or_eq_true (inD (c.v 9) 1 12) with k9 | k9
        case inr =>
          have HF := Lib.hid (show mayM c = false from may_no fun hp => by  have h1 := not_in k9; unfold MayP at hp; omega)
          rw [k9]
          clear k9
          go_wp2
          go_ret
          exact ⟨by rw [HF.out]; rfl, keep0_trans _ _ _ HK0.out HKk.out⟩
        have Pk9 := Lib.hid (is_in k9)
        rw [k9]
        clear k9
        rcases Bool.eq_false_or_eq_true (c.v 12 == 0) with z12 | z12
        case inr =>
          have HF := Lib.hid (show mayM c = false from may_no fun hp => by have h1 := beq_eq_false_iff_ne.1 z12; unfold MayP at hp; omega)
          go_wp2
          go_ret
          exact ⟨by rw [HF.out]; rfl, keep0_trans _ _ _ HK0.out HKk.out⟩
        have Pz12 := Lib.hid (beq_iff_eq.1 z12)
        rcases Bool.eq_false_or_eq_true (c.v 13 == 0) with z13 | z13
        case inr =>
          have HF := Lib.hid (show mayM c = false from may_no fun hp => by have h1 := beq_eq_false_iff_ne.1 z13; unfold MayP at hp; omega)
          go_wp2
          go_ret
          exact ⟨by rw [HF.out]; rfl, keep0_trans _ _ _ HK0.out HKk.out⟩
        have Pz13 := Lib.hid (beq_iff_eq.1 z13)
        rcases Bool.eq_false_or_eq_true (c.v 14 == 0) with z14 | z14
        case inr =>
          have HF := Lib.hid (show mayM c = false from may_no fun hp => by have h1 := beq_eq_false_iff_ne.1 z14; unfold MayP at hp; omega)
          go_wp2
          go_ret
          exact ⟨by rw [HF.out]; rfl, keep0_trans _ _ _ HK0.out HKk.out⟩
        have Pz14 := Lib.hid (beq_iff_eq.1 z14)
        have HF := Lib.hid (show mayM c = true from (may_iff c).2 ⟨HRise.out, by have g1 := Ph1.out; have g2 := Ph2.out; have g3 := Ph3.out; have g4 := Ph4.out; have g5 := Ph5.out; have g6 := Ph6.out; have g15 := Ph15.out; have g16 := Ph16.out; have g7 := Ph7.out; have gAl := HAl.out; have k9 := Pk9.out; have z12 := Pz12.out; have z13 := Pz13.out; have z14 := Pz14.out; unfold MayP; omega⟩)
        go_wp2
        go_ret
        exact ⟨by rw [HF.out]; rfl, keep0_trans _ _ _ HK0.out HKk.out⟩
      by_cases h82 : c.v 8 = 2
      · rcases hb with rfl | ⟨_, h⟩
        case inr => exact absurd (h.symm.trans h82) (by decide)
        rcases Bool.eq_false_or_eq_true (c.v 9 == 0) with z9 | z9
        case inr =>
          have HF := Lib.hid (show mayM c = false from may_no fun hp => by have h1 := beq_eq_false_iff_ne.1 z9; unfold MayP at hp; omega)
          go_wp2
          go_ret
          exact ⟨by rw [HF.out]; rfl, keep0_trans _ _ _ HK0.out HKk.out⟩
        have Pz9 := Lib.hid (beq_iff_eq.1 z9)
        rcases Bool.eq_false_or_eq_true (c.v 12 == 0) with z12 | z12
        case inr =>
          have HF := Lib.hid (show mayM c = false from may_no fun hp => by have h1 := beq_eq_false_iff_ne.1 z12; unfold MayP at hp; omega)
          go_wp2
          go_ret
          exact ⟨by rw [HF.out]; rfl, keep0_trans _ _ _ HK0.out HKk.out⟩
        have Pz12 := Lib.hid (beq_iff_eq.1 z12)
        rcases Bool.eq_false_or_eq_true (c.v 13 == 0) with z13 | z13
        case inr =>
          have HF := Lib.hid (show mayM c = false from may_no fun hp => by have h1 := beq_eq_false_iff_ne.1 z13; unfold MayP at hp; omega)
          go_wp2
          go_ret
          exact ⟨by rw [HF.out]; rfl, keep0_trans _ _ _ HK0.out HKk.out⟩
        have Pz13 := Lib.hid (beq_iff_eq.1 z13)
        rcases Bool.eq_false_or_eq_true (c.v 14 == 0) with z14 | z14
        case inr =>
          have HF := Lib.hid (show mayM c = false from may_no fun hp => by have h1 := beq_eq_false_iff_ne.1 z14; unfold MayP at hp; omega)
          go_wp2
          go_ret
          exact ⟨by rw [HF.out]; rfl, keep0_trans _ _ _ HK0.out HKk.out⟩
        have Pz14 := Lib.hid (beq_iff_eq.1 z14)
        have HF := Lib.hid (show mayM c = true from (may_iff c).2 ⟨HRise.out, by have g1 := Ph1.out; have g2 := Ph2.out; have g3 := Ph3.out; have g4 := Ph4.out; have g5 := Ph5.out; have g6 := Ph6.out; have g15 := Ph15.out; have g16 := Ph16.out; have g7 := Ph7.out; have gAl := HAl.out; have z9 := Pz9.out; have z12 := Pz12.out; have z13 := Pz13.out; have z14 := Pz14.out; unfold MayP; omega⟩)
        go_wp2
        go_ret
        exact ⟨by rw [HF.out]; rfl, keep0_trans _ _ _ HK0.out HKk.out⟩
      by_cases h83 : c.v 8 = 3
      · rcases hb with rfl | ⟨rfl, _⟩
        all_goals
          rcases Bool.eq_false_or_eq_true (c.v 9 == 0) with z9 | z9
          case inr =>
            have HF := Lib.hid (show mayM c = false from may_no fun hp => by have h1 := beq_eq_false_iff_ne.1 z9; unfold MayP at hp; omega)
            go_wp2
            go_ret
            exact ⟨by rw [HF.out]; rfl, keep0_trans _ _ _ HK0.out HKk.out⟩
          have Pz9 := Lib.hid (beq_iff_eq.1 z9)
          rcases Bool.eq_false_or_eq_true (c.v 12 == 0) with z12 | z12
          case inr =>
            have HF := Lib.hid (show mayM c = false from may_no fun hp => by have h1 := beq_eq_false_iff_ne.1 z12; unfold MayP at hp; omega)
            go_wp2
            go_ret
            exact ⟨by rw [HF.out]; rfl, keep0_trans _ _ _ HK0.out HKk.out⟩
          have Pz12 := Lib.hid (beq_iff_eq.1 z12)
          rcases Bool.eq_false_or_eq_true (c.v 13 == 0) with z13 | z13
          case inr =>
            have HF := Lib.hid (show mayM c = false from may_no fun hp => by have h1 := beq_eq_false_iff_ne.1 z13; unfold MayP at hp; omega)
            go_wp2
            go_ret
            exact ⟨by rw [HF.out]; rfl, keep0_trans _ _ _ HK0.out HKk.out⟩
          have Pz13 := Lib.hid (beq_iff_eq.1 z13)
          rcases Bool.eq_false_or_eq_true (c.v 14 == 0) with z14 | z14
          case inr =>
            have HF := Lib.hid (show mayM c = false from may_no fun hp => by have h1 := beq_eq_false_iff_ne.1 z14; unfold MayP at hp; omega)
            go_wp2
            go_ret
            exact ⟨by rw [HF.out]; rfl, keep0_trans _ _ _ HK0.out HKk.out⟩
          have Pz14 := Lib.hid (beq_iff_eq.1 z14)
          have HF := Lib.hid (show mayM c = true from (may_iff c).2 ⟨HRise.out, by have g1 := Ph1.out; have g2 := Ph2.out; have g3 := Ph3.out; have g4 := Ph4.out; have g5 := Ph5.out; have g6 := Ph6.out; have g15 := Ph15.out; have g16 := Ph16.out; have g7 := Ph7.out; have gAl := HAl.out; have z9 := Pz9.out; have z12 := Pz12.out; have z13 := Pz13.out; have z14 := Pz14.out; unfold MayP; omega⟩)
          go_wp2
          go_ret
          exact ⟨by rw [HF.out]; rfl, keep0_trans _ _ _ HK0.out HKk.out⟩
      rcases hb with rfl | ⟨_, h⟩
      case inr => exact absurd h h83
      by_cases h84 : c.v 8 = 4
      · rcases Bool.eq_false_or_eq_true (c.v 9 == 0) with z9 | z9
        case inr =>
          have HF := Lib.hid (show mayM c = false from may_no fun hp => by have h1 := beq_eq_false_iff_ne.1 z9; unfold MayP at hp; omega)
          go_wp2
          go_ret
          exact ⟨by rw [HF.out]; rfl, keep0_trans _ _ _ HK0.out HKk.out⟩
        have Pz9 := Lib.hid (beq_iff_eq.1 z9)
        go_wp2_with fail
        refine (rin_same (c.v 12) 0 4096 wr).mono ?_
        rintro e w' ⟨rfl, rfl⟩
        rcases Bool.eq_false_or_eq_true (inD (c.v 12) 0 4096) with k12 | k12
        case inr =>
          have HF := Lib.hid (show mayM c = false from may_no fun hp => by  have h1 := not_in k12; unfold MayP at hp; omega)
          rw [k12]
          clear k12
          go_wp2
          go_ret
          exact ⟨by rw [HF.out]; rfl, keep0_trans _ _ _ HK0.out HKk.out⟩
        have Pk12 := Lib.hid (is_in k12)
        rw [k12]
        clear k12
        go_wp2_with fail
        refine (rin_same (c.v 13) 1 4096 wr).mono ?_
        rintro e w' ⟨rfl, rfl⟩
        rcases Bool.eq_false_or_eq_true (inD (c.v 13) 1 4096) with k13 | k13
        case inr =>
          have HF := Lib.hid (show mayM c = false from may_no fun hp => by  have h1 := not_in k13; unfold MayP at hp; omega)
          rw [k13]
          clear k13
          go_wp2
          go_ret
          exact ⟨by rw [HF.out]; rfl, keep0_trans _ _ _ HK0.out HKk.out⟩
        have Pk13 := Lib.hid (is_in k13)
        rw [k13]
        clear k13
        have e1 : IntKind.i64.wrap (c.v 13 - 1) = c.v 13 - 1 := IntWalk.i64_in _ (by have := Pk13.out; omega)
        go_wp2_with fail
        refine (rin_same (c.v 14) 1 (c.v 13 - 1) wr).mono ?_
        rintro e w' ⟨rfl, rfl⟩
        rcases Bool.eq_false_or_eq_true (inD (c.v 14) 1 (c.v 13 - 1)) with k14 | k14
        case inr =>
          have HF := Lib.hid (show mayM c = false from may_no fun hp => by have k13 := Pk13.out; have h1 := not_in k14; unfold MayP at hp; omega)
          rw [k14]
          clear k14
          go_wp2
          go_ret
          exact ⟨by rw [HF.out]; rfl, keep0_trans _ _ _ HK0.out HKk.out⟩
        have Pk14 := Lib.hid (is_in k14)
        rw [k14]
        clear k14
        have HF := Lib.hid (show mayM c = true from (may_iff c).2 ⟨HRise.out, by have g1 := Ph1.out; have g2 := Ph2.out; have g3 := Ph3.out; have g4 := Ph4.out; have g5 := Ph5.out; have g6 := Ph6.out; have g15 := Ph15.out; have g16 := Ph16.out; have g7 := Ph7.out; have gAl := HAl.out; have z9 := Pz9.out; have k12 := Pk12.out; have k13 := Pk13.out; have k14 := Pk14.out; unfold MayP; omega⟩)
        go_wp2
        go_ret
        exact ⟨by rw [HF.out]; rfl, keep0_trans _ _ _ HK0.out HKk.out⟩
      have HF := Lib.hid (show mayM c = false from may_no fun hp => by unfold MayP at hp; omega)
      go_wp2
      go_ret
      exact ⟨by rw [HF.out]; rfl, keep0_trans _ _ _ HK0.out HKk.out⟩
end Go.Proofs.YtjgkalcldekmpaaGreatDoor
