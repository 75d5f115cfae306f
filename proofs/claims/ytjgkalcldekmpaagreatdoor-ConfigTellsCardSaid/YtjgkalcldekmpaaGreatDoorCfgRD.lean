/-
  coveyref26: Same. Written by gen_rd.py.
-/
import Derived.Test.YtjgkalcldekmpaaGreatDoorCfgRA
namespace Go.Proofs.YtjgkalcldekmpaaGreatDoor
open Go.RowKit Go Go.Shelf
set_option maxRecDepth 100000
attribute [local go_sem] bs_toList bs_size bs_zero
attribute [local irreducible] kAll
attribute [local go_sem] kQuiet kQuietUpon

theorem wp_pickB {P : Program} {o : Oper} {a : Act} {w : World} {K : Act → World → Prop} {Q : Exit → Act → World → Prop} {g : Bool} (c x y : Operand) (ho : o.op = .pick c x y) (hc : a.eval c = .bool g) (hK : K (a.put o.dst (if g = true then a.eval x else a.eval y)) w) : o.wp P a w K Q := by
  unfold Oper.wp execOp
  simp only [ho, hc]
  cases g
  · simp [asBool]; exact hK
  · simp [asBool]; exact hK
theorem pick_val {g e G : Bool} {u : Value} (hG : (g && e) = G) (hu : g = true → u = .bool e) : (if g = true then u else .bool false) = .bool G := by
  subst hG
  cases g with
  | true => rw [if_pos rfl, hu rfl]; rfl
  | false => rfl
theorem dd_inj {a b : Nat} (h : Lib.decDigits a = Lib.decDigits b) : a = b := by rw [← (dd_facts a).2.1, h, (dd_facts b).2.1]
theorem dd_no {a : Nat} {r : Bs} (c : UInt8) (hc : digB c = false) : Lib.decDigits a ≠ c :: r := fun e => by
  have := (dd_facts a).1
  rw [e, List.all_cons, hc] at this
  cases this
theorem itoa_inj {a b : Int} (h : Lib.itoa a = Lib.itoa b) : a = b := by
  unfold Lib.itoa at h
  split at h
  · split at h
    · injection h with _ h
      have := dd_inj h; omega
    · exact absurd h.symm (dd_no 45 (by decide))
  · split at h
    · exact absurd h (dd_no 45 (by decide))
    · have := dd_inj h; omega
theorem itoa_ne (a : Int) : Lib.itoa a ≠ [] := by
  unfold Lib.itoa
  split
  · simp
  · exact (dd_facts _).2.2.1
theorem showN_inj {a b : Int} : showN a = showN b ↔ a = b := by
  constructor
  · intro h
    unfold showN at h
    split at h
    · split at h
      · omega
      · exact absurd h.symm (itoa_ne _)
    · split at h
      · exact absurd h (itoa_ne _)
      · exact itoa_inj h
  · rintro rfl; rfl
theorem NMS_inj : ∀ a b : Fin 5, NMS.getD a.1 [] = NMS.getD b.1 [] → a = b := by decide +kernel
theorem NMS_no : ∀ a : Fin 5, (NMS.getD a.1 []).head? ≠ some 63 := by decide +kernel
theorem stratB_inj {a b : Int} (ha : 0 ≤ a) (hb : 0 ≤ b) : stratB a = stratB b ↔ a = b := by
  constructor
  · intro h
    unfold stratB at h
    split at h
    · split at h
      · have := NMS_inj ⟨a.toNat, by omega⟩ ⟨b.toNat, by omega⟩ h
        injection this with this
        omega
      · exact absurd (by rw [h]; rfl) (NMS_no ⟨a.toNat, by omega⟩)
    · split at h
      · exact absurd (by rw [← h]; rfl) (NMS_no ⟨b.toNat, by omega⟩)
      · injection h with _ h
        exact itoa_inj h
  · rintro rfl; rfl
theorem flagB_inj {a b : Int} : flagB a = flagB b ↔ decide (a ≠ 0) = decide (b ≠ 0) := by
  unfold flagB
  by_cases h1 : a = 0 <;> by_cases h2 : b = 0 <;> simp [h1, h2, yesB]
/-- is field i the same? -/
def eqF (i : Nat) (a b : Cfg) : Bool := if i = 10 ∨ i = 11 then decide (a.v i ≠ 0) == decide (b.v i ≠ 0) else a.v i == b.v i
theorem eqF_show {a b : Cfg} (ha : WfC a) (hb : WfC b) {i : Nat} (h0 : i ≠ 0) : eqF i a b = decide (showM i a = showM i b) := by
  unfold eqF showM
  rw [if_neg h0, if_neg h0]
  by_cases h8 : i = 8
  · subst h8
    rw [if_neg (by decide), if_pos rfl, if_pos rfl, Bool.eq_iff_iff, beq_iff_eq, decide_eq_true_eq]
    exact (stratB_inj ha.s8.1 hb.s8.1).symm
  · rw [if_neg h8, if_neg h8]
    by_cases hf : i = 10 ∨ i = 11
    · rw [if_pos hf, if_pos hf, if_pos hf, Bool.eq_iff_iff, beq_iff_eq, decide_eq_true_eq]
      exact flagB_inj.symm
    · rw [if_neg hf, if_neg hf, if_neg hf, Bool.eq_iff_iff, beq_iff_eq, decide_eq_true_eq]
      exact showN_inj.symm
theorem same_no {a b : Cfg} (ha : WfC a) (hb : WfC b) {i : Nat} (h0 : i ≠ 0) (hi : i < 17) (h : eqF i a b = false) : sameM a b = false :=
  sameM_no hi (of_decide_eq_false ((eqF_show ha hb h0).symm.trans h))
theorem same_yes {a b : Cfg} (ha : WfC a) (hb : WfC b) (hs : a.seeds = b.seeds) (h : ∀ i, 0 < i → i < 17 → eqF i a b = true) : sameM a b = true := by
  unfold sameM
  rw [Bool.and_eq_true]
  refine ⟨decide_eq_true hs, List.all_eq_true.2 fun i hi => ?_⟩
  by_cases h0 : i = 0
  · subst h0
    exact decide_eq_true (show Lib.join (a.seeds.map Lib.itoa) [44, 32] = Lib.join (b.seeds.map Lib.itoa) [44, 32] by rw [hs])
  · rw [← eqF_show ha hb h0]
    exact h i (by omega) (List.mem_range.1 hi)
theorem same_chain {a b : Cfg} (ha : WfC a) (hb : WfC b) (hs : a.seeds = b.seeds) {g : Bool} (h : (((((((((((((((eqF 1 a b && eqF 2 a b) && eqF 3 a b) && eqF 4 a b) && eqF 5 a b) && eqF 6 a b) && eqF 7 a b) && eqF 8 a b) && eqF 9 a b) && eqF 10 a b) && eqF 11 a b) && eqF 12 a b) && eqF 13 a b) && eqF 14 a b) && eqF 15 a b) && eqF 16 a b) = g) : sameM a b = g := by
  cases g with
  | true =>
    simp only [Bool.and_eq_true] at h
    refine same_yes ha hb hs (fun i h1 h2 => ?_)
    have hsel : i = 1 ∨ i = 2 ∨ i = 3 ∨ i = 4 ∨ i = 5 ∨ i = 6 ∨ i = 7 ∨ i = 8 ∨ i = 9 ∨ i = 10 ∨ i = 11 ∨ i = 12 ∨ i = 13 ∨ i = 14 ∨ i = 15 ∨ i = 16 := by omega
    rcases hsel with rfl | rfl | rfl | rfl | rfl | rfl | rfl | rfl | rfl | rfl | rfl | rfl | rfl | rfl | rfl | rfl
    all_goals simp only [h]
  | false =>
    refine Bool.eq_false_iff.2 fun he => ?_
    have hi : ∀ i, i ≠ 0 → i < 17 → eqF i a b = true := fun i h0 h1 => Classical.byContradiction fun hn => by
      rw [same_no ha hb h0 h1 (by simpa using hn)] at he; cases he
    rw [hi 1 (by decide) (by decide), hi 2 (by decide) (by decide), hi 3 (by decide) (by decide), hi 4 (by decide) (by decide), hi 5 (by decide) (by decide), hi 6 (by decide) (by decide), hi 7 (by decide) (by decide), hi 8 (by decide) (by decide), hi 9 (by decide) (by decide), hi 10 (by decide) (by decide), hi 11 (by decide) (by decide), hi 12 (by decide) (by decide), hi 13 (by decide) (by decide), hi 14 (by decide) (by decide), hi 15 (by decide) (by decide), hi 16 (by decide) (by decide)] at h
    cases h
theorem same_seeds {a b : Cfg} (h : ¬ a.seeds = b.seeds) : sameM a b = false := by unfold sameM; rw [decide_eq_false h]; rfl
set_option maxHeartbeats 8000000 in
theorem rsame_any (a b : Cfg) (A B : Option Addr) (cA cB : Nat) (ha : WfC a) (hb : WfC b) (w : World) (hA : RdN w A a.seeds.length a.seeds) (hB : RdN w B b.seeds.length b.seeds) :
    Calls Tryz.prog 18 #[.agg (cfgA (.slice A a.seeds.length cA) a.v), .agg (cfgA (.slice B b.seeds.length cB) b.v)] w (Tell (.bool (sameM a b)) w) := by
  have hk0 : Keep (fun _ => False) w ((w.alloc (.cells (cfgA (.slice A a.seeds.length cA) a.v) 25)).alloc (.cells (cfgA (.slice B b.seeds.length cB) b.v) 25)) := ((Keep.refl _ w).alloc _).alloc _
  have hX := (Blk.new w 25 (cfgA (.slice A a.seeds.length cA) a.v)).alloc (.cells (cfgA (.slice B b.seeds.length cB) b.v) 25)
  have hY : Blk ((w.alloc (.cells (cfgA (.slice A a.seeds.length cA) a.v) 25)).alloc (.cells (cfgA (.slice B b.seeds.length cB) b.v) 25)) (w.heap.size + 1) 25 (cfgA (.slice B b.seeds.length cB) b.v) := Blk.new_ (by simp) _ _
  obtain ⟨W0, hW0⟩ : ∃ W0, (w.alloc (.cells (cfgA (.slice A a.seeds.length cA) a.v) 25)).alloc (.cells (cfgA (.slice B b.seeds.length cB) b.v) 25) = W0 := ⟨_, rfl⟩
  rw [hW0] at hk0 hX hY
  have x0 := hX.cell 0
  have y0 := hY.cell 0
  rw [cfgA_get _ _ (by decide)] at x0 y0
  simp only [cfgC, if_true] at x0 y0
  have HX := Lib.hid hX
  have HY := Lib.hid hY
  have HK0 := Lib.hid hk0
  have HA := Lib.hid (hA.keep0 hk0)
  have HB := Lib.hid (hB.keep0 hk0)
  have HWa := Lib.hid ha
  have HWb := Lib.hid hb
  have hla := ha.len
  have hlb := hb.len
  clear hX hY hk0 hA hB ha hb
  go_enter Tryz.func18, Tryz.ntmps18
  by_cases hle : a.seeds.length = b.seeds.length
  case neg =>
    have HF := Lib.hid (same_seeds (a := a) (b := b) (fun e => hle (by rw [e])))
    have q1 : ((a.seeds.length : Int) != (b.seeds.length : Int)) = true := by rw [bne, beq_eq_false_iff_ne.2 (by omega)]; rfl
    clear hle
    go_wp2
    go_ret
    exact ⟨by rw [HF.out]; rfl, HK0.out⟩
  have q1 : ((a.seeds.length : Int) != (b.seeds.length : Int)) = false := by rw [bne, beq_iff_eq.2 (by omega)]; rfl
  have HLe := Lib.hid hle
  clear hle
  go_upto_region 4 with fail
  clear hW0 x0 y0 q1
  go_loopw [5] (fun j wr => ∃ i : Nat, i ≤ a.seeds.length ∧ j = .int .i64 (i : Int) ∧ Hid (a.seeds.take i = b.seeds.take i) ∧ Hid (Keep (fun _ => False) W0 wr)) (fun j _ => a.seeds.length - (intOf j).toNat)
  case atStart => exact ⟨0, Nat.zero_le _, rfl, Lib.hid (by simp), Lib.hid (Keep.refl _ _)⟩
  case round =>
    obtain ⟨i, hil, rfl, HOk, HKk⟩ := hrel
    have e2 : IntKind.i64.wrap ((i : Int) + 1) = (i : Int) + 1 := IntWalk.i64_in _ (by omega)
    have hXw := HX.out.keep HKk.out (fun h => h)
    have hYw := HY.out.keep HKk.out (fun h => h)
    have HXw := Lib.hid hXw
    have HYw := Lib.hid hYw
    have x0 := hXw.cell 0
    have y0 := hYw.cell 0
    rw [cfgA_get _ _ (by decide)] at x0 y0
    simp only [cfgC, if_true] at x0 y0
    by_cases hlt : i < a.seeds.length
    · have hltb : i < b.seeds.length := by have := HLe.out; omega
      have q2 : (i : Int) < (a.seeds.length : Int) := by omega
      have q3 : (0 : Int) ≤ (i : Int) := by omega
      have q4 : (i : Int) < (b.seeds.length : Int) := by omega
      obtain ⟨g1, o1, v0, rfl, h1, h2⟩ := (HA.out.keep0 HKk.out).2 i (by omega)
      rw [List.getElem?_map, List.getElem?_eq_getElem hlt] at h1
      simp only [Option.map_some, Option.some.injEq] at h1
      subst h1
      obtain ⟨g2, o2, v1, rfl, h3, h4⟩ := (HB.out.keep0 HKk.out).2 i (by omega)
      rw [List.getElem?_map, List.getElem?_eq_getElem hltb] at h3
      simp only [Option.map_some, Option.some.injEq] at h3
      subst h3
      have hta : a.seeds.take (i + 1) = a.seeds.take i ++ [a.seeds[i]] := by rw [List.take_add_one, List.getElem?_eq_getElem hlt]; rfl
      have htb : b.seeds.take (i + 1) = b.seeds.take i ++ [b.seeds[i]] := by rw [List.take_add_one, List.getElem?_eq_getElem hltb]; rfl
      have hne : a.seeds[i] ≠ b.seeds[i] → ¬ a.seeds = b.seeds := fun h e => h (by simp only [e])
      obtain ⟨x, hx⟩ : ∃ x, a.seeds[i] = x := ⟨_, rfl⟩
      obtain ⟨y, hy⟩ : ∃ y, b.seeds[i] = y := ⟨_, rfl⟩
      rw [hx] at h2 hta hne
      rw [hy] at h4 htb hne
      have HCx := Lib.hid h2
      have HCy := Lib.hid h4
      have HTa := Lib.hid hta
      have HTb := Lib.hid htb
      have HNe := Lib.hid hne
      clear h2 h4 hXw hYw hx hy hta htb hne
      by_cases hxy : x = y
      · have q5 : (x == y) = true := beq_iff_eq.2 hxy
        have HOk2 := Lib.hid (show a.seeds.take (i + 1) = b.seeds.take (i + 1) by rw [HTa.out, HTb.out, HOk.out, hxy])
        clear hxy
        go_wp2_with fail
        refine wp_region_krip (Keep (fun _ => False)) (Keep.refl _) keep0_trans 11 (by kernel_rfl) (by kernel_rfl) (Ts := [none, some (.inl (.slice (some ⟨g1, o1, none⟩) a.seeds.length cA)), none, none, some (.inl (.int .i64 x)), none, some (.inl (.slice (some ⟨g2, o2, none⟩) b.seeds.length cB)), none, none, some (.inl (.int .i64 y)), none]) ?_
        simp only [List.take, List.drop]
        refine kAll_p (fun K hK => ?_)
        go_simp
        generalize hZ : (Act.mk _ _) = Z
        refine hK Z ?_
        subst hZ
        clear hK K
        refine kAll_dn _ (fun W hW hF => kStep_of fun K Q hK => ?_) (fun K hK => ?_)
        · have q0 := (HXw.out.keep (keepD (Keep.refl _ _) hW) (fun h => h)).cell 0
          rw [cfgA_get _ _ (by decide)] at q0
          simp only [cfgC, if_true] at q0
          go_simp
          exact hK _ _ (Keep.refl _ _) rfl
        go_simp
        generalize hZ : (Act.mk _ _) = Z
        refine hK Z ?_
        subst hZ
        clear hK K
        refine kAll_p (fun K hK => ?_)
        go_simp
        generalize hZ : (Act.mk _ _) = Z
        refine hK Z ?_
        subst hZ
        clear hK K
        refine kAll_p (fun K hK => ?_)
        go_simp
        generalize hZ : (Act.mk _ _) = Z
        refine hK Z ?_
        subst hZ
        clear hK K
        refine kAll_dn _ (fun W hW hF => kStep_of fun K Q hK => ?_) (fun K hK => ?_)
        · have q1 := (keepD (Keep.refl _ _) hW).cell (HCx.out) (fun h => h)
          go_simp
          exact hK _ _ (Keep.refl _ _) rfl
        go_simp
        generalize hZ : (Act.mk _ _) = Z
        refine hK Z ?_
        subst hZ
        clear hK K
        refine kAll_p (fun K hK => ?_)
        go_simp
        generalize hZ : (Act.mk _ _) = Z
        refine hK Z ?_
        subst hZ
        clear hK K
        refine kAll_dn _ (fun W hW hF => kStep_of fun K Q hK => ?_) (fun K hK => ?_)
        · have q0 := (HYw.out.keep (keepD (Keep.refl _ _) hW) (fun h => h)).cell 0
          rw [cfgA_get _ _ (by decide)] at q0
          simp only [cfgC, if_true] at q0
          go_simp
          exact hK _ _ (Keep.refl _ _) rfl
        go_simp
        generalize hZ : (Act.mk _ _) = Z
        refine hK Z ?_
        subst hZ
        clear hK K
        refine kAll_p (fun K hK => ?_)
        go_simp
        generalize hZ : (Act.mk _ _) = Z
        refine hK Z ?_
        subst hZ
        clear hK K
        refine kAll_p (fun K hK => ?_)
        go_simp
        generalize hZ : (Act.mk _ _) = Z
        refine hK Z ?_
        subst hZ
        clear hK K
        refine kAll_dn _ (fun W hW hF => kStep_of fun K Q hK => ?_) (fun K hK => ?_)
        · have q1 := (keepD (Keep.refl _ _) hW).cell (HCy.out) (fun h => h)
          go_simp
          exact hK _ _ (Keep.refl _ _) rfl
        go_simp
        generalize hZ : (Act.mk _ _) = Z
        refine hK Z ?_
        subst hZ
        clear hK K
        refine kAll_p (fun K hK => ?_)
        go_simp
        generalize hZ : (Act.mk _ _) = Z
        refine hK Z ?_
        subst hZ
        clear hK K
        refine kAll_nil (fun W hW hF => ?_)
        have HKq := Lib.hid (keep0_trans _ _ _ HKk.out (keepD (Keep.refl _ _) hW))
        clear hF hW
        go_wp2
        go_roundw
        case rel => exact ⟨i + 1, by omega, by go_num, HOk2, HKq⟩
        case measure => simp [intOf]; omega
      · have q5 : (x == y) = false := beq_eq_false_iff_ne.2 hxy
        have HF := Lib.hid (same_seeds (HNe.out hxy))
        clear hxy
        go_wp2_with fail
        refine wp_region_krip (Keep (fun _ => False)) (Keep.refl _) keep0_trans 11 (by kernel_rfl) (by kernel_rfl) (Ts := [none, some (.inl (.slice (some ⟨g1, o1, none⟩) a.seeds.length cA)), none, none, some (.inl (.int .i64 x)), none, some (.inl (.slice (some ⟨g2, o2, none⟩) b.seeds.length cB)), none, none, some (.inl (.int .i64 y)), none]) ?_
        simp only [List.take, List.drop]
        refine kAll_p (fun K hK => ?_)
        go_simp
        generalize hZ : (Act.mk _ _) = Z
        refine hK Z ?_
        subst hZ
        clear hK K
        refine kAll_dn _ (fun W hW hF => kStep_of fun K Q hK => ?_) (fun K hK => ?_)
        · have q0 := (HXw.out.keep (keepD (Keep.refl _ _) hW) (fun h => h)).cell 0
          rw [cfgA_get _ _ (by decide)] at q0
          simp only [cfgC, if_true] at q0
          go_simp
          exact hK _ _ (Keep.refl _ _) rfl
        go_simp
        generalize hZ : (Act.mk _ _) = Z
        refine hK Z ?_
        subst hZ
        clear hK K
        refine kAll_p (fun K hK => ?_)
        go_simp
        generalize hZ : (Act.mk _ _) = Z
        refine hK Z ?_
        subst hZ
        clear hK K
        refine kAll_p (fun K hK => ?_)
        go_simp
        generalize hZ : (Act.mk _ _) = Z
        refine hK Z ?_
        subst hZ
        clear hK K
        refine kAll_dn _ (fun W hW hF => kStep_of fun K Q hK => ?_) (fun K hK => ?_)
        · have q1 := (keepD (Keep.refl _ _) hW).cell (HCx.out) (fun h => h)
          go_simp
          exact hK _ _ (Keep.refl _ _) rfl
        go_simp
        generalize hZ : (Act.mk _ _) = Z
        refine hK Z ?_
        subst hZ
        clear hK K
        refine kAll_p (fun K hK => ?_)
        go_simp
        generalize hZ : (Act.mk _ _) = Z
        refine hK Z ?_
        subst hZ
        clear hK K
        refine kAll_dn _ (fun W hW hF => kStep_of fun K Q hK => ?_) (fun K hK => ?_)
        · have q0 := (HYw.out.keep (keepD (Keep.refl _ _) hW) (fun h => h)).cell 0
          rw [cfgA_get _ _ (by decide)] at q0
          simp only [cfgC, if_true] at q0
          go_simp
          exact hK _ _ (Keep.refl _ _) rfl
        go_simp
        generalize hZ : (Act.mk _ _) = Z
        refine hK Z ?_
        subst hZ
        clear hK K
        refine kAll_p (fun K hK => ?_)
        go_simp
        generalize hZ : (Act.mk _ _) = Z
        refine hK Z ?_
        subst hZ
        clear hK K
        refine kAll_p (fun K hK => ?_)
        go_simp
        generalize hZ : (Act.mk _ _) = Z
        refine hK Z ?_
        subst hZ
        clear hK K
        refine kAll_dn _ (fun W hW hF => kStep_of fun K Q hK => ?_) (fun K hK => ?_)
        · have q1 := (keepD (Keep.refl _ _) hW).cell (HCy.out) (fun h => h)
          go_simp
          exact hK _ _ (Keep.refl _ _) rfl
        go_simp
        generalize hZ : (Act.mk _ _) = Z
        refine hK Z ?_
        subst hZ
        clear hK K
        refine kAll_p (fun K hK => ?_)
        go_simp
        generalize hZ : (Act.mk _ _) = Z
        refine hK Z ?_
        subst hZ
        clear hK K
        refine kAll_nil (fun W hW hF => ?_)
        have HKq := Lib.hid (keep0_trans _ _ _ HKk.out (keepD (Keep.refl _ _) hW))
        clear hF hW
        go_wp2
        go_ret
        exact ⟨by rw [HF.out]; rfl, keep0_trans _ _ _ HK0.out HKq.out⟩
    · obtain rfl : i = a.seeds.length := by omega
      have HSe := Lib.hid (show a.seeds = b.seeds by
        have h1 := HOk.out
        have h2 := HLe.out
        rw [List.take_length, h2, List.take_length] at h1
        exact h1)
      clear hlt
      have a1 : World.cell? wr ⟨w.heap.size, 1, none⟩ = some (.int .i64 (a.v 1)) := by rw [hXw.cell 1, cfgA_get _ _ (by decide)]; rfl
      have b1 : World.cell? wr ⟨w.heap.size + 1, 1, none⟩ = some (.int .i64 (b.v 1)) := by rw [hYw.cell 1, cfgA_get _ _ (by decide)]; rfl
      have a2 : World.cell? wr ⟨w.heap.size, 2, none⟩ = some (.int .i64 (a.v 2)) := by rw [hXw.cell 2, cfgA_get _ _ (by decide)]; rfl
      have b2 : World.cell? wr ⟨w.heap.size + 1, 2, none⟩ = some (.int .i64 (b.v 2)) := by rw [hYw.cell 2, cfgA_get _ _ (by decide)]; rfl
      have a3 : World.cell? wr ⟨w.heap.size, 3, none⟩ = some (.int .i64 (a.v 3)) := by rw [hXw.cell 3, cfgA_get _ _ (by decide)]; rfl
      have b3 : World.cell? wr ⟨w.heap.size + 1, 3, none⟩ = some (.int .i64 (b.v 3)) := by rw [hYw.cell 3, cfgA_get _ _ (by decide)]; rfl
      have a4 : World.cell? wr ⟨w.heap.size, 4, none⟩ = some (.int .i64 (a.v 4)) := by rw [hXw.cell 4, cfgA_get _ _ (by decide)]; rfl
      have b4 : World.cell? wr ⟨w.heap.size + 1, 4, none⟩ = some (.int .i64 (b.v 4)) := by rw [hYw.cell 4, cfgA_get _ _ (by decide)]; rfl
      have a5 : World.cell? wr ⟨w.heap.size, 5, none⟩ = some (.int .i64 (a.v 5)) := by rw [hXw.cell 5, cfgA_get _ _ (by decide)]; rfl
      have b5 : World.cell? wr ⟨w.heap.size + 1, 5, none⟩ = some (.int .i64 (b.v 5)) := by rw [hYw.cell 5, cfgA_get _ _ (by decide)]; rfl
      have a6 : World.cell? wr ⟨w.heap.size, 6, none⟩ = some (.int .i64 (a.v 6)) := by rw [hXw.cell 6, cfgA_get _ _ (by decide)]; rfl
      have b6 : World.cell? wr ⟨w.heap.size + 1, 6, none⟩ = some (.int .i64 (b.v 6)) := by rw [hYw.cell 6, cfgA_get _ _ (by decide)]; rfl
      have a7 : World.cell? wr ⟨w.heap.size, 7, none⟩ = some (.int .i64 (a.v 7)) := by rw [hXw.cell 7, cfgA_get _ _ (by decide)]; rfl
      have b7 : World.cell? wr ⟨w.heap.size + 1, 7, none⟩ = some (.int .i64 (b.v 7)) := by rw [hYw.cell 7, cfgA_get _ _ (by decide)]; rfl
      have a8 : World.cell? wr ⟨w.heap.size, 8, none⟩ = some (.int .u8 (a.v 8)) := by rw [hXw.cell 8, cfgA_get _ _ (by decide)]; rfl
      have b8 : World.cell? wr ⟨w.heap.size + 1, 8, none⟩ = some (.int .u8 (b.v 8)) := by rw [hYw.cell 8, cfgA_get _ _ (by decide)]; rfl
      have a9 : World.cell? wr ⟨w.heap.size, 9, none⟩ = some (.int .i64 (a.v 9)) := by rw [hXw.cell 9, cfgA_get _ _ (by decide)]; rfl
      have b9 : World.cell? wr ⟨w.heap.size + 1, 9, none⟩ = some (.int .i64 (b.v 9)) := by rw [hYw.cell 9, cfgA_get _ _ (by decide)]; rfl
      have a10 : World.cell? wr ⟨w.heap.size, 10, none⟩ = some (.bool (decide (a.v 10 ≠ 0))) := by rw [hXw.cell 10, cfgA_get _ _ (by decide)]; rfl
      obtain ⟨pa10, hpa10⟩ : ∃ p, decide (a.v 10 ≠ 0) = p := ⟨_, rfl⟩
      rw [hpa10] at a10
      have HPa10 := Lib.hid hpa10
      clear hpa10
      have b10 : World.cell? wr ⟨w.heap.size + 1, 10, none⟩ = some (.bool (decide (b.v 10 ≠ 0))) := by rw [hYw.cell 10, cfgA_get _ _ (by decide)]; rfl
      obtain ⟨pb10, hpb10⟩ : ∃ p, decide (b.v 10 ≠ 0) = p := ⟨_, rfl⟩
      rw [hpb10] at b10
      have HPb10 := Lib.hid hpb10
      clear hpb10
      have a11 : World.cell? wr ⟨w.heap.size, 11, none⟩ = some (.bool (decide (a.v 11 ≠ 0))) := by rw [hXw.cell 11, cfgA_get _ _ (by decide)]; rfl
      obtain ⟨pa11, hpa11⟩ : ∃ p, decide (a.v 11 ≠ 0) = p := ⟨_, rfl⟩
      rw [hpa11] at a11
      have HPa11 := Lib.hid hpa11
      clear hpa11
      have b11 : World.cell? wr ⟨w.heap.size + 1, 11, none⟩ = some (.bool (decide (b.v 11 ≠ 0))) := by rw [hYw.cell 11, cfgA_get _ _ (by decide)]; rfl
      obtain ⟨pb11, hpb11⟩ : ∃ p, decide (b.v 11 ≠ 0) = p := ⟨_, rfl⟩
      rw [hpb11] at b11
      have HPb11 := Lib.hid hpb11
      clear hpb11
      have a12 : World.cell? wr ⟨w.heap.size, 12, none⟩ = some (.int .i64 (a.v 12)) := by rw [hXw.cell 12, cfgA_get _ _ (by decide)]; rfl
      have b12 : World.cell? wr ⟨w.heap.size + 1, 12, none⟩ = some (.int .i64 (b.v 12)) := by rw [hYw.cell 12, cfgA_get _ _ (by decide)]; rfl
      have a13 : World.cell? wr ⟨w.heap.size, 13, none⟩ = some (.int .i64 (a.v 13)) := by rw [hXw.cell 13, cfgA_get _ _ (by decide)]; rfl
      have b13 : World.cell? wr ⟨w.heap.size + 1, 13, none⟩ = some (.int .i64 (b.v 13)) := by rw [hYw.cell 13, cfgA_get _ _ (by decide)]; rfl
      have a14 : World.cell? wr ⟨w.heap.size, 14, none⟩ = some (.int .i64 (a.v 14)) := by rw [hXw.cell 14, cfgA_get _ _ (by decide)]; rfl
      have b14 : World.cell? wr ⟨w.heap.size + 1, 14, none⟩ = some (.int .i64 (b.v 14)) := by rw [hYw.cell 14, cfgA_get _ _ (by decide)]; rfl
      have a15 : World.cell? wr ⟨w.heap.size, 15, none⟩ = some (.int .i64 (a.v 15)) := by rw [hXw.cell 15, cfgA_get _ _ (by decide)]; rfl
      have b15 : World.cell? wr ⟨w.heap.size + 1, 15, none⟩ = some (.int .i64 (b.v 15)) := by rw [hYw.cell 15, cfgA_get _ _ (by decide)]; rfl
      have a16 : World.cell? wr ⟨w.heap.size, 16, none⟩ = some (.int .i64 (a.v 16)) := by rw [hXw.cell 16, cfgA_get _ _ (by decide)]; rfl
      have b16 : World.cell? wr ⟨w.heap.size + 1, 16, none⟩ = some (.int .i64 (b.v 16)) := by rw [hYw.cell 16, cfgA_get _ _ (by decide)]; rfl
      clear hXw hYw
      obtain ⟨e1, he1⟩ : ∃ e, (a.v 1 == b.v 1) = e := ⟨_, rfl⟩
      have HE1 := Lib.hid (show eqF 1 a b = e1 from he1)
      obtain ⟨e2, he2⟩ : ∃ e, (a.v 2 == b.v 2) = e := ⟨_, rfl⟩
      have HE2 := Lib.hid (show eqF 2 a b = e2 from he2)
      obtain ⟨G1, hG1⟩ : ∃ g, e1 = g := ⟨_, rfl⟩
      have HG1 := Lib.hid hG1
      subst hG1
      obtain ⟨G2, hG2⟩ : ∃ g, (e1 && e2) = g := ⟨_, rfl⟩
      have HG2 := Lib.hid hG2
      clear hG2
      obtain ⟨e3, he3⟩ : ∃ e, (a.v 3 == b.v 3) = e := ⟨_, rfl⟩
      have HE3 := Lib.hid (show eqF 3 a b = e3 from he3)
      obtain ⟨G3, hG3⟩ : ∃ g, (G2 && e3) = g := ⟨_, rfl⟩
      have HG3 := Lib.hid hG3
      clear hG3
      obtain ⟨e4, he4⟩ : ∃ e, (a.v 4 == b.v 4) = e := ⟨_, rfl⟩
      have HE4 := Lib.hid (show eqF 4 a b = e4 from he4)
      obtain ⟨G4, hG4⟩ : ∃ g, (G3 && e4) = g := ⟨_, rfl⟩
      have HG4 := Lib.hid hG4
      clear hG4
      obtain ⟨e5, he5⟩ : ∃ e, (a.v 5 == b.v 5) = e := ⟨_, rfl⟩
      have HE5 := Lib.hid (show eqF 5 a b = e5 from he5)
      obtain ⟨G5, hG5⟩ : ∃ g, (G4 && e5) = g := ⟨_, rfl⟩
      have HG5 := Lib.hid hG5
      clear hG5
      obtain ⟨e6, he6⟩ : ∃ e, (a.v 6 == b.v 6) = e := ⟨_, rfl⟩
      have HE6 := Lib.hid (show eqF 6 a b = e6 from he6)
      obtain ⟨G6, hG6⟩ : ∃ g, (G5 && e6) = g := ⟨_, rfl⟩
      have HG6 := Lib.hid hG6
      clear hG6
      obtain ⟨e7, he7⟩ : ∃ e, (a.v 7 == b.v 7) = e := ⟨_, rfl⟩
      have HE7 := Lib.hid (show eqF 7 a b = e7 from he7)
      obtain ⟨G7, hG7⟩ : ∃ g, (G6 && e7) = g := ⟨_, rfl⟩
      have HG7 := Lib.hid hG7
      clear hG7
      obtain ⟨e8, he8⟩ : ∃ e, (a.v 8 == b.v 8) = e := ⟨_, rfl⟩
      have HE8 := Lib.hid (show eqF 8 a b = e8 from he8)
      obtain ⟨G8, hG8⟩ : ∃ g, (G7 && e8) = g := ⟨_, rfl⟩
      have HG8 := Lib.hid hG8
      clear hG8
      obtain ⟨e9, he9⟩ : ∃ e, (a.v 9 == b.v 9) = e := ⟨_, rfl⟩
      have HE9 := Lib.hid (show eqF 9 a b = e9 from he9)
      obtain ⟨G9, hG9⟩ : ∃ g, (G8 && e9) = g := ⟨_, rfl⟩
      have HG9 := Lib.hid hG9
      clear hG9
      obtain ⟨e10, he10⟩ : ∃ e, (pa10 == pb10) = e := ⟨_, rfl⟩
      have HE10 := Lib.hid (show eqF 10 a b = e10 from by show (decide (a.v 10 ≠ 0) == decide (b.v 10 ≠ 0)) = _; rw [HPa10.out, HPb10.out]; exact he10)
      obtain ⟨G10, hG10⟩ : ∃ g, (G9 && e10) = g := ⟨_, rfl⟩
      have HG10 := Lib.hid hG10
      clear hG10
      obtain ⟨e11, he11⟩ : ∃ e, (pa11 == pb11) = e := ⟨_, rfl⟩
      have HE11 := Lib.hid (show eqF 11 a b = e11 from by show (decide (a.v 11 ≠ 0) == decide (b.v 11 ≠ 0)) = _; rw [HPa11.out, HPb11.out]; exact he11)
      obtain ⟨G11, hG11⟩ : ∃ g, (G10 && e11) = g := ⟨_, rfl⟩
      have HG11 := Lib.hid hG11
      clear hG11
      obtain ⟨e12, he12⟩ : ∃ e, (a.v 12 == b.v 12) = e := ⟨_, rfl⟩
      have HE12 := Lib.hid (show eqF 12 a b = e12 from he12)
      obtain ⟨G12, hG12⟩ : ∃ g, (G11 && e12) = g := ⟨_, rfl⟩
      have HG12 := Lib.hid hG12
      clear hG12
      obtain ⟨e13, he13⟩ : ∃ e, (a.v 13 == b.v 13) = e := ⟨_, rfl⟩
      have HE13 := Lib.hid (show eqF 13 a b = e13 from he13)
      obtain ⟨G13, hG13⟩ : ∃ g, (G12 && e13) = g := ⟨_, rfl⟩
      have HG13 := Lib.hid hG13
      clear hG13
      obtain ⟨e14, he14⟩ : ∃ e, (a.v 14 == b.v 14) = e := ⟨_, rfl⟩
      have HE14 := Lib.hid (show eqF 14 a b = e14 from he14)
      obtain ⟨G14, hG14⟩ : ∃ g, (G13 && e14) = g := ⟨_, rfl⟩
      have HG14 := Lib.hid hG14
      clear hG14
      obtain ⟨e15, he15⟩ : ∃ e, (a.v 15 == b.v 15) = e := ⟨_, rfl⟩
      have HE15 := Lib.hid (show eqF 15 a b = e15 from he15)
      obtain ⟨G15, hG15⟩ : ∃ g, (G14 && e15) = g := ⟨_, rfl⟩
      have HG15 := Lib.hid hG15
      clear hG15
      obtain ⟨e16, he16⟩ : ∃ e, (a.v 16 == b.v 16) = e := ⟨_, rfl⟩
      have HE16 := Lib.hid (show eqF 16 a b = e16 from he16)
      obtain ⟨G16, hG16⟩ : ∃ g, (G15 && e16) = g := ⟨_, rfl⟩
      have HG16 := Lib.hid hG16
      clear hG16
      have HSam := Lib.hid (show sameM a b = G16 by
        refine same_chain HWa.out HWb.out HSe.out ?_
        rw [← HG16.out, ← HG15.out, ← HG14.out, ← HG13.out, ← HG12.out, ← HG11.out, ← HG10.out, ← HG9.out, ← HG8.out, ← HG7.out, ← HG6.out, ← HG5.out, ← HG4.out, ← HG3.out, ← HG2.out, HE1.out, HE2.out, HE3.out, HE4.out, HE5.out, HE6.out, HE7.out, HE8.out, HE9.out, HE10.out, HE11.out, HE12.out, HE13.out, HE14.out, HE15.out, HE16.out])
      go_upto_region 8 with fail
      refine wp_region_kord (Keep (fun _ => False)) (Keep.refl _) keep0_trans 111 (Ts := [none, some (.inl (.int .i64 (a.v 1))), none, some (.inl (.int .i64 (b.v 1))), none, none, some (.inr (fun v _ => e1 = true → v = .pointer (some ⟨w.heap.size, 2, none⟩))), some (.inr (fun v _ => e1 = true → v = .int .i64 (a.v 2))), some (.inr (fun v _ => e1 = true → v = .pointer (some ⟨w.heap.size + 1, 2, none⟩))), some (.inr (fun v _ => e1 = true → v = .int .i64 (b.v 2))), some (.inr (fun v _ => e1 = true → v = .bool e2)), some (.inl (.bool G2)), none, some (.inr (fun v _ => G2 = true → v = .pointer (some ⟨w.heap.size, 3, none⟩))), some (.inr (fun v _ => G2 = true → v = .int .i64 (a.v 3))), some (.inr (fun v _ => G2 = true → v = .pointer (some ⟨w.heap.size + 1, 3, none⟩))), some (.inr (fun v _ => G2 = true → v = .int .i64 (b.v 3))), some (.inr (fun v _ => G2 = true → v = .bool e3)), some (.inl (.bool G3)), none, some (.inr (fun v _ => G3 = true → v = .pointer (some ⟨w.heap.size, 4, none⟩))), some (.inr (fun v _ => G3 = true → v = .int .i64 (a.v 4))), some (.inr (fun v _ => G3 = true → v = .pointer (some ⟨w.heap.size + 1, 4, none⟩))), some (.inr (fun v _ => G3 = true → v = .int .i64 (b.v 4))), some (.inr (fun v _ => G3 = true → v = .bool e4)), some (.inl (.bool G4)), none, some (.inr (fun v _ => G4 = true → v = .pointer (some ⟨w.heap.size, 5, none⟩))), some (.inr (fun v _ => G4 = true → v = .int .i64 (a.v 5))), some (.inr (fun v _ => G4 = true → v = .pointer (some ⟨w.heap.size + 1, 5, none⟩))), some (.inr (fun v _ => G4 = true → v = .int .i64 (b.v 5))), some (.inr (fun v _ => G4 = true → v = .bool e5)), some (.inl (.bool G5)), none, some (.inr (fun v _ => G5 = true → v = .pointer (some ⟨w.heap.size, 6, none⟩))), some (.inr (fun v _ => G5 = true → v = .int .i64 (a.v 6))), some (.inr (fun v _ => G5 = true → v = .pointer (some ⟨w.heap.size + 1, 6, none⟩))), some (.inr (fun v _ => G5 = true → v = .int .i64 (b.v 6))), some (.inr (fun v _ => G5 = true → v = .bool e6)), some (.inl (.bool G6)), none, some (.inr (fun v _ => G6 = true → v = .pointer (some ⟨w.heap.size, 7, none⟩))), some (.inr (fun v _ => G6 = true → v = .int .i64 (a.v 7))), some (.inr (fun v _ => G6 = true → v = .pointer (some ⟨w.heap.size + 1, 7, none⟩))), some (.inr (fun v _ => G6 = true → v = .int .i64 (b.v 7))), some (.inr (fun v _ => G6 = true → v = .bool e7)), some (.inl (.bool G7)), none, some (.inr (fun v _ => G7 = true → v = .pointer (some ⟨w.heap.size, 8, none⟩))), some (.inr (fun v _ => G7 = true → v = .int .u8 (a.v 8))), some (.inr (fun v _ => G7 = true → v = .pointer (some ⟨w.heap.size + 1, 8, none⟩))), some (.inr (fun v _ => G7 = true → v = .int .u8 (b.v 8))), some (.inr (fun v _ => G7 = true → v = .bool e8)), some (.inl (.bool G8)), none, some (.inr (fun v _ => G8 = true → v = .pointer (some ⟨w.heap.size, 9, none⟩))), some (.inr (fun v _ => G8 = true → v = .int .i64 (a.v 9))), some (.inr (fun v _ => G8 = true → v = .pointer (some ⟨w.heap.size + 1, 9, none⟩))), some (.inr (fun v _ => G8 = true → v = .int .i64 (b.v 9))), some (.inr (fun v _ => G8 = true → v = .bool e9)), some (.inl (.bool G9)), none, some (.inr (fun v _ => G9 = true → v = .pointer (some ⟨w.heap.size, 10, none⟩))), some (.inr (fun v _ => G9 = true → v = .bool pa10)), some (.inr (fun v _ => G9 = true → v = .pointer (some ⟨w.heap.size + 1, 10, none⟩))), some (.inr (fun v _ => G9 = true → v = .bool pb10)), some (.inr (fun v _ => G9 = true → v = .bool e10)), some (.inl (.bool G10)), none, some (.inr (fun v _ => G10 = true → v = .pointer (some ⟨w.heap.size, 11, none⟩))), some (.inr (fun v _ => G10 = true → v = .bool pa11)), some (.inr (fun v _ => G10 = true → v = .pointer (some ⟨w.heap.size + 1, 11, none⟩))), some (.inr (fun v _ => G10 = true → v = .bool pb11)), some (.inr (fun v _ => G10 = true → v = .bool e11)), some (.inl (.bool G11)), none, some (.inr (fun v _ => G11 = true → v = .pointer (some ⟨w.heap.size, 12, none⟩))), some (.inr (fun v _ => G11 = true → v = .int .i64 (a.v 12))), some (.inr (fun v _ => G11 = true → v = .pointer (some ⟨w.heap.size + 1, 12, none⟩))), some (.inr (fun v _ => G11 = true → v = .int .i64 (b.v 12))), some (.inr (fun v _ => G11 = true → v = .bool e12)), some (.inl (.bool G12)), none, some (.inr (fun v _ => G12 = true → v = .pointer (some ⟨w.heap.size, 13, none⟩))), some (.inr (fun v _ => G12 = true → v = .int .i64 (a.v 13))), some (.inr (fun v _ => G12 = true → v = .pointer (some ⟨w.heap.size + 1, 13, none⟩))), some (.inr (fun v _ => G12 = true → v = .int .i64 (b.v 13))), some (.inr (fun v _ => G12 = true → v = .bool e13)), some (.inl (.bool G13)), none, some (.inr (fun v _ => G13 = true → v = .pointer (some ⟨w.heap.size, 14, none⟩))), some (.inr (fun v _ => G13 = true → v = .int .i64 (a.v 14))), some (.inr (fun v _ => G13 = true → v = .pointer (some ⟨w.heap.size + 1, 14, none⟩))), some (.inr (fun v _ => G13 = true → v = .int .i64 (b.v 14))), some (.inr (fun v _ => G13 = true → v = .bool e14)), some (.inl (.bool G14)), none, some (.inr (fun v _ => G14 = true → v = .pointer (some ⟨w.heap.size, 15, none⟩))), some (.inr (fun v _ => G14 = true → v = .int .i64 (a.v 15))), some (.inr (fun v _ => G14 = true → v = .pointer (some ⟨w.heap.size + 1, 15, none⟩))), some (.inr (fun v _ => G14 = true → v = .int .i64 (b.v 15))), some (.inr (fun v _ => G14 = true → v = .bool e15)), some (.inl (.bool G15)), none, some (.inr (fun v _ => G15 = true → v = .pointer (some ⟨w.heap.size, 16, none⟩))), some (.inr (fun v _ => G15 = true → v = .int .i64 (a.v 16))), some (.inr (fun v _ => G15 = true → v = .pointer (some ⟨w.heap.size + 1, 16, none⟩))), some (.inr (fun v _ => G15 = true → v = .int .i64 (b.v 16))), some (.inr (fun v _ => G15 = true → v = .bool e16)), some (.inl (.bool G16)), none]) ?_
      refine kAll_p (fun K hK => ?_)
      go_simp
      generalize hZ : (Act.mk _ _) = Z
      refine hK Z ?_
      subst hZ
      clear hK K
      refine kAll_dn _ (fun W hW hF => kStep_of fun K Q hK => ?_) (fun K hK => ?_)
      · have q1 := hW.cell a1 (fun h => h)
        go_simp
        exact hK _ _ (Keep.refl _ _) rfl
      go_simp
      generalize hZ : (Act.mk _ _) = Z
      refine hK Z ?_
      subst hZ
      clear hK K
      refine kAll_p (fun K hK => ?_)
      go_simp
      generalize hZ : (Act.mk _ _) = Z
      refine hK Z ?_
      subst hZ
      clear hK K
      refine kAll_dn _ (fun W hW hF => kStep_of fun K Q hK => ?_) (fun K hK => ?_)
      · have q1 := hW.cell b1 (fun h => h)
        go_simp
        exact hK _ _ (Keep.refl _ _) rfl
      go_simp
      generalize hZ : (Act.mk _ _) = Z
      refine hK Z ?_
      subst hZ
      clear hK K
      refine kAll_p (fun K hK => ?_)
      go_simp
      generalize hZ : (Act.mk _ _) = Z
      refine hK Z ?_
      subst hZ
      clear hK K
      refine kAll_p (fun K hK => ?_)
      go_simp
      generalize hZ : (Act.mk _ _) = Z
      refine hK Z ?_
      subst hZ
      clear hK K
      refine kAll_tn _ (fun v W W' hk h => h) (fun W hW hF => kStep_of fun K Q hK => ?_) (fun u0 K hK => ?_)
      · rcases Bool.eq_false_or_eq_true e1 with hg | hg
        · cases hg
          rw [if_pos (by kernel_rfl)]
          go_simp
          exact hK _ _ (Keep.refl _ _) (fun _ => rfl)
        · cases hg
          rw [if_neg (show ¬ (_ = true) from fun h => Bool.noConfusion (h.symm.trans (by kernel_rfl) : true = false))]
          exact fun h => by cases h
      go_simp
      generalize hZ : (Act.mk _ _) = Z
      refine hK Z ?_
      subst hZ
      clear hK K
      refine kAll_tn _ (fun v W W' hk h => h) (fun W hW hF => kStep_of fun K Q hK => ?_) (fun u1 K hK => ?_)
      · rcases Bool.eq_false_or_eq_true e1 with hg | hg
        · obtain rfl := (show e1 = true → u0 = .pointer (some ⟨w.heap.size, 2, none⟩) from kHas_at hF 0 rfl (by kernel_rfl)) hg
          cases hg
          rw [if_pos (by kernel_rfl)]
          have q1 := hW.cell a2 (fun h => h)
          go_simp
          exact hK _ _ (Keep.refl _ _) (fun _ => rfl)
        · cases hg
          rw [if_neg (show ¬ (_ = true) from fun h => Bool.noConfusion (h.symm.trans (by kernel_rfl) : true = false))]
          exact fun h => by cases h
      go_simp
      generalize hZ : (Act.mk _ _) = Z
      refine hK Z ?_
      subst hZ
      clear hK K
      refine kAll_tn _ (fun v W W' hk h => h) (fun W hW hF => kStep_of fun K Q hK => ?_) (fun u2 K hK => ?_)
      · rcases Bool.eq_false_or_eq_true e1 with hg | hg
        · cases hg
          rw [if_pos (by kernel_rfl)]
          go_simp
          exact hK _ _ (Keep.refl _ _) (fun _ => rfl)
        · cases hg
          rw [if_neg (show ¬ (_ = true) from fun h => Bool.noConfusion (h.symm.trans (by kernel_rfl) : true = false))]
          exact fun h => by cases h
      go_simp
      generalize hZ : (Act.mk _ _) = Z
      refine hK Z ?_
      subst hZ
      clear hK K
      refine kAll_tn _ (fun v W W' hk h => h) (fun W hW hF => kStep_of fun K Q hK => ?_) (fun u3 K hK => ?_)
      · rcases Bool.eq_false_or_eq_true e1 with hg | hg
        · obtain rfl := (show e1 = true → u2 = .pointer (some ⟨w.heap.size + 1, 2, none⟩) from kHas_at hF 0 rfl (by kernel_rfl)) hg
          cases hg
          rw [if_pos (by kernel_rfl)]
          have q1 := hW.cell b2 (fun h => h)
          go_simp
          exact hK _ _ (Keep.refl _ _) (fun _ => rfl)
        · cases hg
          rw [if_neg (show ¬ (_ = true) from fun h => Bool.noConfusion (h.symm.trans (by kernel_rfl) : true = false))]
          exact fun h => by cases h
      go_simp
      generalize hZ : (Act.mk _ _) = Z
      refine hK Z ?_
      subst hZ
      clear hK K
      refine kAll_tn _ (fun v W W' hk h => h) (fun W hW hF => kStep_of fun K Q hK => ?_) (fun u4 K hK => ?_)
      · rcases Bool.eq_false_or_eq_true e1 with hg | hg
        · obtain rfl := (show e1 = true → u1 = .int .i64 (a.v 2) from kHas_at hF 2 rfl (by kernel_rfl)) hg
          obtain rfl := (show e1 = true → u3 = .int .i64 (b.v 2) from kHas_at hF 0 rfl (by kernel_rfl)) hg
          cases hg
          rw [if_pos (by kernel_rfl)]
          go_simp
          exact hK _ _ (Keep.refl _ _) (fun _ => rfl)
        · cases hg
          rw [if_neg (show ¬ (_ = true) from fun h => Bool.noConfusion (h.symm.trans (by kernel_rfl) : true = false))]
          exact fun h => by cases h
      go_simp
      generalize hZ : (Act.mk _ _) = Z
      refine hK Z ?_
      subst hZ
      clear hK K
      refine kAll_dn _ (fun W hW hF => kStep_of fun K Q hK => ?_) (fun K hK => ?_)
      · have hu := (show e1 = true → u4 = .bool e2 from kHas_at hF 0 rfl (by kernel_rfl))
        rw [if_pos (by kernel_rfl)]
        refine wp_pickB _ _ _ rfl rfl ?_
        exact hK _ _ (Keep.refl _ _) (pick_val HG2.out hu)
      go_simp
      generalize hZ : (Act.mk _ _) = Z
      refine hK Z ?_
      subst hZ
      clear hK K
      refine kAll_p (fun K hK => ?_)
      go_simp
      generalize hZ : (Act.mk _ _) = Z
      refine hK Z ?_
      subst hZ
      clear hK K
      refine kAll_tn _ (fun v W W' hk h => h) (fun W hW hF => kStep_of fun K Q hK => ?_) (fun u5 K hK => ?_)
      · rcases Bool.eq_false_or_eq_true G2 with hg | hg
        · cases hg
          rw [if_pos (by kernel_rfl)]
          go_simp
          exact hK _ _ (Keep.refl _ _) (fun _ => rfl)
        · cases hg
          rw [if_neg (show ¬ (_ = true) from fun h => Bool.noConfusion (h.symm.trans (by kernel_rfl) : true = false))]
          exact fun h => by cases h
      go_simp
      generalize hZ : (Act.mk _ _) = Z
      refine hK Z ?_
      subst hZ
      clear hK K
      refine kAll_tn _ (fun v W W' hk h => h) (fun W hW hF => kStep_of fun K Q hK => ?_) (fun u6 K hK => ?_)
      · rcases Bool.eq_false_or_eq_true G2 with hg | hg
        · obtain rfl := (show G2 = true → u5 = .pointer (some ⟨w.heap.size, 3, none⟩) from kHas_at hF 0 rfl (by kernel_rfl)) hg
          cases hg
          rw [if_pos (by kernel_rfl)]
          have q1 := hW.cell a3 (fun h => h)
          go_simp
          exact hK _ _ (Keep.refl _ _) (fun _ => rfl)
        · cases hg
          rw [if_neg (show ¬ (_ = true) from fun h => Bool.noConfusion (h.symm.trans (by kernel_rfl) : true = false))]
          exact fun h => by cases h
      go_simp
      generalize hZ : (Act.mk _ _) = Z
      refine hK Z ?_
      subst hZ
      clear hK K
      refine kAll_tn _ (fun v W W' hk h => h) (fun W hW hF => kStep_of fun K Q hK => ?_) (fun u7 K hK => ?_)
      · rcases Bool.eq_false_or_eq_true G2 with hg | hg
        · cases hg
          rw [if_pos (by kernel_rfl)]
          go_simp
          exact hK _ _ (Keep.refl _ _) (fun _ => rfl)
        · cases hg
          rw [if_neg (show ¬ (_ = true) from fun h => Bool.noConfusion (h.symm.trans (by kernel_rfl) : true = false))]
          exact fun h => by cases h
      go_simp
      generalize hZ : (Act.mk _ _) = Z
      refine hK Z ?_
      subst hZ
      clear hK K
      refine kAll_tn _ (fun v W W' hk h => h) (fun W hW hF => kStep_of fun K Q hK => ?_) (fun u8 K hK => ?_)
      · rcases Bool.eq_false_or_eq_true G2 with hg | hg
        · obtain rfl := (show G2 = true → u7 = .pointer (some ⟨w.heap.size + 1, 3, none⟩) from kHas_at hF 0 rfl (by kernel_rfl)) hg
          cases hg
          rw [if_pos (by kernel_rfl)]
          have q1 := hW.cell b3 (fun h => h)
          go_simp
          exact hK _ _ (Keep.refl _ _) (fun _ => rfl)
        · cases hg
          rw [if_neg (show ¬ (_ = true) from fun h => Bool.noConfusion (h.symm.trans (by kernel_rfl) : true = false))]
          exact fun h => by cases h
      go_simp
      generalize hZ : (Act.mk _ _) = Z
      refine hK Z ?_
      subst hZ
      clear hK K
      refine kAll_tn _ (fun v W W' hk h => h) (fun W hW hF => kStep_of fun K Q hK => ?_) (fun u9 K hK => ?_)
      · rcases Bool.eq_false_or_eq_true G2 with hg | hg
        · obtain rfl := (show G2 = true → u6 = .int .i64 (a.v 3) from kHas_at hF 2 rfl (by kernel_rfl)) hg
          obtain rfl := (show G2 = true → u8 = .int .i64 (b.v 3) from kHas_at hF 0 rfl (by kernel_rfl)) hg
          cases hg
          rw [if_pos (by kernel_rfl)]
          go_simp
          exact hK _ _ (Keep.refl _ _) (fun _ => rfl)
        · cases hg
          rw [if_neg (show ¬ (_ = true) from fun h => Bool.noConfusion (h.symm.trans (by kernel_rfl) : true = false))]
          exact fun h => by cases h
      go_simp
      generalize hZ : (Act.mk _ _) = Z
      refine hK Z ?_
      subst hZ
      clear hK K
      refine kAll_dn _ (fun W hW hF => kStep_of fun K Q hK => ?_) (fun K hK => ?_)
      · have hu := (show G2 = true → u9 = .bool e3 from kHas_at hF 0 rfl (by kernel_rfl))
        rw [if_pos (by kernel_rfl)]
        refine wp_pickB _ _ _ rfl rfl ?_
        exact hK _ _ (Keep.refl _ _) (pick_val HG3.out hu)
      go_simp
      generalize hZ : (Act.mk _ _) = Z
      refine hK Z ?_
      subst hZ
      clear hK K
      refine kAll_p (fun K hK => ?_)
      go_simp
      generalize hZ : (Act.mk _ _) = Z
      refine hK Z ?_
      subst hZ
      clear hK K
      refine kAll_tn _ (fun v W W' hk h => h) (fun W hW hF => kStep_of fun K Q hK => ?_) (fun u10 K hK => ?_)
      · rcases Bool.eq_false_or_eq_true G3 with hg | hg
        · cases hg
          rw [if_pos (by kernel_rfl)]
          go_simp
          exact hK _ _ (Keep.refl _ _) (fun _ => rfl)
        · cases hg
          rw [if_neg (show ¬ (_ = true) from fun h => Bool.noConfusion (h.symm.trans (by kernel_rfl) : true = false))]
          exact fun h => by cases h
      go_simp
      generalize hZ : (Act.mk _ _) = Z
      refine hK Z ?_
      subst hZ
      clear hK K
      refine kAll_tn _ (fun v W W' hk h => h) (fun W hW hF => kStep_of fun K Q hK => ?_) (fun u11 K hK => ?_)
      · rcases Bool.eq_false_or_eq_true G3 with hg | hg
        · obtain rfl := (show G3 = true → u10 = .pointer (some ⟨w.heap.size, 4, none⟩) from kHas_at hF 0 rfl (by kernel_rfl)) hg
          cases hg
          rw [if_pos (by kernel_rfl)]
          have q1 := hW.cell a4 (fun h => h)
          go_simp
          exact hK _ _ (Keep.refl _ _) (fun _ => rfl)
        · cases hg
          rw [if_neg (show ¬ (_ = true) from fun h => Bool.noConfusion (h.symm.trans (by kernel_rfl) : true = false))]
          exact fun h => by cases h
      go_simp
      generalize hZ : (Act.mk _ _) = Z
      refine hK Z ?_
      subst hZ
      clear hK K
      refine kAll_tn _ (fun v W W' hk h => h) (fun W hW hF => kStep_of fun K Q hK => ?_) (fun u12 K hK => ?_)
      · rcases Bool.eq_false_or_eq_true G3 with hg | hg
        · cases hg
          rw [if_pos (by kernel_rfl)]
          go_simp
          exact hK _ _ (Keep.refl _ _) (fun _ => rfl)
        · cases hg
          rw [if_neg (show ¬ (_ = true) from fun h => Bool.noConfusion (h.symm.trans (by kernel_rfl) : true = false))]
          exact fun h => by cases h
      go_simp
      generalize hZ : (Act.mk _ _) = Z
      refine hK Z ?_
      subst hZ
      clear hK K
      refine kAll_tn _ (fun v W W' hk h => h) (fun W hW hF => kStep_of fun K Q hK => ?_) (fun u13 K hK => ?_)
      · rcases Bool.eq_false_or_eq_true G3 with hg | hg
        · obtain rfl := (show G3 = true → u12 = .pointer (some ⟨w.heap.size + 1, 4, none⟩) from kHas_at hF 0 rfl (by kernel_rfl)) hg
          cases hg
          rw [if_pos (by kernel_rfl)]
          have q1 := hW.cell b4 (fun h => h)
          go_simp
          exact hK _ _ (Keep.refl _ _) (fun _ => rfl)
        · cases hg
          rw [if_neg (show ¬ (_ = true) from fun h => Bool.noConfusion (h.symm.trans (by kernel_rfl) : true = false))]
          exact fun h => by cases h
      go_simp
      generalize hZ : (Act.mk _ _) = Z
      refine hK Z ?_
      subst hZ
      clear hK K
      refine kAll_tn _ (fun v W W' hk h => h) (fun W hW hF => kStep_of fun K Q hK => ?_) (fun u14 K hK => ?_)
      · rcases Bool.eq_false_or_eq_true G3 with hg | hg
        · obtain rfl := (show G3 = true → u11 = .int .i64 (a.v 4) from kHas_at hF 2 rfl (by kernel_rfl)) hg
          obtain rfl := (show G3 = true → u13 = .int .i64 (b.v 4) from kHas_at hF 0 rfl (by kernel_rfl)) hg
          cases hg
          rw [if_pos (by kernel_rfl)]
          go_simp
          exact hK _ _ (Keep.refl _ _) (fun _ => rfl)
        · cases hg
          rw [if_neg (show ¬ (_ = true) from fun h => Bool.noConfusion (h.symm.trans (by kernel_rfl) : true = false))]
          exact fun h => by cases h
      go_simp
      generalize hZ : (Act.mk _ _) = Z
      refine hK Z ?_
      subst hZ
      clear hK K
      refine kAll_dn _ (fun W hW hF => kStep_of fun K Q hK => ?_) (fun K hK => ?_)
      · have hu := (show G3 = true → u14 = .bool e4 from kHas_at hF 0 rfl (by kernel_rfl))
        rw [if_pos (by kernel_rfl)]
        refine wp_pickB _ _ _ rfl rfl ?_
        exact hK _ _ (Keep.refl _ _) (pick_val HG4.out hu)
      go_simp
      generalize hZ : (Act.mk _ _) = Z
      refine hK Z ?_
      subst hZ
      clear hK K
      refine kAll_p (fun K hK => ?_)
      go_simp
      generalize hZ : (Act.mk _ _) = Z
      refine hK Z ?_
      subst hZ
      clear hK K
      refine kAll_tn _ (fun v W W' hk h => h) (fun W hW hF => kStep_of fun K Q hK => ?_) (fun u15 K hK => ?_)
      · rcases Bool.eq_false_or_eq_true G4 with hg | hg
        · cases hg
          rw [if_pos (by kernel_rfl)]
          go_simp
          exact hK _ _ (Keep.refl _ _) (fun _ => rfl)
        · cases hg
          rw [if_neg (show ¬ (_ = true) from fun h => Bool.noConfusion (h.symm.trans (by kernel_rfl) : true = false))]
          exact fun h => by cases h
      go_simp
      generalize hZ : (Act.mk _ _) = Z
      refine hK Z ?_
      subst hZ
      clear hK K
      refine kAll_tn _ (fun v W W' hk h => h) (fun W hW hF => kStep_of fun K Q hK => ?_) (fun u16 K hK => ?_)
      · rcases Bool.eq_false_or_eq_true G4 with hg | hg
        · obtain rfl := (show G4 = true → u15 = .pointer (some ⟨w.heap.size, 5, none⟩) from kHas_at hF 0 rfl (by kernel_rfl)) hg
          cases hg
          rw [if_pos (by kernel_rfl)]
          have q1 := hW.cell a5 (fun h => h)
          go_simp
          exact hK _ _ (Keep.refl _ _) (fun _ => rfl)
        · cases hg
          rw [if_neg (show ¬ (_ = true) from fun h => Bool.noConfusion (h.symm.trans (by kernel_rfl) : true = false))]
          exact fun h => by cases h
      go_simp
      generalize hZ : (Act.mk _ _) = Z
      refine hK Z ?_
      subst hZ
      clear hK K
      refine kAll_tn _ (fun v W W' hk h => h) (fun W hW hF => kStep_of fun K Q hK => ?_) (fun u17 K hK => ?_)
      · rcases Bool.eq_false_or_eq_true G4 with hg | hg
        · cases hg
          rw [if_pos (by kernel_rfl)]
          go_simp
          exact hK _ _ (Keep.refl _ _) (fun _ => rfl)
        · cases hg
          rw [if_neg (show ¬ (_ = true) from fun h => Bool.noConfusion (h.symm.trans (by kernel_rfl) : true = false))]
          exact fun h => by cases h
      go_simp
      generalize hZ : (Act.mk _ _) = Z
      refine hK Z ?_
      subst hZ
      clear hK K
      refine kAll_tn _ (fun v W W' hk h => h) (fun W hW hF => kStep_of fun K Q hK => ?_) (fun u18 K hK => ?_)
      · rcases Bool.eq_false_or_eq_true G4 with hg | hg
        · obtain rfl := (show G4 = true → u17 = .pointer (some ⟨w.heap.size + 1, 5, none⟩) from kHas_at hF 0 rfl (by kernel_rfl)) hg
          cases hg
          rw [if_pos (by kernel_rfl)]
          have q1 := hW.cell b5 (fun h => h)
          go_simp
          exact hK _ _ (Keep.refl _ _) (fun _ => rfl)
        · cases hg
          rw [if_neg (show ¬ (_ = true) from fun h => Bool.noConfusion (h.symm.trans (by kernel_rfl) : true = false))]
          exact fun h => by cases h
      go_simp
      generalize hZ : (Act.mk _ _) = Z
      refine hK Z ?_
      subst hZ
      clear hK K
      refine kAll_tn _ (fun v W W' hk h => h) (fun W hW hF => kStep_of fun K Q hK => ?_) (fun u19 K hK => ?_)
      · rcases Bool.eq_false_or_eq_true G4 with hg | hg
        · obtain rfl := (show G4 = true → u16 = .int .i64 (a.v 5) from kHas_at hF 2 rfl (by kernel_rfl)) hg
          obtain rfl := (show G4 = true → u18 = .int .i64 (b.v 5) from kHas_at hF 0 rfl (by kernel_rfl)) hg
          cases hg
          rw [if_pos (by kernel_rfl)]
          go_simp
          exact hK _ _ (Keep.refl _ _) (fun _ => rfl)
        · cases hg
          rw [if_neg (show ¬ (_ = true) from fun h => Bool.noConfusion (h.symm.trans (by kernel_rfl) : true = false))]
          exact fun h => by cases h
      go_simp
      generalize hZ : (Act.mk _ _) = Z
      refine hK Z ?_
      subst hZ
      clear hK K
      refine kAll_dn _ (fun W hW hF => kStep_of fun K Q hK => ?_) (fun K hK => ?_)
      · have hu := (show G4 = true → u19 = .bool e5 from kHas_at hF 0 rfl (by kernel_rfl))
        rw [if_pos (by kernel_rfl)]
        refine wp_pickB _ _ _ rfl rfl ?_
        exact hK _ _ (Keep.refl _ _) (pick_val HG5.out hu)
      go_simp
      generalize hZ : (Act.mk _ _) = Z
      refine hK Z ?_
      subst hZ
      clear hK K
      refine kAll_p (fun K hK => ?_)
      go_simp
      generalize hZ : (Act.mk _ _) = Z
      refine hK Z ?_
      subst hZ
      clear hK K
      refine kAll_tn _ (fun v W W' hk h => h) (fun W hW hF => kStep_of fun K Q hK => ?_) (fun u20 K hK => ?_)
      · rcases Bool.eq_false_or_eq_true G5 with hg | hg
        · cases hg
          rw [if_pos (by kernel_rfl)]
          go_simp
          exact hK _ _ (Keep.refl _ _) (fun _ => rfl)
        · cases hg
          rw [if_neg (show ¬ (_ = true) from fun h => Bool.noConfusion (h.symm.trans (by kernel_rfl) : true = false))]
          exact fun h => by cases h
      go_simp
      generalize hZ : (Act.mk _ _) = Z
      refine hK Z ?_
      subst hZ
      clear hK K
      refine kAll_tn _ (fun v W W' hk h => h) (fun W hW hF => kStep_of fun K Q hK => ?_) (fun u21 K hK => ?_)
      · rcases Bool.eq_false_or_eq_true G5 with hg | hg
        · obtain rfl := (show G5 = true → u20 = .pointer (some ⟨w.heap.size, 6, none⟩) from kHas_at hF 0 rfl (by kernel_rfl)) hg
          cases hg
          rw [if_pos (by kernel_rfl)]
          have q1 := hW.cell a6 (fun h => h)
          go_simp
          exact hK _ _ (Keep.refl _ _) (fun _ => rfl)
        · cases hg
          rw [if_neg (show ¬ (_ = true) from fun h => Bool.noConfusion (h.symm.trans (by kernel_rfl) : true = false))]
          exact fun h => by cases h
      go_simp
      generalize hZ : (Act.mk _ _) = Z
      refine hK Z ?_
      subst hZ
      clear hK K
      refine kAll_tn _ (fun v W W' hk h => h) (fun W hW hF => kStep_of fun K Q hK => ?_) (fun u22 K hK => ?_)
      · rcases Bool.eq_false_or_eq_true G5 with hg | hg
        · cases hg
          rw [if_pos (by kernel_rfl)]
          go_simp
          exact hK _ _ (Keep.refl _ _) (fun _ => rfl)
        · cases hg
          rw [if_neg (show ¬ (_ = true) from fun h => Bool.noConfusion (h.symm.trans (by kernel_rfl) : true = false))]
          exact fun h => by cases h
      go_simp
      generalize hZ : (Act.mk _ _) = Z
      refine hK Z ?_
      subst hZ
      clear hK K
      refine kAll_tn _ (fun v W W' hk h => h) (fun W hW hF => kStep_of fun K Q hK => ?_) (fun u23 K hK => ?_)
      · rcases Bool.eq_false_or_eq_true G5 with hg | hg
        · obtain rfl := (show G5 = true → u22 = .pointer (some ⟨w.heap.size + 1, 6, none⟩) from kHas_at hF 0 rfl (by kernel_rfl)) hg
          cases hg
          rw [if_pos (by kernel_rfl)]
          have q1 := hW.cell b6 (fun h => h)
          go_simp
          exact hK _ _ (Keep.refl _ _) (fun _ => rfl)
        · cases hg
          rw [if_neg (show ¬ (_ = true) from fun h => Bool.noConfusion (h.symm.trans (by kernel_rfl) : true = false))]
          exact fun h => by cases h
      go_simp
      generalize hZ : (Act.mk _ _) = Z
      refine hK Z ?_
      subst hZ
      clear hK K
      refine kAll_tn _ (fun v W W' hk h => h) (fun W hW hF => kStep_of fun K Q hK => ?_) (fun u24 K hK => ?_)
      · rcases Bool.eq_false_or_eq_true G5 with hg | hg
        · obtain rfl := (show G5 = true → u21 = .int .i64 (a.v 6) from kHas_at hF 2 rfl (by kernel_rfl)) hg
          obtain rfl := (show G5 = true → u23 = .int .i64 (b.v 6) from kHas_at hF 0 rfl (by kernel_rfl)) hg
          cases hg
          rw [if_pos (by kernel_rfl)]
          go_simp
          exact hK _ _ (Keep.refl _ _) (fun _ => rfl)
        · cases hg
          rw [if_neg (show ¬ (_ = true) from fun h => Bool.noConfusion (h.symm.trans (by kernel_rfl) : true = false))]
          exact fun h => by cases h
      go_simp
      generalize hZ : (Act.mk _ _) = Z
      refine hK Z ?_
      subst hZ
      clear hK K
      refine kAll_dn _ (fun W hW hF => kStep_of fun K Q hK => ?_) (fun K hK => ?_)
      · have hu := (show G5 = true → u24 = .bool e6 from kHas_at hF 0 rfl (by kernel_rfl))
        rw [if_pos (by kernel_rfl)]
        refine wp_pickB _ _ _ rfl rfl ?_
        exact hK _ _ (Keep.refl _ _) (pick_val HG6.out hu)
      go_simp
      generalize hZ : (Act.mk _ _) = Z
      refine hK Z ?_
      subst hZ
      clear hK K
      refine kAll_p (fun K hK => ?_)
      go_simp
      generalize hZ : (Act.mk _ _) = Z
      refine hK Z ?_
      subst hZ
      clear hK K
      refine kAll_tn _ (fun v W W' hk h => h) (fun W hW hF => kStep_of fun K Q hK => ?_) (fun u25 K hK => ?_)
      · rcases Bool.eq_false_or_eq_true G6 with hg | hg
        · cases hg
          rw [if_pos (by kernel_rfl)]
          go_simp
          exact hK _ _ (Keep.refl _ _) (fun _ => rfl)
        · cases hg
          rw [if_neg (show ¬ (_ = true) from fun h => Bool.noConfusion (h.symm.trans (by kernel_rfl) : true = false))]
          exact fun h => by cases h
      go_simp
      generalize hZ : (Act.mk _ _) = Z
      refine hK Z ?_
      subst hZ
      clear hK K
      refine kAll_tn _ (fun v W W' hk h => h) (fun W hW hF => kStep_of fun K Q hK => ?_) (fun u26 K hK => ?_)
      · rcases Bool.eq_false_or_eq_true G6 with hg | hg
        · obtain rfl := (show G6 = true → u25 = .pointer (some ⟨w.heap.size, 7, none⟩) from kHas_at hF 0 rfl (by kernel_rfl)) hg
          cases hg
          rw [if_pos (by kernel_rfl)]
          have q1 := hW.cell a7 (fun h => h)
          go_simp
          exact hK _ _ (Keep.refl _ _) (fun _ => rfl)
        · cases hg
          rw [if_neg (show ¬ (_ = true) from fun h => Bool.noConfusion (h.symm.trans (by kernel_rfl) : true = false))]
          exact fun h => by cases h
      go_simp
      generalize hZ : (Act.mk _ _) = Z
      refine hK Z ?_
      subst hZ
      clear hK K
      refine kAll_tn _ (fun v W W' hk h => h) (fun W hW hF => kStep_of fun K Q hK => ?_) (fun u27 K hK => ?_)
      · rcases Bool.eq_false_or_eq_true G6 with hg | hg
        · cases hg
          rw [if_pos (by kernel_rfl)]
          go_simp
          exact hK _ _ (Keep.refl _ _) (fun _ => rfl)
        · cases hg
          rw [if_neg (show ¬ (_ = true) from fun h => Bool.noConfusion (h.symm.trans (by kernel_rfl) : true = false))]
          exact fun h => by cases h
      go_simp
      generalize hZ : (Act.mk _ _) = Z
      refine hK Z ?_
      subst hZ
      clear hK K
      refine kAll_tn _ (fun v W W' hk h => h) (fun W hW hF => kStep_of fun K Q hK => ?_) (fun u28 K hK => ?_)
      · rcases Bool.eq_false_or_eq_true G6 with hg | hg
        · obtain rfl := (show G6 = true → u27 = .pointer (some ⟨w.heap.size + 1, 7, none⟩) from kHas_at hF 0 rfl (by kernel_rfl)) hg
          cases hg
          rw [if_pos (by kernel_rfl)]
          have q1 := hW.cell b7 (fun h => h)
          go_simp
          exact hK _ _ (Keep.refl _ _) (fun _ => rfl)
        · cases hg
          rw [if_neg (show ¬ (_ = true) from fun h => Bool.noConfusion (h.symm.trans (by kernel_rfl) : true = false))]
          exact fun h => by cases h
      go_simp
      generalize hZ : (Act.mk _ _) = Z
      refine hK Z ?_
      subst hZ
      clear hK K
      refine kAll_tn _ (fun v W W' hk h => h) (fun W hW hF => kStep_of fun K Q hK => ?_) (fun u29 K hK => ?_)
      · rcases Bool.eq_false_or_eq_true G6 with hg | hg
        · obtain rfl := (show G6 = true → u26 = .int .i64 (a.v 7) from kHas_at hF 2 rfl (by kernel_rfl)) hg
          obtain rfl := (show G6 = true → u28 = .int .i64 (b.v 7) from kHas_at hF 0 rfl (by kernel_rfl)) hg
          cases hg
          rw [if_pos (by kernel_rfl)]
          go_simp
          exact hK _ _ (Keep.refl _ _) (fun _ => rfl)
        · cases hg
          rw [if_neg (show ¬ (_ = true) from fun h => Bool.noConfusion (h.symm.trans (by kernel_rfl) : true = false))]
          exact fun h => by cases h
      go_simp
      generalize hZ : (Act.mk _ _) = Z
      refine hK Z ?_
      subst hZ
      clear hK K
      refine kAll_dn _ (fun W hW hF => kStep_of fun K Q hK => ?_) (fun K hK => ?_)
      · have hu := (show G6 = true → u29 = .bool e7 from kHas_at hF 0 rfl (by kernel_rfl))
        rw [if_pos (by kernel_rfl)]
        refine wp_pickB _ _ _ rfl rfl ?_
        exact hK _ _ (Keep.refl _ _) (pick_val HG7.out hu)
      go_simp
      generalize hZ : (Act.mk _ _) = Z
      refine hK Z ?_
      subst hZ
      clear hK K
      refine kAll_p (fun K hK => ?_)
      go_simp
      generalize hZ : (Act.mk _ _) = Z
      refine hK Z ?_
      subst hZ
      clear hK K
      refine kAll_tn _ (fun v W W' hk h => h) (fun W hW hF => kStep_of fun K Q hK => ?_) (fun u30 K hK => ?_)
      · rcases Bool.eq_false_or_eq_true G7 with hg | hg
        · cases hg
          rw [if_pos (by kernel_rfl)]
          go_simp
          exact hK _ _ (Keep.refl _ _) (fun _ => rfl)
        · cases hg
          rw [if_neg (show ¬ (_ = true) from fun h => Bool.noConfusion (h.symm.trans (by kernel_rfl) : true = false))]
          exact fun h => by cases h
      go_simp
      generalize hZ : (Act.mk _ _) = Z
      refine hK Z ?_
      subst hZ
      clear hK K
      refine kAll_tn _ (fun v W W' hk h => h) (fun W hW hF => kStep_of fun K Q hK => ?_) (fun u31 K hK => ?_)
      · rcases Bool.eq_false_or_eq_true G7 with hg | hg
        · obtain rfl := (show G7 = true → u30 = .pointer (some ⟨w.heap.size, 8, none⟩) from kHas_at hF 0 rfl (by kernel_rfl)) hg
          cases hg
          rw [if_pos (by kernel_rfl)]
          have q1 := hW.cell a8 (fun h => h)
          go_simp
          exact hK _ _ (Keep.refl _ _) (fun _ => rfl)
        · cases hg
          rw [if_neg (show ¬ (_ = true) from fun h => Bool.noConfusion (h.symm.trans (by kernel_rfl) : true = false))]
          exact fun h => by cases h
      go_simp
      generalize hZ : (Act.mk _ _) = Z
      refine hK Z ?_
      subst hZ
      clear hK K
      refine kAll_tn _ (fun v W W' hk h => h) (fun W hW hF => kStep_of fun K Q hK => ?_) (fun u32 K hK => ?_)
      · rcases Bool.eq_false_or_eq_true G7 with hg | hg
        · cases hg
          rw [if_pos (by kernel_rfl)]
          go_simp
          exact hK _ _ (Keep.refl _ _) (fun _ => rfl)
        · cases hg
          rw [if_neg (show ¬ (_ = true) from fun h => Bool.noConfusion (h.symm.trans (by kernel_rfl) : true = false))]
          exact fun h => by cases h
      go_simp
      generalize hZ : (Act.mk _ _) = Z
      refine hK Z ?_
      subst hZ
      clear hK K
      refine kAll_tn _ (fun v W W' hk h => h) (fun W hW hF => kStep_of fun K Q hK => ?_) (fun u33 K hK => ?_)
      · rcases Bool.eq_false_or_eq_true G7 with hg | hg
        · obtain rfl := (show G7 = true → u32 = .pointer (some ⟨w.heap.size + 1, 8, none⟩) from kHas_at hF 0 rfl (by kernel_rfl)) hg
          cases hg
          rw [if_pos (by kernel_rfl)]
          have q1 := hW.cell b8 (fun h => h)
          go_simp
          exact hK _ _ (Keep.refl _ _) (fun _ => rfl)
        · cases hg
          rw [if_neg (show ¬ (_ = true) from fun h => Bool.noConfusion (h.symm.trans (by kernel_rfl) : true = false))]
          exact fun h => by cases h
      go_simp
      generalize hZ : (Act.mk _ _) = Z
      refine hK Z ?_
      subst hZ
      clear hK K
      refine kAll_tn _ (fun v W W' hk h => h) (fun W hW hF => kStep_of fun K Q hK => ?_) (fun u34 K hK => ?_)
      · rcases Bool.eq_false_or_eq_true G7 with hg | hg
        · obtain rfl := (show G7 = true → u31 = .int .u8 (a.v 8) from kHas_at hF 2 rfl (by kernel_rfl)) hg
          obtain rfl := (show G7 = true → u33 = .int .u8 (b.v 8) from kHas_at hF 0 rfl (by kernel_rfl)) hg
          cases hg
          rw [if_pos (by kernel_rfl)]
          go_simp
          exact hK _ _ (Keep.refl _ _) (fun _ => rfl)
        · cases hg
          rw [if_neg (show ¬ (_ = true) from fun h => Bool.noConfusion (h.symm.trans (by kernel_rfl) : true = false))]
          exact fun h => by cases h
      go_simp
      generalize hZ : (Act.mk _ _) = Z
      refine hK Z ?_
      subst hZ
      clear hK K
      refine kAll_dn _ (fun W hW hF => kStep_of fun K Q hK => ?_) (fun K hK => ?_)
      · have hu := (show G7 = true → u34 = .bool e8 from kHas_at hF 0 rfl (by kernel_rfl))
        rw [if_pos (by kernel_rfl)]
        refine wp_pickB _ _ _ rfl rfl ?_
        exact hK _ _ (Keep.refl _ _) (pick_val HG8.out hu)
      go_simp
      generalize hZ : (Act.mk _ _) = Z
      refine hK Z ?_
      subst hZ
      clear hK K
      refine kAll_p (fun K hK => ?_)
      go_simp
      generalize hZ : (Act.mk _ _) = Z
      refine hK Z ?_
      subst hZ
      clear hK K
      refine kAll_tn _ (fun v W W' hk h => h) (fun W hW hF => kStep_of fun K Q hK => ?_) (fun u35 K hK => ?_)
      · rcases Bool.eq_false_or_eq_true G8 with hg | hg
        · cases hg
          rw [if_pos (by kernel_rfl)]
          go_simp
          exact hK _ _ (Keep.refl _ _) (fun _ => rfl)
        · cases hg
          rw [if_neg (show ¬ (_ = true) from fun h => Bool.noConfusion (h.symm.trans (by kernel_rfl) : true = false))]
          exact fun h => by cases h
      go_simp
      generalize hZ : (Act.mk _ _) = Z
      refine hK Z ?_
      subst hZ
      clear hK K
      refine kAll_tn _ (fun v W W' hk h => h) (fun W hW hF => kStep_of fun K Q hK => ?_) (fun u36 K hK => ?_)
      · rcases Bool.eq_false_or_eq_true G8 with hg | hg
        · obtain rfl := (show G8 = true → u35 = .pointer (some ⟨w.heap.size, 9, none⟩) from kHas_at hF 0 rfl (by kernel_rfl)) hg
          cases hg
          rw [if_pos (by kernel_rfl)]
          have q1 := hW.cell a9 (fun h => h)
          go_simp
          exact hK _ _ (Keep.refl _ _) (fun _ => rfl)
        · cases hg
          rw [if_neg (show ¬ (_ = true) from fun h => Bool.noConfusion (h.symm.trans (by kernel_rfl) : true = false))]
          exact fun h => by cases h
      go_simp
      generalize hZ : (Act.mk _ _) = Z
      refine hK Z ?_
      subst hZ
      clear hK K
      refine kAll_tn _ (fun v W W' hk h => h) (fun W hW hF => kStep_of fun K Q hK => ?_) (fun u37 K hK => ?_)
      · rcases Bool.eq_false_or_eq_true G8 with hg | hg
        · cases hg
          rw [if_pos (by kernel_rfl)]
          go_simp
          exact hK _ _ (Keep.refl _ _) (fun _ => rfl)
        · cases hg
          rw [if_neg (show ¬ (_ = true) from fun h => Bool.noConfusion (h.symm.trans (by kernel_rfl) : true = false))]
          exact fun h => by cases h
      go_simp
      generalize hZ : (Act.mk _ _) = Z
      refine hK Z ?_
      subst hZ
      clear hK K
      refine kAll_tn _ (fun v W W' hk h => h) (fun W hW hF => kStep_of fun K Q hK => ?_) (fun u38 K hK => ?_)
      · rcases Bool.eq_false_or_eq_true G8 with hg | hg
        · obtain rfl := (show G8 = true → u37 = .pointer (some ⟨w.heap.size + 1, 9, none⟩) from kHas_at hF 0 rfl (by kernel_rfl)) hg
          cases hg
          rw [if_pos (by kernel_rfl)]
          have q1 := hW.cell b9 (fun h => h)
          go_simp
          exact hK _ _ (Keep.refl _ _) (fun _ => rfl)
        · cases hg
          rw [if_neg (show ¬ (_ = true) from fun h => Bool.noConfusion (h.symm.trans (by kernel_rfl) : true = false))]
          exact fun h => by cases h
      go_simp
      generalize hZ : (Act.mk _ _) = Z
      refine hK Z ?_
      subst hZ
      clear hK K
      refine kAll_tn _ (fun v W W' hk h => h) (fun W hW hF => kStep_of fun K Q hK => ?_) (fun u39 K hK => ?_)
      · rcases Bool.eq_false_or_eq_true G8 with hg | hg
        · obtain rfl := (show G8 = true → u36 = .int .i64 (a.v 9) from kHas_at hF 2 rfl (by kernel_rfl)) hg
          obtain rfl := (show G8 = true → u38 = .int .i64 (b.v 9) from kHas_at hF 0 rfl (by kernel_rfl)) hg
          cases hg
          rw [if_pos (by kernel_rfl)]
          go_simp
          exact hK _ _ (Keep.refl _ _) (fun _ => rfl)
        · cases hg
          rw [if_neg (show ¬ (_ = true) from fun h => Bool.noConfusion (h.symm.trans (by kernel_rfl) : true = false))]
          exact fun h => by cases h
      go_simp
      generalize hZ : (Act.mk _ _) = Z
      refine hK Z ?_
      subst hZ
      clear hK K
      refine kAll_dn _ (fun W hW hF => kStep_of fun K Q hK => ?_) (fun K hK => ?_)
      · have hu := (show G8 = true → u39 = .bool e9 from kHas_at hF 0 rfl (by kernel_rfl))
        rw [if_pos (by kernel_rfl)]
        refine wp_pickB _ _ _ rfl rfl ?_
        exact hK _ _ (Keep.refl _ _) (pick_val HG9.out hu)
      go_simp
      generalize hZ : (Act.mk _ _) = Z
      refine hK Z ?_
      subst hZ
      clear hK K
      refine kAll_p (fun K hK => ?_)
      go_simp
      generalize hZ : (Act.mk _ _) = Z
      refine hK Z ?_
      subst hZ
      clear hK K
      refine kAll_tn _ (fun v W W' hk h => h) (fun W hW hF => kStep_of fun K Q hK => ?_) (fun u40 K hK => ?_)
      · rcases Bool.eq_false_or_eq_true G9 with hg | hg
        · cases hg
          rw [if_pos (by kernel_rfl)]
          go_simp
          exact hK _ _ (Keep.refl _ _) (fun _ => rfl)
        · cases hg
          rw [if_neg (show ¬ (_ = true) from fun h => Bool.noConfusion (h.symm.trans (by kernel_rfl) : true = false))]
          exact fun h => by cases h
      go_simp
      generalize hZ : (Act.mk _ _) = Z
      refine hK Z ?_
      subst hZ
      clear hK K
      refine kAll_tn _ (fun v W W' hk h => h) (fun W hW hF => kStep_of fun K Q hK => ?_) (fun u41 K hK => ?_)
      · rcases Bool.eq_false_or_eq_true G9 with hg | hg
        · obtain rfl := (show G9 = true → u40 = .pointer (some ⟨w.heap.size, 10, none⟩) from kHas_at hF 0 rfl (by kernel_rfl)) hg
          cases hg
          rw [if_pos (by kernel_rfl)]
          have q1 := hW.cell a10 (fun h => h)
          go_simp
          exact hK _ _ (Keep.refl _ _) (fun _ => rfl)
        · cases hg
          rw [if_neg (show ¬ (_ = true) from fun h => Bool.noConfusion (h.symm.trans (by kernel_rfl) : true = false))]
          exact fun h => by cases h
      go_simp
      generalize hZ : (Act.mk _ _) = Z
      refine hK Z ?_
      subst hZ
      clear hK K
      refine kAll_tn _ (fun v W W' hk h => h) (fun W hW hF => kStep_of fun K Q hK => ?_) (fun u42 K hK => ?_)
      · rcases Bool.eq_false_or_eq_true G9 with hg | hg
        · cases hg
          rw [if_pos (by kernel_rfl)]
          go_simp
          exact hK _ _ (Keep.refl _ _) (fun _ => rfl)
        · cases hg
          rw [if_neg (show ¬ (_ = true) from fun h => Bool.noConfusion (h.symm.trans (by kernel_rfl) : true = false))]
          exact fun h => by cases h
      go_simp
      generalize hZ : (Act.mk _ _) = Z
      refine hK Z ?_
      subst hZ
      clear hK K
      refine kAll_tn _ (fun v W W' hk h => h) (fun W hW hF => kStep_of fun K Q hK => ?_) (fun u43 K hK => ?_)
      · rcases Bool.eq_false_or_eq_true G9 with hg | hg
        · obtain rfl := (show G9 = true → u42 = .pointer (some ⟨w.heap.size + 1, 10, none⟩) from kHas_at hF 0 rfl (by kernel_rfl)) hg
          cases hg
          rw [if_pos (by kernel_rfl)]
          have q1 := hW.cell b10 (fun h => h)
          go_simp
          exact hK _ _ (Keep.refl _ _) (fun _ => rfl)
        · cases hg
          rw [if_neg (show ¬ (_ = true) from fun h => Bool.noConfusion (h.symm.trans (by kernel_rfl) : true = false))]
          exact fun h => by cases h
      go_simp
      generalize hZ : (Act.mk _ _) = Z
      refine hK Z ?_
      subst hZ
      clear hK K
      refine kAll_tn _ (fun v W W' hk h => h) (fun W hW hF => kStep_of fun K Q hK => ?_) (fun u44 K hK => ?_)
      · rcases Bool.eq_false_or_eq_true G9 with hg | hg
        · obtain rfl := (show G9 = true → u41 = .bool pa10 from kHas_at hF 2 rfl (by kernel_rfl)) hg
          obtain rfl := (show G9 = true → u43 = .bool pb10 from kHas_at hF 0 rfl (by kernel_rfl)) hg
          cases hg
          rw [if_pos (by kernel_rfl)]
          go_simp
          exact hK _ _ (Keep.refl _ _) (fun _ => rfl)
        · cases hg
          rw [if_neg (show ¬ (_ = true) from fun h => Bool.noConfusion (h.symm.trans (by kernel_rfl) : true = false))]
          exact fun h => by cases h
      go_simp
      generalize hZ : (Act.mk _ _) = Z
      refine hK Z ?_
      subst hZ
      clear hK K
      refine kAll_dn _ (fun W hW hF => kStep_of fun K Q hK => ?_) (fun K hK => ?_)
      · have hu := (show G9 = true → u44 = .bool e10 from kHas_at hF 0 rfl (by kernel_rfl))
        rw [if_pos (by kernel_rfl)]
        refine wp_pickB _ _ _ rfl rfl ?_
        exact hK _ _ (Keep.refl _ _) (pick_val HG10.out hu)
      go_simp
      generalize hZ : (Act.mk _ _) = Z
      refine hK Z ?_
      subst hZ
      clear hK K
      refine kAll_p (fun K hK => ?_)
      go_simp
      generalize hZ : (Act.mk _ _) = Z
      refine hK Z ?_
      subst hZ
      clear hK K
      refine kAll_tn _ (fun v W W' hk h => h) (fun W hW hF => kStep_of fun K Q hK => ?_) (fun u45 K hK => ?_)
      · rcases Bool.eq_false_or_eq_true G10 with hg | hg
        · cases hg
          rw [if_pos (by kernel_rfl)]
          go_simp
          exact hK _ _ (Keep.refl _ _) (fun _ => rfl)
        · cases hg
          rw [if_neg (show ¬ (_ = true) from fun h => Bool.noConfusion (h.symm.trans (by kernel_rfl) : true = false))]
          exact fun h => by cases h
      go_simp
      generalize hZ : (Act.mk _ _) = Z
      refine hK Z ?_
      subst hZ
      clear hK K
      refine kAll_tn _ (fun v W W' hk h => h) (fun W hW hF => kStep_of fun K Q hK => ?_) (fun u46 K hK => ?_)
      · rcases Bool.eq_false_or_eq_true G10 with hg | hg
        · obtain rfl := (show G10 = true → u45 = .pointer (some ⟨w.heap.size, 11, none⟩) from kHas_at hF 0 rfl (by kernel_rfl)) hg
          cases hg
          rw [if_pos (by kernel_rfl)]
          have q1 := hW.cell a11 (fun h => h)
          go_simp
          exact hK _ _ (Keep.refl _ _) (fun _ => rfl)
        · cases hg
          rw [if_neg (show ¬ (_ = true) from fun h => Bool.noConfusion (h.symm.trans (by kernel_rfl) : true = false))]
          exact fun h => by cases h
      go_simp
      generalize hZ : (Act.mk _ _) = Z
      refine hK Z ?_
      subst hZ
      clear hK K
      refine kAll_tn _ (fun v W W' hk h => h) (fun W hW hF => kStep_of fun K Q hK => ?_) (fun u47 K hK => ?_)
      · rcases Bool.eq_false_or_eq_true G10 with hg | hg
        · cases hg
          rw [if_pos (by kernel_rfl)]
          go_simp
          exact hK _ _ (Keep.refl _ _) (fun _ => rfl)
        · cases hg
          rw [if_neg (show ¬ (_ = true) from fun h => Bool.noConfusion (h.symm.trans (by kernel_rfl) : true = false))]
          exact fun h => by cases h
      go_simp
      generalize hZ : (Act.mk _ _) = Z
      refine hK Z ?_
      subst hZ
      clear hK K
      refine kAll_tn _ (fun v W W' hk h => h) (fun W hW hF => kStep_of fun K Q hK => ?_) (fun u48 K hK => ?_)
      · rcases Bool.eq_false_or_eq_true G10 with hg | hg
        · obtain rfl := (show G10 = true → u47 = .pointer (some ⟨w.heap.size + 1, 11, none⟩) from kHas_at hF 0 rfl (by kernel_rfl)) hg
          cases hg
          rw [if_pos (by kernel_rfl)]
          have q1 := hW.cell b11 (fun h => h)
          go_simp
          exact hK _ _ (Keep.refl _ _) (fun _ => rfl)
        · cases hg
          rw [if_neg (show ¬ (_ = true) from fun h => Bool.noConfusion (h.symm.trans (by kernel_rfl) : true = false))]
          exact fun h => by cases h
      go_simp
      generalize hZ : (Act.mk _ _) = Z
      refine hK Z ?_
      subst hZ
      clear hK K
      refine kAll_tn _ (fun v W W' hk h => h) (fun W hW hF => kStep_of fun K Q hK => ?_) (fun u49 K hK => ?_)
      · rcases Bool.eq_false_or_eq_true G10 with hg | hg
        · obtain rfl := (show G10 = true → u46 = .bool pa11 from kHas_at hF 2 rfl (by kernel_rfl)) hg
          obtain rfl := (show G10 = true → u48 = .bool pb11 from kHas_at hF 0 rfl (by kernel_rfl)) hg
          cases hg
          rw [if_pos (by kernel_rfl)]
          go_simp
          exact hK _ _ (Keep.refl _ _) (fun _ => rfl)
        · cases hg
          rw [if_neg (show ¬ (_ = true) from fun h => Bool.noConfusion (h.symm.trans (by kernel_rfl) : true = false))]
          exact fun h => by cases h
      go_simp
      generalize hZ : (Act.mk _ _) = Z
      refine hK Z ?_
      subst hZ
      clear hK K
      refine kAll_dn _ (fun W hW hF => kStep_of fun K Q hK => ?_) (fun K hK => ?_)
      · have hu := (show G10 = true → u49 = .bool e11 from kHas_at hF 0 rfl (by kernel_rfl))
        rw [if_pos (by kernel_rfl)]
        refine wp_pickB _ _ _ rfl rfl ?_
        exact hK _ _ (Keep.refl _ _) (pick_val HG11.out hu)
      go_simp
      generalize hZ : (Act.mk _ _) = Z
      refine hK Z ?_
      subst hZ
      clear hK K
      refine kAll_p (fun K hK => ?_)
      go_simp
      generalize hZ : (Act.mk _ _) = Z
      refine hK Z ?_
      subst hZ
      clear hK K
      refine kAll_tn _ (fun v W W' hk h => h) (fun W hW hF => kStep_of fun K Q hK => ?_) (fun u50 K hK => ?_)
      · rcases Bool.eq_false_or_eq_true G11 with hg | hg
        · cases hg
          rw [if_pos (by kernel_rfl)]
          go_simp
          exact hK _ _ (Keep.refl _ _) (fun _ => rfl)
        · cases hg
          rw [if_neg (show ¬ (_ = true) from fun h => Bool.noConfusion (h.symm.trans (by kernel_rfl) : true = false))]
          exact fun h => by cases h
      go_simp
      generalize hZ : (Act.mk _ _) = Z
      refine hK Z ?_
      subst hZ
      clear hK K
      refine kAll_tn _ (fun v W W' hk h => h) (fun W hW hF => kStep_of fun K Q hK => ?_) (fun u51 K hK => ?_)
      · rcases Bool.eq_false_or_eq_true G11 with hg | hg
        · obtain rfl := (show G11 = true → u50 = .pointer (some ⟨w.heap.size, 12, none⟩) from kHas_at hF 0 rfl (by kernel_rfl)) hg
          cases hg
          rw [if_pos (by kernel_rfl)]
          have q1 := hW.cell a12 (fun h => h)
          go_simp
          exact hK _ _ (Keep.refl _ _) (fun _ => rfl)
        · cases hg
          rw [if_neg (show ¬ (_ = true) from fun h => Bool.noConfusion (h.symm.trans (by kernel_rfl) : true = false))]
          exact fun h => by cases h
      go_simp
      generalize hZ : (Act.mk _ _) = Z
      refine hK Z ?_
      subst hZ
      clear hK K
      refine kAll_tn _ (fun v W W' hk h => h) (fun W hW hF => kStep_of fun K Q hK => ?_) (fun u52 K hK => ?_)
      · rcases Bool.eq_false_or_eq_true G11 with hg | hg
        · cases hg
          rw [if_pos (by kernel_rfl)]
          go_simp
          exact hK _ _ (Keep.refl _ _) (fun _ => rfl)
        · cases hg
          rw [if_neg (show ¬ (_ = true) from fun h => Bool.noConfusion (h.symm.trans (by kernel_rfl) : true = false))]
          exact fun h => by cases h
      go_simp
      generalize hZ : (Act.mk _ _) = Z
      refine hK Z ?_
      subst hZ
      clear hK K
      refine kAll_tn _ (fun v W W' hk h => h) (fun W hW hF => kStep_of fun K Q hK => ?_) (fun u53 K hK => ?_)
      · rcases Bool.eq_false_or_eq_true G11 with hg | hg
        · obtain rfl := (show G11 = true → u52 = .pointer (some ⟨w.heap.size + 1, 12, none⟩) from kHas_at hF 0 rfl (by kernel_rfl)) hg
          cases hg
          rw [if_pos (by kernel_rfl)]
          have q1 := hW.cell b12 (fun h => h)
          go_simp
          exact hK _ _ (Keep.refl _ _) (fun _ => rfl)
        · cases hg
          rw [if_neg (show ¬ (_ = true) from fun h => Bool.noConfusion (h.symm.trans (by kernel_rfl) : true = false))]
          exact fun h => by cases h
      go_simp
      generalize hZ : (Act.mk _ _) = Z
      refine hK Z ?_
      subst hZ
      clear hK K
      refine kAll_tn _ (fun v W W' hk h => h) (fun W hW hF => kStep_of fun K Q hK => ?_) (fun u54 K hK => ?_)
      · rcases Bool.eq_false_or_eq_true G11 with hg | hg
        · obtain rfl := (show G11 = true → u51 = .int .i64 (a.v 12) from kHas_at hF 2 rfl (by kernel_rfl)) hg
          obtain rfl := (show G11 = true → u53 = .int .i64 (b.v 12) from kHas_at hF 0 rfl (by kernel_rfl)) hg
          cases hg
          rw [if_pos (by kernel_rfl)]
          go_simp
          exact hK _ _ (Keep.refl _ _) (fun _ => rfl)
        · cases hg
          rw [if_neg (show ¬ (_ = true) from fun h => Bool.noConfusion (h.symm.trans (by kernel_rfl) : true = false))]
          exact fun h => by cases h
      go_simp
      generalize hZ : (Act.mk _ _) = Z
      refine hK Z ?_
      subst hZ
      clear hK K
      refine kAll_dn _ (fun W hW hF => kStep_of fun K Q hK => ?_) (fun K hK => ?_)
      · have hu := (show G11 = true → u54 = .bool e12 from kHas_at hF 0 rfl (by kernel_rfl))
        rw [if_pos (by kernel_rfl)]
        refine wp_pickB _ _ _ rfl rfl ?_
        exact hK _ _ (Keep.refl _ _) (pick_val HG12.out hu)
      go_simp
      generalize hZ : (Act.mk _ _) = Z
      refine hK Z ?_
      subst hZ
      clear hK K
      refine kAll_p (fun K hK => ?_)
      go_simp
      generalize hZ : (Act.mk _ _) = Z
      refine hK Z ?_
      subst hZ
      clear hK K
      refine kAll_tn _ (fun v W W' hk h => h) (fun W hW hF => kStep_of fun K Q hK => ?_) (fun u55 K hK => ?_)
      · rcases Bool.eq_false_or_eq_true G12 with hg | hg
        · cases hg
          rw [if_pos (by kernel_rfl)]
          go_simp
          exact hK _ _ (Keep.refl _ _) (fun _ => rfl)
        · cases hg
          rw [if_neg (show ¬ (_ = true) from fun h => Bool.noConfusion (h.symm.trans (by kernel_rfl) : true = false))]
          exact fun h => by cases h
      go_simp
      generalize hZ : (Act.mk _ _) = Z
      refine hK Z ?_
      subst hZ
      clear hK K
      refine kAll_tn _ (fun v W W' hk h => h) (fun W hW hF => kStep_of fun K Q hK => ?_) (fun u56 K hK => ?_)
      · rcases Bool.eq_false_or_eq_true G12 with hg | hg
        · obtain rfl := (show G12 = true → u55 = .pointer (some ⟨w.heap.size, 13, none⟩) from kHas_at hF 0 rfl (by kernel_rfl)) hg
          cases hg
          rw [if_pos (by kernel_rfl)]
          have q1 := hW.cell a13 (fun h => h)
          go_simp
          exact hK _ _ (Keep.refl _ _) (fun _ => rfl)
        · cases hg
          rw [if_neg (show ¬ (_ = true) from fun h => Bool.noConfusion (h.symm.trans (by kernel_rfl) : true = false))]
          exact fun h => by cases h
      go_simp
      generalize hZ : (Act.mk _ _) = Z
      refine hK Z ?_
      subst hZ
      clear hK K
      refine kAll_tn _ (fun v W W' hk h => h) (fun W hW hF => kStep_of fun K Q hK => ?_) (fun u57 K hK => ?_)
      · rcases Bool.eq_false_or_eq_true G12 with hg | hg
        · cases hg
          rw [if_pos (by kernel_rfl)]
          go_simp
          exact hK _ _ (Keep.refl _ _) (fun _ => rfl)
        · cases hg
          rw [if_neg (show ¬ (_ = true) from fun h => Bool.noConfusion (h.symm.trans (by kernel_rfl) : true = false))]
          exact fun h => by cases h
      go_simp
      generalize hZ : (Act.mk _ _) = Z
      refine hK Z ?_
      subst hZ
      clear hK K
      refine kAll_tn _ (fun v W W' hk h => h) (fun W hW hF => kStep_of fun K Q hK => ?_) (fun u58 K hK => ?_)
      · rcases Bool.eq_false_or_eq_true G12 with hg | hg
        · obtain rfl := (show G12 = true → u57 = .pointer (some ⟨w.heap.size + 1, 13, none⟩) from kHas_at hF 0 rfl (by kernel_rfl)) hg
          cases hg
          rw [if_pos (by kernel_rfl)]
          have q1 := hW.cell b13 (fun h => h)
          go_simp
          exact hK _ _ (Keep.refl _ _) (fun _ => rfl)
        · cases hg
          rw [if_neg (show ¬ (_ = true) from fun h => Bool.noConfusion (h.symm.trans (by kernel_rfl) : true = false))]
          exact fun h => by cases h
      go_simp
      generalize hZ : (Act.mk _ _) = Z
      refine hK Z ?_
      subst hZ
      clear hK K
      refine kAll_tn _ (fun v W W' hk h => h) (fun W hW hF => kStep_of fun K Q hK => ?_) (fun u59 K hK => ?_)
      · rcases Bool.eq_false_or_eq_true G12 with hg | hg
        · obtain rfl := (show G12 = true → u56 = .int .i64 (a.v 13) from kHas_at hF 2 rfl (by kernel_rfl)) hg
          obtain rfl := (show G12 = true → u58 = .int .i64 (b.v 13) from kHas_at hF 0 rfl (by kernel_rfl)) hg
          cases hg
          rw [if_pos (by kernel_rfl)]
          go_simp
          exact hK _ _ (Keep.refl _ _) (fun _ => rfl)
        · cases hg
          rw [if_neg (show ¬ (_ = true) from fun h => Bool.noConfusion (h.symm.trans (by kernel_rfl) : true = false))]
          exact fun h => by cases h
      go_simp
      generalize hZ : (Act.mk _ _) = Z
      refine hK Z ?_
      subst hZ
      clear hK K
      refine kAll_dn _ (fun W hW hF => kStep_of fun K Q hK => ?_) (fun K hK => ?_)
      · have hu := (show G12 = true → u59 = .bool e13 from kHas_at hF 0 rfl (by kernel_rfl))
        rw [if_pos (by kernel_rfl)]
        refine wp_pickB _ _ _ rfl rfl ?_
        exact hK _ _ (Keep.refl _ _) (pick_val HG13.out hu)
      go_simp
      generalize hZ : (Act.mk _ _) = Z
      refine hK Z ?_
      subst hZ
      clear hK K
      refine kAll_p (fun K hK => ?_)
      go_simp
      generalize hZ : (Act.mk _ _) = Z
      refine hK Z ?_
      subst hZ
      clear hK K
      refine kAll_tn _ (fun v W W' hk h => h) (fun W hW hF => kStep_of fun K Q hK => ?_) (fun u60 K hK => ?_)
      · rcases Bool.eq_false_or_eq_true G13 with hg | hg
        · cases hg
          rw [if_pos (by kernel_rfl)]
          go_simp
          exact hK _ _ (Keep.refl _ _) (fun _ => rfl)
        · cases hg
          rw [if_neg (show ¬ (_ = true) from fun h => Bool.noConfusion (h.symm.trans (by kernel_rfl) : true = false))]
          exact fun h => by cases h
      go_simp
      generalize hZ : (Act.mk _ _) = Z
      refine hK Z ?_
      subst hZ
      clear hK K
      refine kAll_tn _ (fun v W W' hk h => h) (fun W hW hF => kStep_of fun K Q hK => ?_) (fun u61 K hK => ?_)
      · rcases Bool.eq_false_or_eq_true G13 with hg | hg
        · obtain rfl := (show G13 = true → u60 = .pointer (some ⟨w.heap.size, 14, none⟩) from kHas_at hF 0 rfl (by kernel_rfl)) hg
          cases hg
          rw [if_pos (by kernel_rfl)]
          have q1 := hW.cell a14 (fun h => h)
          go_simp
          exact hK _ _ (Keep.refl _ _) (fun _ => rfl)
        · cases hg
          rw [if_neg (show ¬ (_ = true) from fun h => Bool.noConfusion (h.symm.trans (by kernel_rfl) : true = false))]
          exact fun h => by cases h
      go_simp
      generalize hZ : (Act.mk _ _) = Z
      refine hK Z ?_
      subst hZ
      clear hK K
      refine kAll_tn _ (fun v W W' hk h => h) (fun W hW hF => kStep_of fun K Q hK => ?_) (fun u62 K hK => ?_)
      · rcases Bool.eq_false_or_eq_true G13 with hg | hg
        · cases hg
          rw [if_pos (by kernel_rfl)]
          go_simp
          exact hK _ _ (Keep.refl _ _) (fun _ => rfl)
        · cases hg
          rw [if_neg (show ¬ (_ = true) from fun h => Bool.noConfusion (h.symm.trans (by kernel_rfl) : true = false))]
          exact fun h => by cases h
      go_simp
      generalize hZ : (Act.mk _ _) = Z
      refine hK Z ?_
      subst hZ
      clear hK K
      refine kAll_tn _ (fun v W W' hk h => h) (fun W hW hF => kStep_of fun K Q hK => ?_) (fun u63 K hK => ?_)
      · rcases Bool.eq_false_or_eq_true G13 with hg | hg
        · obtain rfl := (show G13 = true → u62 = .pointer (some ⟨w.heap.size + 1, 14, none⟩) from kHas_at hF 0 rfl (by kernel_rfl)) hg
          cases hg
          rw [if_pos (by kernel_rfl)]
          have q1 := hW.cell b14 (fun h => h)
          go_simp
          exact hK _ _ (Keep.refl _ _) (fun _ => rfl)
        · cases hg
          rw [if_neg (show ¬ (_ = true) from fun h => Bool.noConfusion (h.symm.trans (by kernel_rfl) : true = false))]
          exact fun h => by cases h
      go_simp
      generalize hZ : (Act.mk _ _) = Z
      refine hK Z ?_
      subst hZ
      clear hK K
      refine kAll_tn _ (fun v W W' hk h => h) (fun W hW hF => kStep_of fun K Q hK => ?_) (fun u64 K hK => ?_)
      · rcases Bool.eq_false_or_eq_true G13 with hg | hg
        · obtain rfl := (show G13 = true → u61 = .int .i64 (a.v 14) from kHas_at hF 2 rfl (by kernel_rfl)) hg
          obtain rfl := (show G13 = true → u63 = .int .i64 (b.v 14) from kHas_at hF 0 rfl (by kernel_rfl)) hg
          cases hg
          rw [if_pos (by kernel_rfl)]
          go_simp
          exact hK _ _ (Keep.refl _ _) (fun _ => rfl)
        · cases hg
          rw [if_neg (show ¬ (_ = true) from fun h => Bool.noConfusion (h.symm.trans (by kernel_rfl) : true = false))]
          exact fun h => by cases h
      go_simp
      generalize hZ : (Act.mk _ _) = Z
      refine hK Z ?_
      subst hZ
      clear hK K
      refine kAll_dn _ (fun W hW hF => kStep_of fun K Q hK => ?_) (fun K hK => ?_)
      · have hu := (show G13 = true → u64 = .bool e14 from kHas_at hF 0 rfl (by kernel_rfl))
        rw [if_pos (by kernel_rfl)]
        refine wp_pickB _ _ _ rfl rfl ?_
        exact hK _ _ (Keep.refl _ _) (pick_val HG14.out hu)
      go_simp
      generalize hZ : (Act.mk _ _) = Z
      refine hK Z ?_
      subst hZ
      clear hK K
      refine kAll_p (fun K hK => ?_)
      go_simp
      generalize hZ : (Act.mk _ _) = Z
      refine hK Z ?_
      subst hZ
      clear hK K
      refine kAll_tn _ (fun v W W' hk h => h) (fun W hW hF => kStep_of fun K Q hK => ?_) (fun u65 K hK => ?_)
      · rcases Bool.eq_false_or_eq_true G14 with hg | hg
        · cases hg
          rw [if_pos (by kernel_rfl)]
          go_simp
          exact hK _ _ (Keep.refl _ _) (fun _ => rfl)
        · cases hg
          rw [if_neg (show ¬ (_ = true) from fun h => Bool.noConfusion (h.symm.trans (by kernel_rfl) : true = false))]
          exact fun h => by cases h
      go_simp
      generalize hZ : (Act.mk _ _) = Z
      refine hK Z ?_
      subst hZ
      clear hK K
      refine kAll_tn _ (fun v W W' hk h => h) (fun W hW hF => kStep_of fun K Q hK => ?_) (fun u66 K hK => ?_)
      · rcases Bool.eq_false_or_eq_true G14 with hg | hg
        · obtain rfl := (show G14 = true → u65 = .pointer (some ⟨w.heap.size, 15, none⟩) from kHas_at hF 0 rfl (by kernel_rfl)) hg
          cases hg
          rw [if_pos (by kernel_rfl)]
          have q1 := hW.cell a15 (fun h => h)
          go_simp
          exact hK _ _ (Keep.refl _ _) (fun _ => rfl)
        · cases hg
          rw [if_neg (show ¬ (_ = true) from fun h => Bool.noConfusion (h.symm.trans (by kernel_rfl) : true = false))]
          exact fun h => by cases h
      go_simp
      generalize hZ : (Act.mk _ _) = Z
      refine hK Z ?_
      subst hZ
      clear hK K
      refine kAll_tn _ (fun v W W' hk h => h) (fun W hW hF => kStep_of fun K Q hK => ?_) (fun u67 K hK => ?_)
      · rcases Bool.eq_false_or_eq_true G14 with hg | hg
        · cases hg
          rw [if_pos (by kernel_rfl)]
          go_simp
          exact hK _ _ (Keep.refl _ _) (fun _ => rfl)
        · cases hg
          rw [if_neg (show ¬ (_ = true) from fun h => Bool.noConfusion (h.symm.trans (by kernel_rfl) : true = false))]
          exact fun h => by cases h
      go_simp
      generalize hZ : (Act.mk _ _) = Z
      refine hK Z ?_
      subst hZ
      clear hK K
      refine kAll_tn _ (fun v W W' hk h => h) (fun W hW hF => kStep_of fun K Q hK => ?_) (fun u68 K hK => ?_)
      · rcases Bool.eq_false_or_eq_true G14 with hg | hg
        · obtain rfl := (show G14 = true → u67 = .pointer (some ⟨w.heap.size + 1, 15, none⟩) from kHas_at hF 0 rfl (by kernel_rfl)) hg
          cases hg
          rw [if_pos (by kernel_rfl)]
          have q1 := hW.cell b15 (fun h => h)
          go_simp
          exact hK _ _ (Keep.refl _ _) (fun _ => rfl)
        · cases hg
          rw [if_neg (show ¬ (_ = true) from fun h => Bool.noConfusion (h.symm.trans (by kernel_rfl) : true = false))]
          exact fun h => by cases h
      go_simp
      generalize hZ : (Act.mk _ _) = Z
      refine hK Z ?_
      subst hZ
      clear hK K
      refine kAll_tn _ (fun v W W' hk h => h) (fun W hW hF => kStep_of fun K Q hK => ?_) (fun u69 K hK => ?_)
      · rcases Bool.eq_false_or_eq_true G14 with hg | hg
        · obtain rfl := (show G14 = true → u66 = .int .i64 (a.v 15) from kHas_at hF 2 rfl (by kernel_rfl)) hg
          obtain rfl := (show G14 = true → u68 = .int .i64 (b.v 15) from kHas_at hF 0 rfl (by kernel_rfl)) hg
          cases hg
          rw [if_pos (by kernel_rfl)]
          go_simp
          exact hK _ _ (Keep.refl _ _) (fun _ => rfl)
        · cases hg
          rw [if_neg (show ¬ (_ = true) from fun h => Bool.noConfusion (h.symm.trans (by kernel_rfl) : true = false))]
          exact fun h => by cases h
      go_simp
      generalize hZ : (Act.mk _ _) = Z
      refine hK Z ?_
      subst hZ
      clear hK K
      refine kAll_dn _ (fun W hW hF => kStep_of fun K Q hK => ?_) (fun K hK => ?_)
      · have hu := (show G14 = true → u69 = .bool e15 from kHas_at hF 0 rfl (by kernel_rfl))
        rw [if_pos (by kernel_rfl)]
        refine wp_pickB _ _ _ rfl rfl ?_
        exact hK _ _ (Keep.refl _ _) (pick_val HG15.out hu)
      go_simp
      generalize hZ : (Act.mk _ _) = Z
      refine hK Z ?_
      subst hZ
      clear hK K
      refine kAll_p (fun K hK => ?_)
      go_simp
      generalize hZ : (Act.mk _ _) = Z
      refine hK Z ?_
      subst hZ
      clear hK K
      refine kAll_tn _ (fun v W W' hk h => h) (fun W hW hF => kStep_of fun K Q hK => ?_) (fun u70 K hK => ?_)
      · rcases Bool.eq_false_or_eq_true G15 with hg | hg
        · cases hg
          rw [if_pos (by kernel_rfl)]
          go_simp
          exact hK _ _ (Keep.refl _ _) (fun _ => rfl)
        · cases hg
          rw [if_neg (show ¬ (_ = true) from fun h => Bool.noConfusion (h.symm.trans (by kernel_rfl) : true = false))]
          exact fun h => by cases h
      go_simp
      generalize hZ : (Act.mk _ _) = Z
      refine hK Z ?_
      subst hZ
      clear hK K
      refine kAll_tn _ (fun v W W' hk h => h) (fun W hW hF => kStep_of fun K Q hK => ?_) (fun u71 K hK => ?_)
      · rcases Bool.eq_false_or_eq_true G15 with hg | hg
        · obtain rfl := (show G15 = true → u70 = .pointer (some ⟨w.heap.size, 16, none⟩) from kHas_at hF 0 rfl (by kernel_rfl)) hg
          cases hg
          rw [if_pos (by kernel_rfl)]
          have q1 := hW.cell a16 (fun h => h)
          go_simp
          exact hK _ _ (Keep.refl _ _) (fun _ => rfl)
        · cases hg
          rw [if_neg (show ¬ (_ = true) from fun h => Bool.noConfusion (h.symm.trans (by kernel_rfl) : true = false))]
          exact fun h => by cases h
      go_simp
      generalize hZ : (Act.mk _ _) = Z
      refine hK Z ?_
      subst hZ
      clear hK K
      refine kAll_tn _ (fun v W W' hk h => h) (fun W hW hF => kStep_of fun K Q hK => ?_) (fun u72 K hK => ?_)
      · rcases Bool.eq_false_or_eq_true G15 with hg | hg
        · cases hg
          rw [if_pos (by kernel_rfl)]
          go_simp
          exact hK _ _ (Keep.refl _ _) (fun _ => rfl)
        · cases hg
          rw [if_neg (show ¬ (_ = true) from fun h => Bool.noConfusion (h.symm.trans (by kernel_rfl) : true = false))]
          exact fun h => by cases h
      go_simp
      generalize hZ : (Act.mk _ _) = Z
      refine hK Z ?_
      subst hZ
      clear hK K
      refine kAll_tn _ (fun v W W' hk h => h) (fun W hW hF => kStep_of fun K Q hK => ?_) (fun u73 K hK => ?_)
      · rcases Bool.eq_false_or_eq_true G15 with hg | hg
        · obtain rfl := (show G15 = true → u72 = .pointer (some ⟨w.heap.size + 1, 16, none⟩) from kHas_at hF 0 rfl (by kernel_rfl)) hg
          cases hg
          rw [if_pos (by kernel_rfl)]
          have q1 := hW.cell b16 (fun h => h)
          go_simp
          exact hK _ _ (Keep.refl _ _) (fun _ => rfl)
        · cases hg
          rw [if_neg (show ¬ (_ = true) from fun h => Bool.noConfusion (h.symm.trans (by kernel_rfl) : true = false))]
          exact fun h => by cases h
      go_simp
      generalize hZ : (Act.mk _ _) = Z
      refine hK Z ?_
      subst hZ
      clear hK K
      refine kAll_tn _ (fun v W W' hk h => h) (fun W hW hF => kStep_of fun K Q hK => ?_) (fun u74 K hK => ?_)
      · rcases Bool.eq_false_or_eq_true G15 with hg | hg
        · obtain rfl := (show G15 = true → u71 = .int .i64 (a.v 16) from kHas_at hF 2 rfl (by kernel_rfl)) hg
          obtain rfl := (show G15 = true → u73 = .int .i64 (b.v 16) from kHas_at hF 0 rfl (by kernel_rfl)) hg
          cases hg
          rw [if_pos (by kernel_rfl)]
          go_simp
          exact hK _ _ (Keep.refl _ _) (fun _ => rfl)
        · cases hg
          rw [if_neg (show ¬ (_ = true) from fun h => Bool.noConfusion (h.symm.trans (by kernel_rfl) : true = false))]
          exact fun h => by cases h
      go_simp
      generalize hZ : (Act.mk _ _) = Z
      refine hK Z ?_
      subst hZ
      clear hK K
      refine kAll_dn _ (fun W hW hF => kStep_of fun K Q hK => ?_) (fun K hK => ?_)
      · have hu := (show G15 = true → u74 = .bool e16 from kHas_at hF 0 rfl (by kernel_rfl))
        rw [if_pos (by kernel_rfl)]
        refine wp_pickB _ _ _ rfl rfl ?_
        exact hK _ _ (Keep.refl _ _) (pick_val HG16.out hu)
      go_simp
      generalize hZ : (Act.mk _ _) = Z
      refine hK Z ?_
      subst hZ
      clear hK K
      refine kAll_p (fun K hK => ?_)
      go_simp
      generalize hZ : (Act.mk _ _) = Z
      refine hK Z ?_
      subst hZ
      clear hK K
      refine kAll_nil (fun W hW hF => ?_)
      have HKq := Lib.hid (keep0_trans _ _ _ HKk.out hW)
      clear hF hW
      go_wp2
      go_ret
      exact ⟨by rw [HSam.out]; rfl, keep0_trans _ _ _ HK0.out HKq.out⟩
end Go.Proofs.YtjgkalcldekmpaaGreatDoor
