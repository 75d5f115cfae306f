/-
  config: Equal, Same. Written by gen_q.py.
-/
import Derived.Test.YtjgkalcldekmpaaGreatDoorCfgO
import Derived.Shelf.Slices.Equal
namespace Go.Proofs.YtjgkalcldekmpaaGreatDoor
open Go.RowKit Go Go.Shelf
set_option maxRecDepth 100000
attribute [local irreducible] kAll
attribute [local go_sem] kQuiet kQuietUpon
attribute [local go_sem] bs_toList bs_size bs_zero

theorem equal_any (s t : List Int) (A B : Option Addr) (c d : Nat) (w : World) (h1 : RdN w A s.length s) (h2 : RdN w B t.length t) (hs : s.length ≤ 9223372036854775807) (ht : t.length ≤ 9223372036854775807) :
    Calls Tryz.prog 27 #[.slice A s.length c, .slice B t.length d] w (Tell (.bool (decide (s = t))) w) := by
  by_cases he : s.length = t.length
  · by_cases h0 : s.length = 0
    · have e1 : s = [] := List.eq_nil_of_length_eq_zero h0
      have e2 : t = [] := List.eq_nil_of_length_eq_zero (by omega)
      subst e1 e2
      refine (Any.slices_Equal_int_empty Tryz.lEqual A B c 0 d w (by decide)).mono ?_
      rintro e w' ⟨rfl, rfl⟩
      exact ⟨rfl, Keep.refl _ _⟩
    · obtain ⟨g1, o1, rfl, c1⟩ := h1.cells (by omega)
      obtain ⟨g2, o2, rfl, c2⟩ := h2.cells (by omega)
      refine (Any.slices_Equal_int Tryz.lEqual g1 o1 s.length c g2 o2 t.length d s t w (Nat.le_refl _) (Nat.le_refl _) hs ht c1 c2).mono ?_
      rintro e w' ⟨rfl, q, rfl⟩
      rw [List.take_length, List.take_length]
      exact ⟨by by_cases e : s = t <;> simp [e], (Keep.refl _ _).drewN q⟩
  · have q1 : ¬ (s.length : Int) = (t.length : Int) := by omega
    have q2 : ¬ s = t := fun e => he (by rw [e])
    rw [decide_eq_false q2]
    clear h1 h2
    go_enter Tryz.func27, Tryz.ntmps27
    go_wp2
    go_ret
    exact ⟨rfl, Keep.refl _ _⟩
/-- are they the same? -/
def sameM (a b : Cfg) : Bool := decide (a.seeds = b.seeds) && (List.range 17).all fun i => decide (showM i a = showM i b)
theorem sameM_refl (a : Cfg) : sameM a a = true := by simp [sameM]
theorem sameM_no {a b : Cfg} {i : Nat} (hi : i < 17) (h : ¬ showM i a = showM i b) : sameM a b = false := by
  unfold sameM
  rw [Bool.and_eq_false_iff]
  exact .inr (List.all_eq_false.2 ⟨i, List.mem_range.2 hi, by simp [h]⟩)
set_option maxHeartbeats 8000000 in
theorem same_any (a b : Cfg) (A B : Option Addr) (cA cB : Nat) (ha : WfC a) (hb : WfC b) (w : World) (hE : Env w) (hA : RdN w A a.seeds.length a.seeds) (hB : RdN w B b.seeds.length b.seeds) :
    Calls Tryz.prog 13 #[.agg (cfgA (.slice A a.seeds.length cA) a.v), .agg (cfgA (.slice B b.seeds.length cB) b.v)] w (Tell (.bool (sameM a b)) w) := by
  have hk0 : Keep (fun _ => False) w ((w.alloc (.cells (cfgA (.slice A a.seeds.length cA) a.v) 25)).alloc (.cells (cfgA (.slice B b.seeds.length cB) b.v) 25)) := ((Keep.refl _ w).alloc _).alloc _
  have hX := (Blk.new w 25 (cfgA (.slice A a.seeds.length cA) a.v)).alloc (.cells (cfgA (.slice B b.seeds.length cB) b.v) 25)
  have hY : Blk ((w.alloc (.cells (cfgA (.slice A a.seeds.length cA) a.v) 25)).alloc (.cells (cfgA (.slice B b.seeds.length cB) b.v) 25)) (w.heap.size + 1) 25 (cfgA (.slice B b.seeds.length cB) b.v) := Blk.new_ (by simp) _ _
  obtain ⟨W0, hW0⟩ : ∃ W0, (w.alloc (.cells (cfgA (.slice A a.seeds.length cA) a.v) 25)).alloc (.cells (cfgA (.slice B b.seeds.length cB) b.v) 25) = W0 := ⟨_, rfl⟩
  rw [hW0] at hk0 hX hY
  have x0 := hX.cell 0
  have y0 := hY.cell 0
  rw [cfgA_get _ _ (by decide)] at x0 y0
  simp only [cfgC, if_true] at x0 y0
  have HX := Lib.hid hX
  have HY := Lib.hid hY
  have HK0 := Lib.hid hk0
  have HE := Lib.hid (hE.keep0 hk0)
  have HA := Lib.hid (hA.keep0 hk0)
  have HB := Lib.hid (hB.keep0 hk0)
  have HWa := Lib.hid ha
  have HWb := Lib.hid hb
  have hla := ha.len
  have hlb := hb.len
  clear hX hY hk0 hE hA hB ha hb
  go_enter Tryz.func13, Tryz.ntmps13
  go_wp2_with fail
  refine (equal_any a.seeds b.seeds A B cA cB W0 HA.out HB.out (by omega) (by omega)).mono ?_
  rintro e W1 ⟨rfl, hk1⟩
  have HK1 := Lib.hid hk1
  clear hk1 x0 y0
  by_cases hse : a.seeds = b.seeds
  case neg =>
    have HSm := Lib.hid (show sameM a b = false by unfold sameM; rw [decide_eq_false hse]; rfl)
    rw [decide_eq_false hse]
    clear hW0
    go_wp2
    go_ret
    exact ⟨by rw [HSm.out]; rfl, keep0_trans _ _ _ HK0.out HK1.out⟩
  have HSe := Lib.hid hse
  rw [decide_eq_true hse]
  clear hse hW0
  go_wp2_with fail
  refine (keys_any W1).mono ?_
  rintro e W2 ⟨K0, bx, rfl, hKs, hKl, hbl, hk2⟩
  have HKs := Lib.hid hKs
  have HK2 := Lib.hid (keep0_trans _ _ _ HK1.out hk2)
  clear hKs hKl hbl hk2
  go_wp2
  go_loopw [15] (fun j wr => ∃ k : Nat, k ≤ 17 ∧ j = .int .i64 (k : Int) ∧ Hid (Keep (fun _ => False) W2 wr) ∧ Hid (∀ i, i < k → showM i a = showM i b)) (fun j _ => 17 - (intOf j).toNat)
  case atStart => exact ⟨0, by omega, rfl, Lib.hid (Keep.refl _ _), Lib.hid (fun i h => by omega)⟩
  case round =>
    obtain ⟨k, hk, rfl, HKk, HSh⟩ := hrel
    have e2 : IntKind.i64.wrap ((k : Int) + 1) = (k : Int) + 1 := IntWalk.i64_in _ (by omega)
    by_cases hlt : k < 17
    · have q1 : (k : Int) < 17 := by omega
      have q2 : (0 : Int) ≤ (k : Int) := by omega
      obtain ⟨g, lb, hG, eg, hC⟩ := show_any bx k hlt
      obtain ⟨k0, k1, k2⟩ := (HKs.out.keep0 HKk.out).cell hlt
      obtain ⟨g2, lb2, hG2, _⟩ := set_any bx k hlt
      rw [hG] at k1
      rw [hG2] at k2
      have HC := Lib.hid hC
      have hBk := Blk.new wr 58 #[.string (bs (KN[k]?.getD [])), .func (.func g) #[] lb, .func (.func g2) #[] lb2]
      have HBk := Lib.hid hBk
      have HK3 := Lib.hid (keep0_trans _ _ _ (keep0_trans _ _ _ HK2.out HKk.out) ((Keep.refl (fun _ => False) wr).alloc (.cells #[.string (bs (KN[k]?.getD [])), .func (.func g) #[] lb, .func (.func g2) #[] lb2] 58)))
      have HKc := Lib.hid (keep0_trans _ _ _ HKk.out ((Keep.refl (fun _ => False) wr).alloc (.cells #[.string (bs (KN[k]?.getD [])), .func (.func g) #[] lb, .func (.func g2) #[] lb2] 58)))
      clear hC hBk hG hG2
      go_upto_region 6 with fail
      generalize hW3 : wr.alloc (.cells #[.string (bs (KN[k]?.getD [])), .func (.func g) #[] lb, .func (.func g2) #[] lb2] 58) = W3 at *
      generalize hS3 : wr.heap.size = s3 at *
      clear hW3
      refine wp_region_krip (Keep (fun _ => False)) (Keep.refl _) keep0_trans 8 (by kernel_rfl) (by kernel_rfl) (Ts := [none, some (.inl (.func (.func g) #[] lb)), some (.inl (.agg (cfgA (.slice A a.seeds.length cA) a.v))), some (.inl (.string (bs (showM k a)))), none, some (.inl (.func (.func g) #[] lb)), some (.inl (.agg (cfgA (.slice B b.seeds.length cB) b.v))), some (.inl (.string (bs (showM k b))))]) ?_
      simp only [List.take, List.drop]
      refine kAll_p (fun K hK => ?_)
      go_simp
      generalize hZ : (Act.mk _ _) = Z
      refine hK Z ?_
      subst hZ
      clear hK K
      refine kAll_d _ (fun W hW hF => kStep_w (by kernel_rfl) fun K Q hK => ?_) ?_
      · have hcell := (HBk.out.keep (keepD (Keep.refl _ _) hW) (fun h => h)).cell 1
        simp at hcell
        go_simp
        exact hK _ _ (Keep.refl _ _) rfl
      refine kAll_d _ (fun W hW hF => kStep_w (by kernel_rfl) fun K Q hK => ?_) ?_
      · exact wp_load_row 25 _ rfl w.heap.size rfl 25 _ (0, 0) _ (HX.out.keep (keep0_trans _ _ _ HK3.out (keepD (Keep.refl _ _) hW)) (fun h => h)) Tryz.underlying25 rfl infoCfg (hK _ _ (Keep.refl _ _) rfl)
      refine kAll_d _ (fun W hW hF => kStep_w (by kernel_rfl) fun K Q hK => ?_) ?_
      · go_simp
        refine (HC.out K0 a A cA W (HE.out.keep0 (keep0_trans _ _ _ HK3.out (keepD (Keep.refl _ _) hW))) HWa.out (HKs.out.keep0 (keep0_trans _ _ _ HKc.out (keepD (Keep.refl _ _) hW))) (HA.out.keep0 (keep0_trans _ _ _ HK3.out (keepD (Keep.refl _ _) hW)))).mono ?_
        rintro e w' ⟨rfl, hk⟩
        exact hK _ _ hk rfl
      refine kAll_p (fun K hK => ?_)
      go_simp
      generalize hZ : (Act.mk _ _) = Z
      refine hK Z ?_
      subst hZ
      clear hK K
      refine kAll_d _ (fun W hW hF => kStep_w (by kernel_rfl) fun K Q hK => ?_) ?_
      · have hcell := (HBk.out.keep (keepD (Keep.refl _ _) hW) (fun h => h)).cell 1
        simp at hcell
        go_simp
        exact hK _ _ (Keep.refl _ _) rfl
      refine kAll_d _ (fun W hW hF => kStep_w (by kernel_rfl) fun K Q hK => ?_) ?_
      · exact wp_load_row 25 _ rfl (w.heap.size + 1) rfl 25 _ (0, 0) _ (HY.out.keep (keep0_trans _ _ _ HK3.out (keepD (Keep.refl _ _) hW)) (fun h => h)) Tryz.underlying25 rfl infoCfg (hK _ _ (Keep.refl _ _) rfl)
      refine kAll_d _ (fun W hW hF => kStep_w (by kernel_rfl) fun K Q hK => ?_) ?_
      · go_simp
        refine (HC.out K0 b B cB W (HE.out.keep0 (keep0_trans _ _ _ HK3.out (keepD (Keep.refl _ _) hW))) HWb.out (HKs.out.keep0 (keep0_trans _ _ _ HKc.out (keepD (Keep.refl _ _) hW))) (HB.out.keep0 (keep0_trans _ _ _ HK3.out (keepD (Keep.refl _ _) hW)))).mono ?_
        rintro e w' ⟨rfl, hk⟩
        exact hK _ _ hk rfl
      refine kAll_nil (fun W5 hW hF => ?_)
      have HK5 := Lib.hid (keepD (Keep.refl _ _) hW)
      clear hF hW
      by_cases hsh : showM k a = showM k b
      case neg =>
        have HSm := Lib.hid (sameM_no hlt hsh)
        have y1 : (showM k a == showM k b) = false := by rw [beq_eq_false_iff_ne]; exact hsh
        go_wp2
        go_ret
        exact ⟨by rw [HSm.out]; rfl, keep0_trans _ _ _ HK0.out (keep0_trans _ _ _ HK3.out HK5.out)⟩
      have HSq := Lib.hid hsh
      rw [hsh]
      go_wp2
      go_roundw
      case rel => exact ⟨k + 1, by omega, by go_num, Lib.hid (keep0_trans _ _ _ HKc.out HK5.out), Lib.hid (fun i h => by
        by_cases e : i = k
        · rw [e]; exact HSq.out
        · exact HSh.out i (by omega))⟩
      case measure => simp [intOf]; omega
    · obtain rfl : k = 17 := by omega
      have HSm := Lib.hid (show sameM a b = true by
        unfold sameM
        rw [decide_eq_true HSe.out, Bool.true_and, List.all_eq_true]
        exact fun i hi => decide_eq_true (HSh.out i (List.mem_range.1 hi)))
      go_wp2
      go_ret
      exact ⟨by rw [HSm.out]; rfl, keep0_trans _ _ _ HK0.out (keep0_trans _ _ _ HK2.out HKk.out)⟩
end Go.Proofs.YtjgkalcldekmpaaGreatDoor
