/-
  config: what the keys show.
-/
import Derived.Test.YtjgkalcldekmpaaGreatDoorCfgL
import Derived.Lib.AppendIntMem
import Derived.Shelf.Strings.OnBuilder
namespace Go.Proofs.YtjgkalcldekmpaaGreatDoor
open Go.RowKit Go Go.Shelf
set_option maxRecDepth 100000
attribute [local go_sem] bs_toList bs_size bs_zero

theorem bs_cat (a b : Bs) : bs a ++ bs b = bs (a ++ b) := by
  apply ByteArray.ext
  simp [bs]
def i64 (n : Int) : Prop := -9223372036854775808 ≤ n ∧ n ≤ 9223372036854775807
/-- what may lie in memory -/
structure WfC (c : Cfg) : Prop where
  seeds : ∀ n ∈ c.seeds, i64 n
  v : ∀ i, isNum i → i64 (c.v i)
  s8 : 0 ≤ c.v 8 ∧ c.v 8 < 256
  len : c.seeds.length ≤ 400000000
def showN (n : Int) : Bs := if n = 0 then [] else Lib.itoa n
def flagB (n : Int) : Bs := if n = 0 then [] else yesB
def stratB (n : Int) : Bs := if n < 5 then NMS.getD n.toNat [] else 63 :: Lib.itoa n
/-- what key i shows -/
def showM (i : Nat) (c : Cfg) : Bs :=
  if i = 0 then Lib.join (c.seeds.map Lib.itoa) [44, 32]
  else if i = 8 then stratB (c.v 8)
  else if i = 10 ∨ i = 11 then flagB (c.v i)
  else showN (c.v i)
theorem decDigits_len : ∀ (k u : Nat), u < 10 ^ k → 1 ≤ k → (Lib.decDigits u).length ≤ k
  | 0, u, h, hk => by omega
  | k + 1, u, h, _ => by
    rw [Lib.decDigits]
    split
    · simp
    · rw [List.length_append, List.length_singleton]
      have h1 : u / 10 < 10 ^ k := by
        rw [Nat.pow_succ] at h; omega
      have hk1 : 1 ≤ k := by
        rcases Nat.eq_zero_or_pos k with e | e
        · subst e; simp at h; omega
        · exact e
      have := decDigits_len k (u / 10) h1 hk1
      omega
theorem itoa_len {n : Int} (h : i64 n) : (Lib.itoa n).length ≤ 20 := by
  unfold Lib.itoa
  obtain ⟨h1, h2⟩ := h
  split
  · rw [List.length_cons]
    have := decDigits_len 19 n.natAbs (by omega) (by decide)
    omega
  · have := decDigits_len 19 n.toNat (by omega) (by decide)
    omega
theorem itoa_any (n : Int) (h : i64 n) (w : World) (hE : Env w) : Calls Tryz.prog 77 #[.int .i64 n] w (Tell (.string (bs (Lib.itoa n))) w) := by
  refine (Any.strconv_Itoa Tryz.lItoa n h.1 h.2 w hE.tab).mono ?_
  rintro e w' ⟨rfl, k, os, rfl⟩
  exact ⟨rfl, keep0_of_below (Lib.below_grow _ _ (Nat.le_refl _) _ _)⟩
set_option maxHeartbeats 1000000 in
theorem showNum_any (i : Nat) (hi : isNum i) (B : Nat) (s : Value) (v : Nat → Int) (hv : i64 (v i)) (w : World) (hE : Env w) (hB : Blk w B 83 #[.func (.func (atF i)) #[] #[]]) :
    Calls Tryz.prog 80 #[.agg (cfgA s v), .pointer (some ⟨B, 0, none⟩)] w (Tell (.string (bs (showN (v i)))) w) := by
  have HE := Lib.hid hE
  have HI := Lib.hid hi
  have HV := Lib.hid hv
  have eg := at_enters i (.inl hi)
  have b0 := hB.cell 0
  simp at b0
  have hk0 : Keep (fun _ => False) w (w.alloc (.cells (cfgA s v) 25)) := (Keep.refl _ w).alloc _
  have HK0 := Lib.hid hk0
  have hX := Blk.new w 25 (cfgA s v)
  have c1 := hX.cell i
  rw [cfgA_get _ _ hi.1] at c1
  have b1 := hk0.cell b0 (fun h => h)
  rw [show cfgC s v i = .int .i64 (v i) by unfold cfgC; rw [if_neg hi.2.1, cV_num hi]] at c1
  clear hE hB hi hv hk0 hX
  go_enter Tryz.func80, Tryz.ntmps80
  go_wp2_with fail
  refine (at_any i (.inl HI.out) _ _).mono ?_
  rintro e w1 ⟨rfl, rfl⟩
  by_cases hz : v i = 0
  · rw [hz] at c1
    go_wp2
    go_ret
    refine ⟨by rw [hz]; rfl, HK0.out⟩
  · go_wp2_with fail
    refine (itoa_any (v i) HV.out _ (HE.out.keep0 HK0.out)).mono ?_
    rintro e w2 ⟨rfl, hk⟩
    go_wp2
    go_ret
    exact ⟨by unfold showN; rw [if_neg hz]; rfl, keep0_trans _ _ _ HK0.out hk⟩
set_option maxHeartbeats 1000000 in
theorem showFlag_any (i : Nat) (hi : isFlag i) (B : Nat) (s : Value) (v : Nat → Int) (w : World) (hB : Blk w B 86 #[.func (.func (atF i)) #[] #[]]) :
    Calls Tryz.prog 83 #[.agg (cfgA s v), .pointer (some ⟨B, 0, none⟩)] w (Tell (.string (bs (flagB (v i)))) w) := by
  have HI := Lib.hid hi
  have eg := at_enters i (.inr hi)
  have b0 := hB.cell 0
  simp at b0
  have hk0 : Keep (fun _ => False) w (w.alloc (.cells (cfgA s v) 25)) := (Keep.refl _ w).alloc _
  have HK0 := Lib.hid hk0
  have hX := Blk.new w 25 (cfgA s v)
  have c1 := hX.cell i
  rw [cfgA_get _ _ hi.lt.1] at c1
  have b1 := hk0.cell b0 (fun h => h)
  rw [show cfgC s v i = .bool (decide (v i ≠ 0)) by unfold cfgC; rw [if_neg hi.lt.2, cV_flag hi]] at c1
  clear hB hi hk0 hX
  go_enter Tryz.func83, Tryz.ntmps83
  go_wp2_with fail
  refine (at_any i (.inr HI.out) _ _).mono ?_
  rintro e w1 ⟨rfl, rfl⟩
  by_cases hz : v i = 0
  · rw [show decide (v i ≠ 0) = false by simp [hz]] at c1
    go_wp2
    go_ret
    exact ⟨by unfold flagB; rw [if_pos hz]; rfl, HK0.out⟩
  · rw [show decide (v i ≠ 0) = true by simp [hz]] at c1
    go_wp2
    go_ret
    exact ⟨by unfold flagB; rw [if_neg hz]; rfl, HK0.out⟩
set_option maxHeartbeats 1000000 in
theorem showStrategy_any (s : Value) (v : Nat → Int) (h0 : 0 ≤ v 8) (h256 : v 8 < 256) (w : World) (hE : Env w) :
    Calls Tryz.prog 51 #[.agg (cfgA s v)] w (Tell (.string (bs (stratB (v 8)))) w) := by
  have hk0 : Keep (fun _ => False) w (w.alloc (.cells (cfgA s v) 25)) := (Keep.refl _ w).alloc _
  have HK0 := Lib.hid hk0
  have HE := Lib.hid (hE.keep0 hk0)
  have hX := Blk.new w 25 (cfgA s v)
  have c1 := hX.cell 8
  rw [cfgA_get _ _ (by decide)] at c1
  simp only [cfgC, cV, if_true, Nat.reduceEqDiff, if_false] at c1
  obtain ⟨x, hx⟩ : ∃ x, v 8 = x := ⟨_, rfl⟩
  rw [hx] at c1 h0 h256 ⊢
  have e1 : IntKind.i64.wrap x = x := IntWalk.i64_in _ (by omega)
  clear hE hk0 hX hx
  go_enter Tryz.func51, Tryz.ntmps51
  by_cases h5 : x < 5
  · obtain ⟨n, hn⟩ : ∃ n : Nat, x = n := ⟨x.toNat, by omega⟩
    subst hn
    have s1 := HE.out.str n (by omega)
    have q2 : (n : Int) < 5 := h5
    go_wp2
    go_ret
    exact ⟨by unfold stratB; rw [if_pos h5]; rfl, HK0.out⟩
  · go_wp2_with fail
    refine (itoa_any x ⟨by omega, by omega⟩ _ HE.out).mono ?_
    rintro e w2 ⟨rfl, hk⟩
    have hlen := itoa_len (n := x) ⟨by omega, by omega⟩
    have q3 : ¬ 9223372036854775807 < 1 + (Lib.itoa x).length := by omega
    clear hlen
    go_wp2
    go_ret
    refine ⟨?_, keep0_trans _ _ _ HK0.out hk⟩
    have e : stratB x = [63] ++ Lib.itoa x := if_neg (by omega)
    rw [e, ← bs_cat]
    rfl
end Go.Proofs.YtjgkalcldekmpaaGreatDoor
