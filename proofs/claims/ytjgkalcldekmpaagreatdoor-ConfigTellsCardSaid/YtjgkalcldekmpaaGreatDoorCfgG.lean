/-
  config: which key a name is; what its closure sets. Written by gen_g.py.
-/
import Derived.Test.YtjgkalcldekmpaaGreatDoorCfgF
namespace Go.Proofs.YtjgkalcldekmpaaGreatDoor
open Go.RowKit Go Go.Shelf
set_option maxRecDepth 100000
attribute [local go_sem] bs_toList bs_size bs_zero

/-- the number of the key of that name; 17: there is none -/
def keyN (l : Bs) : Nat := KN.idxOf l
theorem keyN_le (l : Bs) : keyN l ≤ 17 := by unfold keyN; exact List.idxOf_le_length (l := KN)
theorem key_idx (l : Bs) : Lib.idxBy (fun _ y => decide (KN.getD y [] = l)) (List.range 17) (default : Nat) = if keyN l = 17 then -1 else (keyN l : Int) := by
  by_cases h0 : l = [115, 101, 101, 100, 115]
  · subst h0; decide +kernel
  by_cases h1 : l = [119, 97, 116, 99, 104]
  · subst h1; decide +kernel
  by_cases h2 : l = [109, 105, 110]
  · subst h2; decide +kernel
  by_cases h3 : l = [109, 97, 120]
  · subst h3; decide +kernel
  by_cases h4 : l = [119, 105, 110, 100, 111, 119]
  · subst h4; decide +kernel
  by_cases h5 : l = [114, 101, 116, 114, 121]
  · subst h5; decide +kernel
  by_cases h6 : l = [115, 116, 97, 98, 108, 101]
  · subst h6; decide +kernel
  by_cases h7 : l = [117, 110, 115, 116, 97, 98, 108, 101]
  · subst h7; decide +kernel
  by_cases h8 : l = [115, 116, 114, 97, 116, 101, 103, 121]
  · subst h8; decide +kernel
  by_cases h9 : l = [113, 117, 111, 114, 117, 109]
  · subst h9; decide +kernel
  by_cases h10 : l = [97, 108, 111, 110, 101]
  · subst h10; decide +kernel
  by_cases h11 : l = [119, 101, 97, 107]
  · subst h11; decide +kernel
  by_cases h12 : l = [100, 101, 108, 97, 121]
  · subst h12; decide +kernel
  by_cases h13 : l = [116, 101, 114, 109]
  · subst h13; decide +kernel
  by_cases h14 : l = [104, 111, 108, 100]
  · subst h14; decide +kernel
  by_cases h15 : l = [113, 117, 101, 117, 101]
  · subst h15; decide +kernel
  by_cases h16 : l = [101, 118, 101, 110, 116, 115]
  · subst h16; decide +kernel
  have n0 : ¬ [115, 101, 101, 100, 115] = l := fun h => h0 h.symm
  have n1 : ¬ [119, 97, 116, 99, 104] = l := fun h => h1 h.symm
  have n2 : ¬ [109, 105, 110] = l := fun h => h2 h.symm
  have n3 : ¬ [109, 97, 120] = l := fun h => h3 h.symm
  have n4 : ¬ [119, 105, 110, 100, 111, 119] = l := fun h => h4 h.symm
  have n5 : ¬ [114, 101, 116, 114, 121] = l := fun h => h5 h.symm
  have n6 : ¬ [115, 116, 97, 98, 108, 101] = l := fun h => h6 h.symm
  have n7 : ¬ [117, 110, 115, 116, 97, 98, 108, 101] = l := fun h => h7 h.symm
  have n8 : ¬ [115, 116, 114, 97, 116, 101, 103, 121] = l := fun h => h8 h.symm
  have n9 : ¬ [113, 117, 111, 114, 117, 109] = l := fun h => h9 h.symm
  have n10 : ¬ [97, 108, 111, 110, 101] = l := fun h => h10 h.symm
  have n11 : ¬ [119, 101, 97, 107] = l := fun h => h11 h.symm
  have n12 : ¬ [100, 101, 108, 97, 121] = l := fun h => h12 h.symm
  have n13 : ¬ [116, 101, 114, 109] = l := fun h => h13 h.symm
  have n14 : ¬ [104, 111, 108, 100] = l := fun h => h14 h.symm
  have n15 : ¬ [113, 117, 101, 117, 101] = l := fun h => h15 h.symm
  have n16 : ¬ [101, 118, 101, 110, 116, 115] = l := fun h => h16 h.symm
  have e : keyN l = 17 := List.idxOf_eq_length (by unfold KN; simp [h0, h1, h2, h3, h4, h5, h6, h7, h8, h9, h10, h11, h12, h13, h14, h15, h16])
  rw [if_pos e]
  have r17 : List.range 17 = [0, 1, 2, 3, 4, 5, 6, 7, 8, 9, 10, 11, 12, 13, 14, 15, 16] := by decide
  rw [r17]
  simp [Lib.idxBy, Lib.idxByFrom, KN, n0, n1, n2, n3, n4, n5, n6, n7, n8, n9, n10, n11, n12, n13, n14, n15, n16]
set_option maxHeartbeats 1000000 in
theorem name_any (bx : Nat → Nat) (i : Nat) (Bn : Nat) (l : Bs) (w : World) (hB : Blk w Bn 9 #[.string (bs l)]) :
    Calls Tryz.prog 26 #[.agg (keyC bx i).toArray, .pointer (some ⟨Bn, 0, none⟩)] w fun e w' => e = .returned (.bool (decide (KN.getD i [] = l))) ∧ Keep (fun _ => False) w w' := by
  unfold keyC
  obtain ⟨s1, hs1⟩ : ∃ s1, showV bx i = s1 := ⟨_, rfl⟩
  obtain ⟨s2, hs2⟩ : ∃ s2, setV bx i = s2 := ⟨_, rfl⟩
  obtain ⟨m, hm⟩ : ∃ m, KN.getD i [] = m := ⟨_, rfl⟩
  rw [hs1, hs2, hm]
  have b0 := (hB.keep ((Keep.refl (fun _ => False) w).alloc (.cells #[.string (bs m), s1, s2] 58)) (fun h => h)).cell 0
  simp at b0
  have e0 : ∀ W : World, (W.alloc (.cells #[.string (bs m), s1, s2] 58)).cell? ⟨W.heap.size, 0, none⟩ = some (.string (bs m)) := fun W => (Blk.new W 58 #[.string (bs m), s1, s2]).cell 0
  clear hs1 hs2 hm hB
  go_enter Tryz.func26, Tryz.ntmps26
  go_wp2
  go_ret
  refine ⟨?_, (Keep.refl _ w).alloc _⟩
  congr 2
  by_cases h : m = l <;> simp [h]
theorem keyC_len (bx : Nat → Nat) (i : Nat) : (keyC bx i).length = 3 := rfl
theorem KeysAt.cell {w : World} {K : Nat} {bx : Nat → Nat} (h : KeysAt w K bx) {i : Nat} (hi : i < 17) : w.cell? ⟨K, i * 3, none⟩ = some (.string (bs (KN.getD i []))) ∧ w.cell? ⟨K, i * 3 + 1, none⟩ = some (showV bx i) ∧ w.cell? ⟨K, i * 3 + 2, none⟩ = some (setV bx i) := by
  have get : ∀ j, j < 3 → w.cell? ⟨K, i * 3 + j, none⟩ = (keyC bx i)[j]? := fun j hj => by
    rw [h.row.cell, List.getElem?_toArray, flat_get (keyC bx) 3 (keyC_len bx) (List.range 17) i j (by simpa using hi) hj]
    simp
  exact ⟨get 0 (by omega), get 1 (by omega), get 2 (by omega)⟩
theorem key_agg (W : World) : (isAgg 58).run Tryz.prog W = .ok true W := Tryz.isAgg58 W
theorem indexKey_any (K : Nat) (bx : Nat → Nat) (Bn : Nat) (l : Bs) (w : World) (hK : KeysAt w K bx) (hB : Blk w Bn 9 #[.string (bs l)]) :
    Calls Tryz.prog 25 #[.slice (some ⟨K, 0, none⟩) 17 17, .func (.func 26) #[] #[.pointer (some ⟨Bn, 0, none⟩)]] w (Tell (.int .i64 (if keyN l = 17 then -1 else (keyN l : Int))) w) := by
  refine (AnyQ.slices_IndexFunc Tryz.lIdxF 3 (fun W => Tryz.isAgg58 W) (fun W => Tryz.sizeOf58 W) (keyC bx) (keyC_len bx) (fun y => decide (KN.getD y [] = l)) 26 #[.pointer (some ⟨Bn, 0, none⟩)] (enters_of Tryz.func26 (by kernel_rfl) rfl) K 0 17 17 (List.range 17) w (fun W x hb => ?_) (by simp) (by decide) hK.row.lt (fun j hj i v hv => ?_)).mono ?_
  · exact (name_any bx x Bn l W (hB.keep (keep0_of_below hb) (fun h => h))).mono fun e w' ⟨he, hk⟩ => ⟨he, hb.trans (hk.b.mono hb.size)⟩
  · have hj17 : j < 17 := by simpa using hj
    have e : (List.range 17)[j]! = j := by simp [hj17]
    rw [e] at hv
    have hi : i < 3 := by
      rcases Nat.lt_or_ge i 3 with h | h
      · exact h
      · rw [List.getElem?_eq_none (by rw [keyC_len]; exact h)] at hv; cases hv
    rw [Nat.zero_add, hK.row.cell, List.getElem?_toArray, flat_get (keyC bx) 3 (keyC_len bx) (List.range 17) j i (by simpa using hj17) hi]
    simpa using hv
  · rintro e w' ⟨rfl, hk⟩
    rw [show (List.range 17).take 17 = List.range 17 from rfl, key_idx]
    exact ⟨rfl, keep0_of_below hk⟩
/-- the function of key i's set, and what it has captured -/
theorem set_any (bx : Nat → Nat) (i : Nat) (hi : i < 17) : ∃ (g : Nat) (lb : Array Value), setV bx i = .func (.func g) #[] lb ∧ (∀ (args : Array Value) (w : World), (callFunc g args).run Tryz.prog w = .ok (.enter g args) w) ∧
    ∀ (K b : Nat) (row : Option Nat) (c : Cfg) (l : Bs) (w : World), Env w → l.length ≤ 40000000 → c.seeds.length ≤ 400000000 → KeysAt w K bx → OC w b row c →
      Calls Tryz.prog g (#[.pointer (some ⟨b, 0, none⟩), .string (bs l)] ++ lb) w (SetPost i b row c l w) := by
  by_cases h0 : i = 0
  · subst h0
    exact ⟨_, _, rfl, enters_of Tryz.func42 (by kernel_rfl) rfl, fun K b row c l w hE hl hc _ h => setSeeds_any b row c l w hE hl hc h⟩
  by_cases h8 : i = 8
  · subst h8
    exact ⟨_, _, rfl, enters_of Tryz.func52 (by kernel_rfl) rfl, fun K b row c l w hE _ _ _ h => setStrategy_any b row c l w hE h⟩
  by_cases hf : isFlag i
  · have e : setV bx i = .func (.func 84) #[] #[.pointer (some ⟨bx i, 0, none⟩)] := by
      unfold setV isFlag at *
      rw [if_neg h0, if_neg h8, if_pos hf]
    refine ⟨_, _, e, enters_of Tryz.func84 (by kernel_rfl) rfl, fun K b row c l w _ _ _ hK h => ?_⟩
    have hb := hK.box i (.inr hf)
    rw [if_pos (show i = 10 ∨ i = 11 from hf)] at hb
    exact setFlag_any i hf (bx i) b row c l w hb h
  · have hn : isNum i := by unfold isNum isFlag at *; omega
    have hff : ¬ (i = 10 ∨ i = 11) := hf
    have e : setV bx i = .func (.func 81) #[] #[.pointer (some ⟨bx i, 0, none⟩)] := by
      unfold setV
      rw [if_neg h0, if_neg h8, if_neg hff]
    refine ⟨_, _, e, enters_of Tryz.func81 (by kernel_rfl) rfl, fun K b row c l w hE hl _ hK h => ?_⟩
    have hb := hK.box i (.inl hn)
    rw [if_neg hff] at hb
    exact setNum_any i hn (bx i) b row c l w hE hl hb h
end Go.Proofs.YtjgkalcldekmpaaGreatDoor
