/-
  Configurations, plain: the fields, and what a key sets.
-/
import Derived.Test.YtjgkalcldekmpaaGreatDoorCfgP
import Derived.Test.YtjgkalcldekmpaaGreatDoorCfgC
namespace Go.Proofs.YtjgkalcldekmpaaGreatDoor
open Go.RowKit Go
set_option maxRecDepth 100000

/-- a configuration: field 0 is seeds, the others are numbers (strategy: 8; alone: 10; weak: 11) -/
structure Cfg where
  seeds : List Int
  v : Nat → Int
def cV (k : Nat) (x : Int) : Value := if k = 8 then .int .u8 x else if k = 10 ∨ k = 11 then .bool (decide (x ≠ 0)) else .int .i64 x
def cfgC (s : Value) (v : Nat → Int) (k : Nat) : Value := if k = 0 then s else cV k (v k)
def cfgA (s : Value) (v : Nat → Int) : Array Value := ((List.range 17).map (cfgC s v)).toArray
def upd (v : Nat → Int) (i : Nat) (x : Int) : Nat → Int := fun k => if k = i then x else v k
def zeroCfg : Cfg := ⟨[], fun _ => 0⟩
theorem cfgA_get (s : Value) (v : Nat → Int) {i : Nat} (hi : i < 17) : (cfgA s v)[i]? = some (cfgC s v i) := by
  unfold cfgA
  rw [List.getElem?_toArray, List.getElem?_map, List.getElem?_range hi]; rfl
theorem cfgA_size (s : Value) (v : Nat → Int) : (cfgA s v).size = 17 := by simp [cfgA]
theorem cfgA_set (s : Value) (v : Nat → Int) {i : Nat} (_ : i < 17) (h0 : i ≠ 0) (x : Int) : (cfgA s v).setIfInBounds i (cV i x) = cfgA s (upd v i x) := by
  apply Array.ext_getElem?
  intro k
  rw [Array.getElem?_setIfInBounds]
  by_cases hk : k < 17
  · rw [cfgA_get s _ hk, cfgA_get s _ hk, cfgA_size]
    by_cases e : i = k
    · subst e; rw [if_pos rfl, if_pos hk]; simp [cfgC, h0, upd]
    · have e2 : ¬ k = i := fun h => e h.symm
      rw [if_neg e]; simp [cfgC, upd, e2]
  · rw [if_neg (by omega), Array.getElem?_eq_none (by rw [cfgA_size]; omega), Array.getElem?_eq_none (by rw [cfgA_size]; omega)]
theorem cfgA_set0 (s s' : Value) (v : Nat → Int) : (cfgA s v).setIfInBounds 0 s' = cfgA s' v := by
  apply Array.ext_getElem?
  intro k
  rw [Array.getElem?_setIfInBounds]
  by_cases hk : k < 17
  · rw [cfgA_get s _ hk, cfgA_get s' _ hk, cfgA_size]
    by_cases e : 0 = k
    · subst e; rw [if_pos rfl, if_pos hk]; rfl
    · have e2 : ¬ k = 0 := fun h => e h.symm
      rw [if_neg e]; simp [cfgC, e2]
  · rw [if_neg (by omega), Array.getElem?_eq_none (by rw [cfgA_size]; omega), Array.getElem?_eq_none (by rw [cfgA_size]; omega)]
theorem cfgA_explicit (s : Value) (v : Nat → Int) : cfgA s v = #[s, .int .i64 (v 1), .int .i64 (v 2), .int .i64 (v 3), .int .i64 (v 4), .int .i64 (v 5), .int .i64 (v 6), .int .i64 (v 7), .int .u8 (v 8), .int .i64 (v 9), .bool (decide (v 10 ≠ 0)), .bool (decide (v 11 ≠ 0)), .int .i64 (v 12), .int .i64 (v 13), .int .i64 (v 14), .int .i64 (v 15), .int .i64 (v 16)] := rfl
/-- the numbers that a text of seeds tells -/
def seedsM (l : Bs) : Option (List Int) := (spl 44 l).mapM (fun x => numM (trimM x))
def yesB : Bs := [121, 101, 115]
def noB : Bs := [110, 111]
/-- what key i makes of a value -/
def setM (i : Nat) (c : Cfg) (l : Bs) : Option Cfg :=
  if i = 0 then (seedsM l).map fun s => ⟨c.seeds ++ s, c.v⟩
  else if i = 8 then (if l ∈ NMS.tail then some ⟨c.seeds, upd c.v 8 (NMS.idxOf l)⟩ else none)
  else if i = 10 ∨ i = 11 then (if l = yesB then some ⟨c.seeds, upd c.v i 1⟩ else if l = noB then some ⟨c.seeds, upd c.v i 0⟩ else none)
  else (numM l).map fun n => ⟨c.seeds, upd c.v i n⟩
/-- a configuration in memory: in block b, its seeds in row -/
def OC (w : World) (b : Nat) (row : Option Nat) (c : Cfg) : Prop :=
  ∃ A cap, Blk w b 25 (cfgA (.slice A c.seeds.length cap) c.v) ∧ SlK w 3 1 row A c.seeds.length cap (c.seeds.map (Value.int .i64)) ∧ 9 ≤ b ∧ ∀ g, row = some g → 9 ≤ g
theorem OC.keep {w w' : World} {b : Nat} {row : Option Nat} {c : Cfg} {S : Nat → Prop} (h : OC w b row c) (hk : Keep S w w') (hb : ¬ S b) (hr : ∀ g, row = some g → ¬ S g) : OC w' b row c := by
  obtain ⟨A, cap, h1, h2, h3⟩ := h
  exact ⟨A, cap, h1.keep hk hb, h2.keep hk hr, h3⟩
theorem OC.keep0 {w w' : World} {b : Nat} {row : Option Nat} {c : Cfg} (h : OC w b row c) (hk : Keep (fun _ => False) w w') : OC w' b row c := h.keep hk (fun h => h) (fun _ _ h => h)
theorem OC.nine {w : World} {b : Nat} {row : Option Nat} {c : Cfg} (h : OC w b row c) : ∀ g, g < 9 → ¬ (g = b ∨ row = some g) := by
  obtain ⟨A, cap, _, _, h1, h2⟩ := h
  rintro g hg (e | e)
  · omega
  · have := h2 g e; omega
/-- behind a key's set -/
def SetPost (i : Nat) (b : Nat) (row : Option Nat) (c : Cfg) (l : Bs) (w : World) (e : Ending) (w' : World) : Prop :=
  e = .returned (.bool (setM i c l).isSome) ∧ (∀ c', setM i c l = some c' → ∃ row', OC w' b row' c' ∧ (row' = row ∨ (i = 0 ∧ ∀ g, row' = some g → w.heap.size ≤ g))) ∧
    (∃ cs, Blk w' b 25 cs ∧ cs.size = 17) ∧ Keep (fun g => g = b ∨ (i = 0 ∧ row = some g)) w w'
theorem setM_num {i : Nat} (h : isNum i) (c : Cfg) (l : Bs) : setM i c l = (numM l).map fun n => ⟨c.seeds, upd c.v i n⟩ := by
  obtain ⟨_, h0, h8, h10, h11⟩ := h
  unfold setM
  rw [if_neg h0, if_neg h8, if_neg (by omega)]
theorem setM_flag {i : Nat} (h : isFlag i) (c : Cfg) (l : Bs) : setM i c l = if l = yesB then some ⟨c.seeds, upd c.v i 1⟩ else if l = noB then some ⟨c.seeds, upd c.v i 0⟩ else none := by
  unfold isFlag at h
  unfold setM
  rw [if_neg (by omega), if_neg (by omega), if_pos h]
theorem cV_num {i : Nat} (h : isNum i) (x : Int) : cV i x = .int .i64 x := by
  obtain ⟨_, h0, h8, h10, h11⟩ := h
  unfold cV
  rw [if_neg h8, if_neg (by omega)]
theorem cV_flag {i : Nat} (h : isFlag i) (x : Int) : cV i x = .bool (decide (x ≠ 0)) := by
  unfold isFlag at h
  unfold cV
  rw [if_neg (by omega), if_pos h]
theorem isFlag.lt {i : Nat} (h : isFlag i) : i < 17 ∧ i ≠ 0 := by unfold isFlag at h; omega
/-- a store into field i -/
theorem OC.store {w : World} {b : Nat} {row : Option Nat} {c : Cfg} (h : OC w b row c) {i : Nat} (hi : i < 17) (h0 : i ≠ 0) :
    (∃ v, w.cell? ⟨b, i, none⟩ = some v) ∧ w.frozen? ⟨b, i, none⟩ = false ∧ ∀ x, OC (w.setCell ⟨b, i, none⟩ (cV i x)) b row ⟨c.seeds, upd c.v i x⟩ ∧ Keep (fun g => g = b) w (w.setCell ⟨b, i, none⟩ (cV i x)) := by
  obtain ⟨A, cap, hb, hs, h9⟩ := h
  refine ⟨⟨_, by rw [hb.cell i, cfgA_get _ _ hi]⟩, hb.frozen i, fun x => ⟨⟨A, cap, ?_, hs.keep ((Keep.refl (fun g => g = b) w).setCell (fun _ => rfl) _) (fun g hg e => ?_), h9⟩, (Keep.refl (fun g => g = b) w).setCell (fun _ => rfl) _⟩⟩
  · rw [← cfgA_set _ _ hi h0]
    exact hb.set_ i (cV i x)
  · subst e
    exact hs.row_ne hb (by decide) hg
theorem OC.cells {w : World} {b : Nat} {row : Option Nat} {c : Cfg} (h : OC w b row c) : ∃ cs, Blk w b 25 cs ∧ cs.size = 17 := by
  obtain ⟨A, cap, hb, _⟩ := h
  exact ⟨_, hb, cfgA_size _ _⟩
end Go.Proofs.YtjgkalcldekmpaaGreatDoor
