/-
  slices.Compact at IDs: the plain parts: what it leaves (dk), how a list lies in a block (Lies), clear.
-/
import Derived.Test.YtlfpefnlgiohbaaGreatID
namespace Go.Proofs.YtlfpefnlgiohbaaGreat
set_option maxRecDepth 100000
open Go.RowKit

/-- of the first m elements each that is not as the one ahead of it -/
def dk (l : List ID) : Nat → List ID
  | 0 => []
  | m + 1 => if 1 ≤ m ∧ l.getD m (0, 0) = l.getD (m - 1) (0, 0) then dk l m else dk l m ++ [l.getD m (0, 0)]
theorem dk_len (l : List ID) : ∀ m, (dk l m).length ≤ m
  | 0 => by simp [dk]
  | m + 1 => by
    have := dk_len l m
    unfold dk
    split
    · omega
    · simp; omega
theorem dk_one (l : List ID) : dk l 1 = [l.getD 0 (0, 0)] := by simp [dk]
theorem dk_same {l : List ID} {m : Nat} (h : 1 ≤ m) (he : l.getD m (0, 0) = l.getD (m - 1) (0, 0)) : dk l (m + 1) = dk l m := by
  rw [dk, if_pos ⟨h, he⟩]
theorem dk_next {l : List ID} {m : Nat} (he : l.getD m (0, 0) ≠ l.getD (m - 1) (0, 0)) : dk l (m + 1) = dk l m ++ [l.getD m (0, 0)] := by
  rw [dk, if_neg (fun h => he h.2)]

/-- the cells of a block from off on hold these elements -/
def Lies (cs : Array Value) (off : Nat) (f : Nat → ID) (lo hi : Nat) : Prop :=
  ∀ i, lo ≤ i → i < hi → cs[off + i * 2]? = some (.int .i64 (f i).1) ∧ cs[off + i * 2 + 1]? = some (.int .i64 (f i).2)
theorem Lies.mono {cs : Array Value} {off : Nat} {f : Nat → ID} {lo hi lo' hi' : Nat} (h : Lies cs off f lo hi) (h1 : lo ≤ lo') (h2 : hi' ≤ hi) : Lies cs off f lo' hi' :=
  fun i hi1 hi2 => h i (by omega) (by omega)
theorem Lies.far {cs : Array Value} {off : Nat} {f : Nat → ID} {lo hi k : Nat} (h : Lies cs off f lo hi) (hk : k < lo ∨ hi ≤ k) (u v : Value) :
    Lies ((cs.setIfInBounds (off + k * 2) u).setIfInBounds (off + k * 2 + 1) v) off f lo hi := fun i h1 h2 => by
  have := h i h1 h2
  rw [Array.getElem?_setIfInBounds_ne (by omega), Array.getElem?_setIfInBounds_ne (by omega), Array.getElem?_setIfInBounds_ne (by omega), Array.getElem?_setIfInBounds_ne (by omega)]
  exact this
theorem Lies.put {cs : Array Value} {off : Nat} {f g : Nat → ID} {k : Nat} (h : Lies cs off f 0 k) (hs : off + k * 2 + 1 < cs.size) (hg : ∀ i, i < k → g i = f i) :
    Lies ((cs.setIfInBounds (off + k * 2) (.int .i64 (g k).1)).setIfInBounds (off + k * 2 + 1) (.int .i64 (g k).2)) off g 0 (k + 1) := fun i h1 h2 => by
  by_cases e : i = k
  · subst e
    constructor
    · rw [Array.getElem?_setIfInBounds_ne (by omega), Array.getElem?_setIfInBounds_self_of_lt (by omega)]
    · rw [Array.getElem?_setIfInBounds_self_of_lt (by simp; omega)]
  · have := h.far (k := k) (.inr (Nat.le_refl _)) (.int .i64 (g k).1) (.int .i64 (g k).2) i h1 (by omega)
    rw [hg i (by omega)]
    exact this
theorem Lies.ext {cs : Array Value} {off : Nat} {f g : Nat → ID} {lo hi : Nat} (h : Lies cs off f lo hi) (hg : ∀ i, lo ≤ i → i < hi → g i = f i) : Lies cs off g lo hi := fun i h1 h2 => by
  rw [hg i h1 h2]; exact h i h1 h2
theorem SlK.lies {w : World} {t : TypeId} {row : Option Nat} {A : Option Addr} {n c : Nat} {l : List ID} (h : SlK w t 2 row A n c (l.flatMap cID)) (h0 : 0 < n) :
    l.length = n ∧ ∃ g off cs, row = some g ∧ A = some ⟨g, off, none⟩ ∧ Blk w g t cs ∧ off + c * 2 ≤ cs.size ∧ Lies cs off (fun i => l.getD i (0, 0)) 0 n := by
  have hl : l.length = n := by have := h.1; rw [flat_len cID 2 (fun _ => rfl)] at this; omega
  have hnc := h.2.1
  rcases h.2.2.2 with ⟨_, _, h1⟩ | ⟨g, off, cs, h1, h2, h3, h4, h5⟩
  · omega
  · refine ⟨hl, g, off, cs, h1, h2, h3, h4, fun i _ hi => ?_⟩
    have hi' : i < l.length := by omega
    have e : l.getD i (0, 0) = l[i] := by simp [List.getD, hi']
    have f0 := flat_get cID 2 (fun _ => rfl) l i 0 hi' (by omega)
    have f1 := flat_get cID 2 (fun _ => rfl) l i 1 hi' (by omega)
    simp only [e]
    constructor
    · rw [h5 _ (by omega)]; simpa using f0
    · rw [Nat.add_assoc, h5 _ (by omega)]; simpa using f1
theorem SlK.of_lies {w : World} {t : TypeId} {g off n c : Nat} {cs : Array Value} {l : List ID} (hl : l.length = n) (hn : n ≤ c) (hc : c ≤ maxLen) (hb : Blk w g t cs) (hs : off + c * 2 ≤ cs.size) (h : Lies cs off (fun i => l.getD i (0, 0)) 0 n) :
    SlK w t 2 (some g) (some ⟨g, off, none⟩) n c (l.flatMap cID) := by
  refine ⟨by rw [flat_len cID 2 (fun _ => rfl), hl], hn, hc, .inr ⟨g, off, cs, rfl, rfl, hb, hs, fun j hj => ?_⟩⟩
  have hi : j / 2 < l.length := by omega
  have := h (j / 2) (by omega) (by omega)
  have e : l.getD (j / 2) (0, 0) = l[j / 2] := by simp [List.getD, hi]
  simp only [e] at this
  have hf := flat_get cID 2 (fun _ => rfl) l (j / 2) (j % 2) hi (by omega)
  rw [show j / 2 * 2 + j % 2 = j by omega] at hf
  rw [hf]
  rcases (by omega : j % 2 = 0 ∨ j % 2 = 1) with h0 | h0
  · rw [h0, show off + j = off + j / 2 * 2 by omega, this.1]; rfl
  · rw [h0, show off + j = off + j / 2 * 2 + 1 by omega, this.2]; rfl

theorem run_clear_ID (w : World) (t e ty : TypeId) (z : Value) {P : Program} (ht : P.underlying t = some (.slice e)) (hv : ∀ w, (zeroValue e).run P w = .ok z w) (h1 : ∀ v ∈ z.cells, v.oneCell' = true) (hz : 0 < z.cells.size) {g : Nat} {e' : TypeId} {cs : Array Value} (hb : Blk w g e' cs) (o n c : Nat) (hn : 0 < n) (hs : o + n * z.cells.size ≤ cs.size) :
    (Builtin.clear_ #[t] ty #[.slice (some ⟨g, o, none⟩) n c]).run P w = .ok (.tuple #[]) (w.setCells g o (Builtin.zeroCells z.cells n).toList) := by
  have hlen : (Builtin.zeroCells z.cells n).toList.length = n * z.cells.size := by simp [Builtin.zeroCells]
  have hst := run_storeCells_cells (P := P) g o (Builtin.zeroCells z.cells n).toList 0 w
    (fun j hj => by rw [hlen] at hj; rw [Nat.add_zero, hb.cell]; simp; omega) (fun j _ => by rw [hb.frozen])
    (fun v hv' => by
      simp only [Builtin.zeroCells, Array.toList_map, List.mem_map] at hv'
      obtain ⟨i, _, rfl⟩ := hv'
      refine h1 _ ?_
      have : i % z.cells.size < z.cells.size := Nat.mod_lt _ hz
      rw [getElem!_pos z.cells _ this]
      exact Array.getElem_mem this)
  simp only [Nat.add_zero] at hst
  obtain ⟨m, rfl⟩ : ∃ m, n = m + 1 := ⟨n - 1, by omega⟩
  simp [Builtin.clear_, run_underlying ht, hv, hst]
end Go.Proofs.YtlfpefnlgiohbaaGreat
