/-
  config: within; the library's functions on slices of numbers.
-/
import Derived.Test.YtlfpefnlgiohbaaGreatLayA
import Derived.Test.YtlfpefnlgiohbaaGreatLib
import Derived.Test.YtlfpefnlgiohbaaGreatSlK
import Derived.Test.YtlfpefnlgiohbaaGreatID
import Derived.Test.YtlfpefnlgiohbaaGreatKrip2
import Derived.IntWalk
namespace Go.Proofs.YtlfpefnlgiohbaaGreat
open Go.RowKit Go Go.Shelf
set_option maxRecDepth 100000

/-- a slice of numbers that can be read -/
abbrev RdN (w : World) (A : Option Addr) (n : Nat) (zs : List Int) : Prop := RdK w 1 A n (zs.map (Value.int .i64))
theorem RdN.len {w : World} {A : Option Addr} {n : Nat} {zs : List Int} (h : RdN w A n zs) : zs.length = n := by have := h.1; simpa using this
theorem RdN.cells {w : World} {A : Option Addr} {n : Nat} {zs : List Int} (h : RdN w A n zs) (hn : 0 < n) : ∃ g off, A = some ⟨g, off, none⟩ ∧ ∀ j, j < zs.length → w.cell? ⟨g, off + j, none⟩ = some (.int .i64 (zs.getD j 0)) := by
  have hl := RdN.len h
  obtain ⟨g, off, v, e1, _, _⟩ := h.2 0 (by omega)
  refine ⟨g, off, e1, fun j hj => ?_⟩
  obtain ⟨g', off', v', q1, q2, q3⟩ := h.2 j (by omega)
  rw [e1] at q1; injection q1 with q1; injection q1 with q4 q5; subst q4 q5
  rw [q3]
  rw [List.getElem?_map, List.getElem?_eq_getElem hj] at q2
  simp [List.getD, hj]
  simpa using q2.symm
def sortB (zs : List Int) : Bool := Lib.downOK (fun x y => decide (x < y)) zs.toArray (zs.length - 1)
def distB (zs : List Int) : Bool := decide ((Lib.compact zs).length = zs.length)
theorem sorted_any (A : Option Addr) (n c : Nat) (zs : List Int) (w : World) (h : RdN w A n zs) (hn : 0 < n) (hb : n ≤ 800000000) :
    Calls Tryz.prog 51 #[.slice A n c] w (Tell (.bool (sortB zs)) w) := by
  obtain ⟨g, off, rfl, hc⟩ := RdN.cells h hn
  have hl := RdN.len h
  have hs : zs.toArray.size = n := by simpa using hl
  have := AnyO.slices_IsSorted_int Tryz.lSorted g off c zs.toArray w (fun i hi => by
    have hi' : i < zs.length := by simpa using hi
    rw [hc i hi']; simp [List.getD, hi']) (by omega)
  rw [hs] at this
  refine this.mono ?_
  rintro e w' ⟨rfl, q, rfl⟩
  exact ⟨by unfold sortB; rw [hl], (Keep.refl _ _).drewN q⟩
theorem clone_any (A : Option Addr) (n c : Nat) (zs : List Int) (w : World) (h : RdN w A n zs) (hn : 0 < n) (hb : n ≤ 800000000) :
    Calls Tryz.prog 53 #[.slice A n c] w fun e w' => ∃ row A' c', e = .returned (.slice A' n c') ∧ SlK w' 3 1 row A' n c' (zs.map (Value.int .i64)) ∧ (∀ g, row = some g → w.heap.size ≤ g) ∧ Keep (fun _ => False) w w' := by
  obtain ⟨g, off, rfl, hc⟩ := RdN.cells h hn
  have hl := RdN.len h
  refine (Any.slices_Clone_int Tryz.lClone g off n c zs w (by omega) (by omega) hc).mono ?_
  rintro e w' ⟨v', rfl, ho, _, hk⟩
  rw [List.take_of_length_le (by omega)] at ho
  obtain ⟨row, A', c', rfl, hs, hr⟩ := SlK.of_own ho
  exact ⟨row, A', c', rfl, hs, hr, keep0_of_below hk⟩
theorem compact_any (row : Option Nat) (A : Option Addr) (n c : Nat) (zs : List Int) (w : World) (h : SlK w 3 1 row A n c (zs.map (Value.int .i64))) (hn : 0 < n) (hb : n ≤ 800000000) :
    Calls Tryz.prog 52 #[.slice A n c] w fun e w' => (∃ A', e = .returned (.slice A' (Lib.compact zs).length c)) ∧ Keep (fun g => row = some g) w w' := by
  have hr : RdN w A n zs := h.rd
  have hl := RdN.len hr
  obtain ⟨g, off, hA, hc⟩ := RdN.cells hr hn
  obtain ⟨h1, h2, h3, h4⟩ := h
  rcases h4 with ⟨_, e, _⟩ | ⟨g', off', cur, hrow, hA', hblk, _, _⟩
  · rw [hA] at e; cases e
  · rw [hA] at hA'; injection hA' with hA'; injection hA' with q1 q2; subst q1 q2 hA
    refine (Any.slices_Compact_int_cells Tryz.lCompact g off n c zs w (by omega) (by omega) h2 hc (fun j _ => hblk.frozen _)).mono ?_
    rintro e w' ⟨rfl, q, rfl⟩
    rw [List.take_of_length_le (by omega)]
    exact ⟨⟨_, rfl⟩, ((Keep.refl _ w).drewN q).setCells (fun _ => hrow) _ _⟩
def inB (lo hi : Int) (zs : List Int) : Bool := zs.all fun z => decide (lo ≤ z ∧ z ≤ hi)
theorem min_ge (lo : Int) : ∀ (zs : List Int) (a : Int), (lo ≤ zs.foldl min a) ↔ (lo ≤ a ∧ ∀ z ∈ zs, lo ≤ z)
  | [], a => by simp
  | z :: zs, a => by
    rw [List.foldl_cons, min_ge lo zs (min a z)]
    simp only [List.mem_cons, forall_eq_or_imp]
    have : lo ≤ min a z ↔ lo ≤ a ∧ lo ≤ z := by omega
    rw [this]
    exact ⟨fun h => ⟨h.1.1, h.1.2, h.2⟩, fun h => ⟨⟨h.1, h.2.1⟩, h.2.2⟩⟩
theorem max_le (hi : Int) : ∀ (zs : List Int) (a : Int), (zs.foldl max a ≤ hi) ↔ (a ≤ hi ∧ ∀ z ∈ zs, z ≤ hi)
  | [], a => by simp
  | z :: zs, a => by
    rw [List.foldl_cons, max_le hi zs (max a z)]
    simp only [List.mem_cons, forall_eq_or_imp]
    have : max a z ≤ hi ↔ a ≤ hi ∧ z ≤ hi := by omega
    rw [this]
    exact ⟨fun h => ⟨h.1.1, h.1.2, h.2⟩, fun h => ⟨⟨h.1, h.2.1⟩, h.2.2⟩⟩
theorem in_eq (lo hi : Int) {zs : List Int} (h : zs ≠ []) : inB lo hi zs = (decide (lo ≤ Lib.minOf zs) && decide (Lib.maxOf zs ≤ hi)) := by
  cases zs with
  | nil => exact absurd rfl h
  | cons z r =>
    rw [Bool.eq_iff_iff]
    unfold inB Lib.minOf Lib.maxOf
    rw [List.all_eq_true, Bool.and_eq_true, decide_eq_true_eq, decide_eq_true_eq, min_ge, max_le]
    simp only [List.headD_cons, List.mem_cons, forall_eq_or_imp, decide_eq_true_eq]
    constructor
    · rintro ⟨h1, h2⟩; exact ⟨⟨h1.1, h1.1, fun x hx => (h2 x hx).1⟩, h1.2, h1.2, fun x hx => (h2 x hx).2⟩
    · rintro ⟨⟨_, a2, a3⟩, _, b2, b3⟩; exact ⟨⟨a2, b2⟩, fun x hx => ⟨a3 x hx, b3 x hx⟩⟩
set_option maxHeartbeats 1000000 in
theorem within_any (lo hi : Int) (A : Option Addr) (n c : Nat) (zs : List Int) (w : World) (h : RdN w A n zs) (hn : 0 < n) (hb : n ≤ 800000000) :
    Calls Tryz.prog 54 #[.int .i64 lo, .int .i64 hi, .slice A n c] w (Tell (.bool (inB lo hi zs)) w) := by
  obtain ⟨g, off, rfl, hc⟩ := RdN.cells h hn
  have hl := RdN.len h
  have HC := Lib.hid hc
  have he := in_eq lo hi (zs := zs) (fun e => by rw [e] at hl; simp at hl; omega)
  have HE := Lib.hid he
  have ht : zs.take n = zs := List.take_of_length_le (by omega)
  clear hc h he
  go_enter Tryz.func54, Tryz.ntmps54
  go_wp2_with fail
  refine (Any.slices_Min_int Tryz.lMin g off n c zs w hn (by omega) (by omega) HC.out).mono ?_
  rintro e w' ⟨rfl, rfl⟩
  rw [ht]
  obtain ⟨mn, hmn⟩ : ∃ x, Lib.minOf zs = x := ⟨_, rfl⟩
  have HMn := Lib.hid hmn
  rw [hmn]
  clear hmn
  by_cases h1 : lo ≤ mn
  · have d1 : decide (mn ≥ lo) = true := decide_eq_true h1
    go_wp2_with fail
    refine (Any.slices_Max_int Tryz.lMax g off n c zs w' hn (by omega) (by omega) HC.out).mono ?_
    rintro e w2 ⟨rfl, rfl⟩
    rw [ht]
    obtain ⟨mx, hmx⟩ : ∃ x, Lib.maxOf zs = x := ⟨_, rfl⟩
    have HMx := Lib.hid hmx
    rw [hmx]
    clear hmx
    go_wp2
    go_ret
    refine ⟨?_, Keep.refl _ _⟩
    rw [HE.out, HMn.out, HMx.out, decide_eq_true h1, Bool.true_and]
    rfl
  · go_wp2
    go_ret
    refine ⟨?_, Keep.refl _ _⟩
    rw [HE.out, HMn.out, decide_eq_false (by omega : ¬ lo ≤ mn), Bool.false_and]
    rfl
end Go.Proofs.YtlfpefnlgiohbaaGreat
