/-
  slices.SortFunc at IDs, by ident.Compare.
-/
import Derived.Test.YtenphdgnaknbeaaCmpD
import Derived.Test.YtenphdgnaknbeaaSortL
namespace Go.Proofs.Ytenphdgnaknbeaa
open Go.RowKit Go.Sort Go.Lib Go.Shelf

theorem ltOf_ID : ltOf cmpID = ltID := by funext x y; exact cmpID_lt x y
theorem swo_ID : SWO (ltOf cmpID) := by
  rw [ltOf_ID]
  refine ⟨lt_irr, fun x y z h k => lt_trans h k, fun x y z h k => ?_⟩
  simp only [ltID, decide_eq_false_iff_not] at *
  omega
theorem tot_ID (x y : ID) (h1 : ltOf cmpID x y = false) (h2 : ltOf cmpID y x = false) : x = y := by rw [ltOf_ID] at h1 h2; exact eq_of_nlt h1 h2
theorem cmp_lays (blk off size : Nat) (w : World) : CmpLays Try.prog 56 #[] cID 2 cmpID blk off size w :=
  fun _ _ _ _ x y => (cmpID_kd x y _).mono fun _ _ ⟨he, hk⟩ => ⟨he, hk.grows⟩
theorem blk_grow {w : World} {g : Nat} {t : TypeId} {cs : Array Value} (h : Blk w g t cs) (os : Array Obj) : Blk (grow w os) g t cs := by
  have := h.lt
  unfold Blk grow at *
  rw [Array.getElem?_append_left this]; exact h
theorem blk_put {w : World} {g : Nat} {t : TypeId} {cs : Array Value} (h : Blk w g t cs) (f : Array Value → Array Value) : Blk (mapBlock w g f) g t (f cs) := by
  unfold Blk mapBlock at *
  simp [Array.getElem?_modify, h, onCells]
theorem blk_sorted {w : World} {g : Nat} {t : TypeId} {cs : Array Value} (h : Blk w g t cs) (off q : Nat) (d : Array ID) (os : Array Obj) :
    Blk (sortWorldK cID 2 w g off q d os) g t (putCells id off (flatK cID 2 d) cs) := by
  unfold sortWorldK putRowK putRow
  exact blk_grow (blk_put (w := Sort.ahead w q) h _) _
theorem keep_sorted {w : World} {g off q : Nat} (d : Array ID) (os : Array Obj) : Keep (fun k => some g = some k) w (sortWorldK cID 2 w g off q d os) := by
  refine ⟨rfl, rfl, rfl, ?_, fun k hk hn => ?_⟩
  · unfold sortWorldK; rw [size_grow]; show _ ≤ (putRow id (Sort.ahead w q) g off _).heap.size + _; rw [Go.Sort.size_putRow]; exact Nat.le_add_right _ _
  · have hne : g ≠ k := fun e => hn (by rw [e])
    unfold sortWorldK putRowK putRow grow mapBlock Sort.ahead
    simp only
    rw [Array.getElem?_append_left (by simpa using hk), Array.getElem?_modify, if_neg hne]
theorem holds_of_lies {w : World} {g off n : Nat} {t : TypeId} {cs : Array Value} {l : List ID} (hb : Blk w g t cs) (hl : l.length = n) (h : Lies cs off (fun i => l.getD i (0, 0)) 0 n) :
    HoldsK cID 2 w g off l.toArray := by
  intro j hj
  rw [size_flatK] at hj
  have hj2 : j < l.length * 2 := by simpa using hj
  have hi : j / 2 < l.length := by omega
  refine ⟨?_, hb.frozen _⟩
  rw [get_flatK _ _ _ _ hj, hb.cell]
  have := h (j / 2) (by omega) (by omega)
  have e : l.getD (j / 2) (0, 0) = l[j / 2] := by simp [List.getD, hi]
  have e2 : l.toArray[j / 2]! = l[j / 2] := by simp [hi]
  rw [e2]
  simp only [e] at this
  rcases (by omega : j % 2 = 0 ∨ j % 2 = 1) with h0 | h0
  · rw [h0, show off + j = off + j / 2 * 2 by omega, this.1]; rfl
  · rw [h0, show off + j = off + j / 2 * 2 + 1 by omega, this.2]; rfl
theorem lies_of_holds {w : World} {g off n : Nat} {t : TypeId} {cs : Array Value} {l : List ID} (hb : Blk w g t cs) (hl : l.length = n) (h : HoldsK cID 2 w g off l.toArray) :
    Lies cs off (fun i => l.getD i (0, 0)) 0 n := by
  intro i _ hi
  have hi' : i < l.length := by omega
  have e : l.getD i (0, 0) = l[i] := by simp [List.getD, hi']
  have e2 : l.toArray[i]! = l[i] := by simp [hi']
  have c0 := (HoldsK.cell h (i := i) (c := 0) (by simpa using hi') (by omega)).1
  have c1 := (HoldsK.cell h (i := i) (c := 1) (by simpa using hi') (by omega)).1
  rw [e2, hb.cell] at c0 c1
  simp only [e]
  exact ⟨c0, c1⟩
/-- what SortFunc leaves: in the same block -/
def Srt (row : Option Nat) (A : Option Addr) (n c : Nat) (l : List ID) (w : World) (e : Ending) (w' : World) : Prop :=
  e = .returned (.tuple #[]) ∧ SlK w' 33 2 row A n c ((sortM l).flatMap cID) ∧ Keep (fun g => row = some g) w w'
theorem sort_any (row : Option Nat) (A : Option Addr) (n c : Nat) (l : List ID) (w : World) (h : SlK w 33 2 row A n c (l.flatMap cID)) (hn : n < 4611686018427387904) :
    Calls Try.prog 64 #[.slice A n c, .func (.func 56) #[] #[]] w (Srt row A n c l w) := by
  by_cases h0 : n = 0
  · subst h0
    have hl : l = [] := List.eq_nil_of_length_eq_zero (by have := h.1; rw [flat_len cID 2 (fun _ => rfl)] at this; omega)
    subst hl
    have hs : sortM [] = [] := List.eq_nil_of_length_eq_zero (sortM_len [])
    have hS := AnyF.slices_SortFunc_none (P := Try.prog) (ρ := Try.sortL_ren) { Try.sortL with } A c (.func (.func 56) #[] #[]) w
    change Calls Try.prog 64 _ _ _ at hS
    exact hS.mono fun _ _ ⟨he, hw⟩ => ⟨he, by rw [hs, hw]; exact h, by rw [hw]; exact Keep.refl _ _⟩
  · obtain ⟨hl, g, off, cs, rfl, rfl, hb, hs, hli⟩ := h.lies (by omega)
    have eg : ∀ args w, (callFunc 56 args).run Try.prog w = .ok (.enter 56 args) w := enters_of Try.func56 (by kernel_rfl) rfl
    have hH := holds_of_lies hb hl hli
    have hsz : l.toArray.size = n := by simpa using hl
    have hS := AnyQ.slices_SortFunc_total Try.sortL 2 Try.isAgg33 Try.sizeOf33 cID (fun _ => rfl) (fun x u hu => by simp at hu; rcases hu with rfl | rfl <;> rfl) cmpID swo_ID 56 #[] g off c l.toArray w eg
      (cmp_lays _ _ _ _) hH hb.lt (by rw [hsz]; exact hn) tot_ID
    rw [hsz] at hS
    change Calls Try.prog 64 _ _ _ at hS
    refine hS.mono ?_
    rintro e w' ⟨rfl, q, os, rfl⟩
    rw [ltOf_ID]
    have e1 : (l.toArray.toList.mergeSort fun x y => !ltID y x).toArray = (sortM l).toArray := by simp [sortM]
    rw [e1]
    have hlen : (sortM l).length = n := by rw [sortM_len, hl]
    have hb' := blk_sorted hb off q (sortM l).toArray os
    have hH' := holdsK_sortWorldK_c cID 2 w g off l.toArray (sortM l).toArray q os hH hb.lt (by simp [hlen, hl])
    refine ⟨rfl, SlK.of_lies hlen h.2.1 h.2.2.1 hb' (by simpa [putCells] using hs) (lies_of_holds hb' hlen hH'), keep_sorted _ _⟩
end Go.Proofs.Ytenphdgnaknbeaa
