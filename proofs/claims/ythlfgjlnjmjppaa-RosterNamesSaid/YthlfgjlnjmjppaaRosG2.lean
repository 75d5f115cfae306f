/-
  Roster: Join's last loop, in plain words.
-/
import Derived.Test.YthlfgjlnjmjppaaRosG
import Derived.Lib.Hide
namespace Go.Proofs.Ythlfgjlnjmjppaa
open Go.RowKit
theorem lowT_succ (F : Nat → Int) (ad : Nat) (h : 1 ≤ ad) : lowT F ad = lowT F (ad - 1) ++ (if 0 < F ad then [((ad : Int), F ad)] else []) := by
  obtain ⟨k, rfl⟩ : ∃ k, ad = k + 1 := ⟨ad - 1, by omega⟩
  simp only [lowT, List.range_succ, List.flatMap_append, List.flatMap_cons, List.flatMap_nil, List.append_nil, Nat.add_sub_cancel]
theorem memT_succ (all : List Mem) (F : Nat → Int) (ad : Nat) (h : 1 ≤ ad) : memT all F ad = memT all F (ad - 1) ++ (if nwT all ad ≤ F ad then [] else
    [⟨(ad : Int), nwT all ad, (snT ((ad : Int), nwT all ad) all).1, (snT ((ad : Int), nwT all ad) all).2⟩]) := by
  obtain ⟨k, rfl⟩ : ∃ k, ad = k + 1 := ⟨ad - 1, by omega⟩
  simp only [memT, List.range_succ, List.flatMap_append, List.flatMap_cons, List.flatMap_nil, List.append_nil, Nat.add_sub_cancel]
theorem lowT_len (F : Nat → Int) : ∀ k : Nat, (lowT F k).length ≤ k
  | 0 => by simp [lowT]
  | k + 1 => by
    rw [lowT_succ F (k + 1) (by omega), List.length_append, Nat.add_sub_cancel]
    have := lowT_len F k
    split <;> simp <;> omega
theorem memT_len (all : List Mem) (F : Nat → Int) : ∀ k : Nat, (memT all F k).length ≤ k
  | 0 => by simp [memT]
  | k + 1 => by
    rw [memT_succ all F (k + 1) (by omega), List.length_append, Nat.add_sub_cancel]
    have := memT_len all F k
    split <;> simp <;> omega
theorem SlK.rows_ne {w : World} {e e' : TypeId} {k k' : Nat} {row row' : Option Nat} {A A' : Option Addr} {n n' c c' : Nat} {xs xs' : List Value} (h : SlK w e k row A n c xs) (h' : SlK w e' k' row' A' n' c' xs') (hne : e' ≠ e) : ∀ g, row = some g → ¬ row' = some g := by
  intro g hg hg'
  rcases h'.2.2.2 with ⟨q, _⟩ | ⟨g', off, cur, q1, _, hb, _⟩
  · rw [q] at hg'; cases hg'
  · rw [hg'] at q1; injection q1 with q1; subst q1
    exact h.row_ne hb hne hg
/-- the loop over the addresses: what stands at its head -/
structure L4 (all : List Mem) (F : Nat → Int) (wb : World) (ms ls i : Value) (wl : World) : Prop where
  out : ∃ (ad : Nat) (rM rL : Option Nat) (AM AL : Option Addr) (cM cL : Nat), 1 ≤ ad ∧ ad ≤ 13 ∧ i = .int .i64 (ad : Int) ∧ ms = .slice AM (memT all F (ad - 1)).length cM ∧ ls = .slice AL (lowT F (ad - 1)).length cL ∧ Hid (Keep (fun _ => False) wb wl) ∧
    Hid (SlK wl 32 4 rM AM (memT all F (ad - 1)).length cM ((memT all F (ad - 1)).flatMap cMem)) ∧ Hid (SlK wl 27 2 rL AL (lowT F (ad - 1)).length cL ((lowT F (ad - 1)).flatMap cID)) ∧ Hid (∀ g, rM = some g → wb.heap.size ≤ g) ∧ Hid (∀ g, rL = some g → wb.heap.size ≤ g)
/-- what Join answers, in new memory -/
def JoinSays (w : World) (ms : List Mem) (ls : List ID) (e : Ending) (w' : World) : Prop :=
  ∃ (rM rL : Option Nat) (AM AL : Option Addr) (cM cL : Nat), e = .returned (.tuple #[.slice AM ms.length cM, .slice AL ls.length cL]) ∧
    SlK w' 32 4 rM AM ms.length cM (ms.flatMap cMem) ∧ SlK w' 27 2 rL AL ls.length cL (ls.flatMap cID) ∧
    (∀ g, rM = some g → w.heap.size ≤ g) ∧ (∀ g, rL = some g → w.heap.size ≤ g) ∧ Keep (fun _ => False) w w'
end Go.Proofs.Ythlfgjlnjmjppaa
