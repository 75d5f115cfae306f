/-
  IDs: how they lie; May, Less of package ident and of the reference.
-/
import Derived.Test.YtlfpefnlgiohbaaGreatRows
import Derived.Test.YtlfpefnlgiohbaaGreatLib
import Derived.Test.YtlfpefnlgiohbaaGreatSlK
import Derived.WalkKit
import Derived.WalkSpells
import Derived.WalkLawsBesides
import Derived.Lib.Hide
import Derived.Outline
import Derived.Deep.QuietTactic
import Derived.BigQuiet
namespace Go.Proofs.YtlfpefnlgiohbaaGreat
set_option maxRecDepth 100000
open Go.RowKit

abbrev ID := Int × Int
abbrev cID (p : ID) : List Value := [.int .i64 p.1, .int .i64 p.2]
abbrev idV (p : ID) : Value := .agg #[.int .i64 p.1, .int .i64 p.2]
def mayID (p : ID) : Bool := decide (1 ≤ p.1 ∧ p.1 ≤ 12 ∧ 1 ≤ p.2 ∧ p.2 ≤ 1048576)
theorem Keep.b {w w' : World} (h : Keep (fun _ => False) w w') : Below w.heap.size w w' := h.below (Nat.le_refl _) (fun _ h => h.elim)
theorem keep0_trans (a b c : World) (h : Keep (fun _ => False) a b) (k : Keep (fun _ => False) b c) : Keep (fun _ => False) a c := h.trans (k.mono fun _ _ h => h.elim)
/-- behind a region's draw -/
theorem keepD {a b c : World} (h : Keep (fun _ => False) a b) (k : Keep (fun _ => False) b.drew c) : Keep (fun _ => False) a c := keep0_trans _ _ _ h.drew k
theorem keep0_of_below {w w' : World} (h : Below w.heap.size w w') : Keep (fun _ => False) w w' := ⟨h.os, h.tape, h.output, h.size, fun k hk _ => h.block k hk⟩
/-- a store into new memory -/
theorem Keep.new {S : Nat → Prop} {w w' : World} (h : Keep S w w') {p : Addr} (hp : w.heap.size ≤ p.block) (v : Value) : Keep S w (w'.setCell p v) := h.setCell (fun hlt => absurd hlt (by omega)) v
/-- a call that tells a value, in new memory at most -/
def Tell (v : Value) (w : World) (e : Ending) (w' : World) : Prop := e = .returned v ∧ Keep (fun _ => False) w w'

theorem flat_get {α : Type} (enc : α → List Value) (k : Nat) (hk : ∀ x, (enc x).length = k) : ∀ (l : List α) (i j : Nat) (hi : i < l.length), j < k → (l.flatMap enc)[i * k + j]? = (enc l[i])[j]?
  | x :: l, 0, j, _, hj => by
    rw [List.flatMap_cons, List.getElem?_append_left (by rw [hk]; omega)]; simp
  | x :: l, i + 1, j, hi, hj => by
    rw [List.flatMap_cons, List.getElem?_append_right (by rw [hk, Nat.add_mul]; omega), hk, Nat.add_mul, Nat.one_mul, show i * k + k + j - k = i * k + j by omega]
    rw [flat_get enc k hk l i j (by simpa using hi) hj]; rfl
theorem flat_len {α : Type} (enc : α → List Value) (k : Nat) (hk : ∀ x, (enc x).length = k) (l : List α) : (l.flatMap enc).length = l.length * k := by
  induction l with
  | nil => simp
  | cons x l ih => rw [List.flatMap_cons, List.length_append, hk, ih, List.length_cons, Nat.add_mul]; omega
/-- a list of IDs that can be read -/
def RdI (w : World) (A : Option Addr) (n : Nat) (l : List ID) : Prop := l.length = n ∧ RdK w 2 A n (l.flatMap cID)
theorem RdI.keep0 {w w' : World} {A : Option Addr} {n : Nat} {l : List ID} (h : RdI w A n l) (hk : Keep (fun _ => False) w w') : RdI w' A n l := ⟨h.1, h.2.keep0 hk⟩
theorem RdI.at_ {w : World} {A : Option Addr} {n : Nat} {l : List ID} (h : RdI w A n l) {i : Nat} (hi : i < n) : ∃ g off, A = some ⟨g, off, none⟩ ∧ w.cell? ⟨g, off + i * 2, none⟩ = some (.int .i64 (l.getD i (0, 0)).1) ∧ w.cell? ⟨g, off + i * 2 + 1, none⟩ = some (.int .i64 (l.getD i (0, 0)).2) := by
  have hl : i < l.length := by rw [h.1]; exact hi
  have e : l.getD i (0, 0) = l[i] := by simp [List.getD, hl]
  obtain ⟨g, off, v, h1, h2, h3⟩ := h.2.2 (i * 2) (by omega)
  obtain ⟨g', off', v', h1', h2', h3'⟩ := h.2.2 (i * 2 + 1) (by omega)
  rw [h1] at h1'; injection h1' with h1'; injection h1' with q1 q2; subst q1 q2
  have f0 := flat_get cID 2 (fun _ => rfl) l i 0 hl (by omega)
  have f1 := flat_get cID 2 (fun _ => rfl) l i 1 hl (by omega)
  rw [Nat.add_zero, h2] at f0
  rw [h2'] at f1
  simp at f0 f1
  exact ⟨g, off, h1, by rw [h3, e, f0], by rw [Nat.add_assoc, h3', e, f1]⟩

end Go.Proofs.YtlfpefnlgiohbaaGreat
