/-
  A slice of elements of k cells that came in, opened as a list.
-/
import Derived.Test.YtenphdgnaknbeaaSlK
import Derived.ProofKit
import Derived.OpenShut
import Derived.ChangeArms
import Derived.Lib.SmallJoins
import Derived.Deep.SlicePairs
namespace Go.Proofs.Ytenphdgnaknbeaa
open Go.RowKit Go.WideShapes Go.Deep

theorem flat_get' {α : Type} (enc : α → List Value) (k : Nat) (hk : ∀ x, (enc x).length = k) : ∀ (l : List α) (i j : Nat) (hi : i < l.length), j < k → (l.flatMap enc)[i * k + j]? = (enc l[i])[j]?
  | x :: l, 0, j, _, hj => by
    rw [List.flatMap_cons, List.getElem?_append_left (by rw [hk]; omega)]; simp
  | x :: l, i + 1, j, hi, hj => by
    rw [List.flatMap_cons, List.getElem?_append_right (by rw [hk, Nat.add_mul]; omega), hk, Nat.add_mul, Nat.one_mul, show i * k + k + j - k = i * k + j by omega]
    rw [flat_get' enc k hk l i j (by simpa using hi) hj]; rfl
theorem flat_len' {α : Type} (enc : α → List Value) (k : Nat) (hk : ∀ x, (enc x).length = k) (l : List α) : (l.flatMap enc).length = l.length * k := by
  induction l with
  | nil => simp
  | cons x l ih => rw [List.flatMap_cons, List.length_append, hk, ih, List.length_cons, Nat.add_mul]; omega
theorem open_listK {H : Type} {encH : TypeId × Value → H} {P : Program} {W : World} {spare : Nat → Bool} {b : Bool} {t e : TypeId} {k fuel base : Nat} {c : Value} {y : DataW H × List MemPlace} {α : Type} [Inhabited α] (enc : α → List Value) (henc : ∀ x, (enc x).length = k)
    (ht : P.underlying t = some (.slice e)) (ce : P.cellsOf e = k) (hk : 0 < k)
    (each : ∀ (n : Nat) (cs : List Value) (z : DataW H × List MemPlace), cs.length = k → DataW.trod encH P W base spare b n e cs = some z → ∃ x : α, cs = enc x)
    (hf : DataW.trod encH P W base spare b fuel t [c] = some y) : ∃ (A : Option Addr) (n cap : Nat) (l : List α), c = .slice A n cap ∧ n ≤ cap ∧ cap ≤ maxLen ∧ l.length = n ∧ RdK W k A n (l.flatMap enc) := by
  rcases open_slice ht hf with ⟨hcs, _⟩ | ⟨a, len, cap, m, n, D, Pl, hcs, _, hl, hm, hmm, _, hx⟩
  · injection hcs with hcs
    exact ⟨none, 0, 0, [], hcs, Nat.le_refl _, by simp [maxLen], rfl, ⟨by simp, fun j hj => by omega⟩⟩
  · injection hcs with hcs
    have hlm : len ≤ m := by rw [hmm]; split <;> omega
    have ev : ∀ i, i < len → ∃ x : α, ∀ j, j < k → W.cell? (a.add (i * k + j)) = (enc x)[j]? := by
      intro i hi
      obtain ⟨cs', h1, h2⟩ := hx i (by omega)
      rw [ce] at h1
      obtain ⟨_, hlen, hcell⟩ := World.cells?_some h1
      obtain ⟨x, rfl⟩ := each _ _ _ hlen h2
      refine ⟨x, fun j hj => ?_⟩
      have := hcell j hj
      rw [add_add] at this
      exact this
    obtain ⟨S, hS⟩ := choose_lt (α := α) ev
    refine ⟨some a, len, cap, (List.range len).map S, hcs, hl, hm, by simp, ⟨by rw [flat_len' enc k henc]; simp, fun j hj => ?_⟩⟩
    have hi : j / k < len := (Nat.div_lt_iff_lt_mul hk).2 hj
    have hjk : j % k < k := Nat.mod_lt _ hk
    have hdm : j / k * k + j % k = j := by rw [Nat.mul_comm]; exact Nat.div_add_mod j k
    have h1 := hS (j / k) hi (j % k) hjk
    rw [hdm] at h1
    have hlt : j % k < (enc (S (j / k))).length := by rw [henc]; exact hjk
    rw [List.getElem?_eq_getElem hlt] at h1
    obtain ⟨g, off, spot⟩ := a
    have hspot : spot = none := by
      have h0 := hS 0 (Nat.lt_of_le_of_lt (Nat.zero_le _) hi) 0 hk
      have hlt0 : 0 < (enc (S 0)).length := by rw [henc]; exact hk
      rw [List.getElem?_eq_getElem hlt0] at h0
      have := World.cell?_spot h0
      simpa [Addr.add] using this
    subst hspot
    rw [Addr.add_lit] at h1
    refine ⟨g, off, _, rfl, ?_, h1⟩
    have := flat_get' enc k henc ((List.range len).map S) (j / k) (j % k) (by simpa using hi) hjk
    rw [hdm] at this
    rw [this]
    simp
end Go.Proofs.Ytenphdgnaknbeaa
