/-
  The slice of steps, opened.
-/
import Derived.Test.YtmlgaikabnbghaaAccD
import Derived.ProofKit
import Derived.OpenShut
import Derived.Deep.SlicePairs
namespace Go.Proofs.Ytmlgaikabnbghaa
open Go.RowKit Go.WideShapes Go.Deep

theorem Try.cells29 : Try.prog.cellsOf 29 = 2 := by kernel_rfl
theorem Try.cells5 : Try.prog.cellsOf 5 = 1 := by kernel_rfl
theorem Try.cells3 : Try.prog.cellsOf 3 = 1 := by kernel_rfl

/-- v is a slice of steps that came in. -/
def IsSteps (w : World) (v : Value) : Prop := ∃ A n c l, v = .slice A n c ∧ n ≤ c ∧ c ≤ maxLen ∧ Steps w A n l

theorem open_steps {H : Type} {enc : TypeId × Value → H} {W : World} {base : Nat} {v : Value} {d : DataW H} {p : List MemPlace} {b : Bool} {spare : Nat → Bool}
    (hv : Value.okWide Try.prog W .any base 22 v) (h : DataW.Trod enc Try.prog W 0 spare b 22 v d p) : IsSteps W v := by
  obtain ⟨A, len, cap, rfl⟩ := okWide_slice Try.underlying22 hv
  obtain ⟨fuel, hf⟩ := h
  rcases open_slice_pairs Try.underlying22 Try.underlying29 Try.cells29 rfl rfl Try.cells5 Try.cells3 hf with ⟨hcs, _⟩ | ⟨a, len', cap', m, n, V0, V1, D0, D1, P0, P1, hcs, _, hl, hm, hmm, _, hx⟩
  · simp [Value.cells] at hcs
    obtain ⟨rfl, rfl, rfl⟩ := hcs
    exact ⟨none, 0, 0, [], rfl, Nat.le_refl _, by simp [maxLen], rfl, fun k hk => by omega⟩
  · simp [Value.cells] at hcs
    obtain ⟨rfl, rfl, rfl⟩ := hcs
    have hlm : len ≤ m := by rw [hmm]; split <;> omega
    have each : ∀ k, k < len → ∃ s : Int × Int, W.cell? (a.add (k * 2)) = some (.int .u8 s.1) ∧ W.cell? (a.add (k * 2 + 1)) = some (.int .i64 s.2) := by
      intro k hk
      obtain ⟨h1, h2, h3, h4⟩ := hx k (by omega)
      obtain ⟨x, e0, _, _⟩ := DataW.trod_int Try.underlying5 h3
      obtain ⟨y, e1, _, _⟩ := DataW.trod_int Try.underlying3 h4
      simp at e0 e1
      exact ⟨(x, y), by rw [h1, e0], by rw [h2, e1]⟩
    obtain ⟨S, hS⟩ := choose_lt (α := Int × Int) each
    refine ⟨some a, len, cap, (List.range len).map S, rfl, hl, hm, by simp, fun k hk => ?_⟩
    obtain ⟨h1, h2⟩ := hS k hk
    obtain ⟨g, off, spot⟩ := a
    have hspot : spot = none := by
      have := World.cell?_spot (hS 0 (by omega)).1
      simpa [Addr.add] using this
    subst hspot
    have hlt := World.block_lt_of_cell? W _ h1
    rw [Addr.add_lit] at h1 h2 hlt
    refine ⟨g, off, rfl, hlt, ?_, ?_⟩
    · rw [h1]; simp [List.getD, hk]
    · rw [← Nat.add_assoc] at h2; rw [h2]; simp [List.getD, hk]
end Go.Proofs.Ytmlgaikabnbghaa
