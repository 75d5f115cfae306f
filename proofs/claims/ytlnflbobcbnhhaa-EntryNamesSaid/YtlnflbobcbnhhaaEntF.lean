/-
  A configuration and an ID that came in, opened.
-/
import Derived.Test.YtlnflbobcbnhhaaEntE
import Derived.ProofKit
import Derived.OpenShut
import Derived.ChangeArms
import Derived.Lib.SmallJoins
import Derived.Deep.SlicePairs
namespace Go.Proofs.Ytlnflbobcbnhhaa
open Go.RowKit Go.WideShapes Go.Joins

theorem Try.cellsI : Try.prog.cellsOf 3 = 1 := by kernel_rfl
theorem Try.cellsIs : Try.prog.cellsOf 22 = 1 := by kernel_rfl
theorem Try.cellsCfg : Try.prog.cellsOf 24 = 17 := by kernel_rfl
theorem Try.cellsId : Try.prog.cellsOf 26 = 2 := by kernel_rfl

theorem array17 {α : Type} {cs : Array α} (h : cs.size = 17) : ∃ c0 c1 c2 c3 c4 c5 c6 c7 c8 c9 c10 c11 c12 c13 c14 c15 c16, cs = #[c0, c1, c2, c3, c4, c5, c6, c7, c8, c9, c10, c11, c12, c13, c14, c15, c16] := by
  obtain ⟨l⟩ := cs
  match l, h with
  | [c0, c1, c2, c3, c4, c5, c6, c7, c8, c9, c10, c11, c12, c13, c14, c15, c16], _ => exact ⟨c0, c1, c2, c3, c4, c5, c6, c7, c8, c9, c10, c11, c12, c13, c14, c15, c16, rfl⟩

/-- a field's slice of ints -/
theorem open_ints_cell {H : Type} {enc : TypeId × Value → H} {W : World} {c : Value} {fuel : Nat} {y : DataW H × List MemPlace} {b : Bool} {spare : Nat → Bool}
    (hf : DataW.trod enc Try.prog W 0 spare b fuel 22 [c] = some y) : ∃ (A : Option Addr) (n cap : Nat) (xs : List Int), c = .slice A n cap ∧ n ≤ cap ∧ cap ≤ maxLen ∧ Rd W A n (xs.map (.int .i64)) ∧ xs.length = n := by
  rcases Deep.open_slice1 Try.underlying22 Try.cellsI hf with ⟨hcs, _⟩ | ⟨a, len, cap, m, n, V, D, P, hcs, _, hl, hm, hmm, _, hx⟩
  · injection hcs with hcs
    exact ⟨none, 0, 0, [], hcs, Nat.le_refl _, by simp [maxLen], ⟨rfl, fun k hk => by omega⟩, rfl⟩
  · injection hcs with hcs
    have hlm : len ≤ m := by rw [hmm]; split <;> omega
    have each : ∀ k, k < len → ∃ x : Int, W.cell? (a.add k) = some (.int .i64 x) := by
      intro k hk
      obtain ⟨h1, h2⟩ := hx k (by omega)
      obtain ⟨x, e0, _, _⟩ := DataW.trod_int Try.underlying3 h2
      simp at e0
      exact ⟨x, by rw [h1, e0]⟩
    obtain ⟨S, hS⟩ := Deep.choose_lt (α := Int) each
    refine ⟨some a, len, cap, (List.range len).map S, hcs, hl, hm, ⟨by simp, fun k hk => ?_⟩, by simp⟩
    have h1 := hS k hk
    obtain ⟨g, off, spot⟩ := a
    have hspot : spot = none := by
      have := World.cell?_spot (hS 0 (by omega))
      simpa [Addr.add] using this
    subst hspot
    rw [Addr.add_lit] at h1
    exact ⟨g, off, .int .i64 (S k), rfl, by simp [hk], h1⟩

/-- v is a configuration that came in. -/
def IsCfg (w : World) (v : Value) : Prop := ∃ (A : Option Addr) (n c : Nat) (seeds : List Int) (v1 v2 v3 v4 : Value) (retry : Int) (v6 v7 v8 v9 v10 v11 v12 v13 v14 v15 v16 : Value),
  v = cfgV (.slice A n c) v1 v2 v3 v4 retry v6 v7 v8 v9 v10 v11 v12 v13 v14 v15 v16 ∧ n ≤ c ∧ c ≤ maxLen ∧ Rd w A n (seeds.map (.int .i64)) ∧ seeds.length = n ∧ (Lit.int .i64 retry).wf = true

theorem open_cfg {H : Type} {enc : TypeId × Value → H} {W : World} {base : Nat} {v : Value} {d : DataW H} {p : List MemPlace} {b : Bool} {spare : Nat → Bool}
    (hv : Value.okWide Try.prog W .any base 24 v) (h : DataW.Trod enc Try.prog W 0 spare b 24 v d p) : IsCfg W v := by
  obtain ⟨cs, rfl, hsz⟩ := okWide_struct Try.underlying24 hv
  obtain ⟨c0, c1, c2, c3, c4, c5, c6, c7, c8, c9, c10, c11, c12, c13, c14, c15, c16, rfl⟩ := array17 (hsz.trans Try.cellsCfg)
  obtain ⟨fuel, hf⟩ := h
  obtain ⟨xs, n, _, _, _, hlen, hfs⟩ := DataW.trod_struct Try.underlying24 hf
  have hlen' : xs.length = 17 := hlen
  have h0 := hfs 0 _ rfl
  have h5 := hfs 5 _ rfl
  rw [List.getElem?_eq_getElem (by omega : 0 < xs.length)] at h0
  rw [List.getElem?_eq_getElem (by omega : 5 < xs.length)] at h5
  simp [Value.cells, Try.cellsIs] at h0
  simp [Value.cells, Try.cellsI] at h5
  obtain ⟨A, m, cap, seeds, rfl, hl, hm, hr, hlen2⟩ := open_ints_cell h0
  obtain ⟨x, e0, _, hw⟩ := DataW.trod_int Try.underlying3 h5
  injection e0 with e0
  subst e0
  exact ⟨A, m, cap, seeds, c1, c2, c3, c4, x, c6, c7, c8, c9, c10, c11, c12, c13, c14, c15, c16, rfl, hl, hm, hr, hlen2, hw⟩

/-- v is an ID that came in. -/
def IsId (_ : World) (v : Value) : Prop := ∃ a i : Int, v = .agg #[.int .i64 a, .int .i64 i]

theorem open_id {H : Type} {enc : TypeId × Value → H} {W : World} {base : Nat} {v : Value} {d : DataW H} {p : List MemPlace} {b : Bool} {spare : Nat → Bool}
    (hv : Value.okWide Try.prog W .any base 26 v) (h : DataW.Trod enc Try.prog W 0 spare b 26 v d p) : IsId W v := by
  obtain ⟨v0, v1, y0, y1, n, rfl, _, _, h0, h1⟩ := open_agg2 Try.underlying26 (by kernel_rfl) Try.cellsId hv h
  obtain ⟨x, e0, _, _⟩ := DataW.trod_int Try.underlying3 h0
  obtain ⟨y, e1, _, _⟩ := DataW.trod_int Try.underlying3 h1
  injection e0 with e0
  injection e1 with e1
  subst e0 e1
  exact ⟨x, y, rfl⟩
end Go.Proofs.Ytlnflbobcbnhhaa
