/-
  A configuration that came in, opened.
-/
import Derived.Test.YtjgkalcldekmpaaGreatDoorCfgR
import Derived.ProofKit
import Derived.OpenShut
import Derived.ChangeArms
import Derived.Lib.SmallJoins
import Derived.Deep.SlicePairs
import Derived.DataShut
namespace Go.Proofs.YtjgkalcldekmpaaGreatDoor
open Go.RowKit Go.WideShapes Go.Joins
set_option maxRecDepth 100000

theorem Tryz.cellsI : Tryz.prog.cellsOf 3 = 1 := by kernel_rfl
theorem Tryz.cellsU : Tryz.prog.cellsOf 5 = 1 := by kernel_rfl
theorem Tryz.cellsBo : Tryz.prog.cellsOf 4 = 1 := by kernel_rfl
theorem Tryz.cellsIs : Tryz.prog.cellsOf 23 = 1 := by kernel_rfl
theorem Tryz.cellsCfg : Tryz.prog.cellsOf 25 = 17 := by kernel_rfl
theorem array17 {α : Type} {cs : Array α} (h : cs.size = 17) : ∃ c0 c1 c2 c3 c4 c5 c6 c7 c8 c9 c10 c11 c12 c13 c14 c15 c16, cs = #[c0, c1, c2, c3, c4, c5, c6, c7, c8, c9, c10, c11, c12, c13, c14, c15, c16] := by
  obtain ⟨l⟩ := cs
  match l, h with
  | [c0, c1, c2, c3, c4, c5, c6, c7, c8, c9, c10, c11, c12, c13, c14, c15, c16], _ => exact ⟨c0, c1, c2, c3, c4, c5, c6, c7, c8, c9, c10, c11, c12, c13, c14, c15, c16, rfl⟩
/-- a field's slice of ints -/
theorem open_ints_cell {H : Type} {enc : TypeId × Value → H} {W : World} {c : Value} {fuel : Nat} {y : DataW H × List MemPlace} {b : Bool} {spare : Nat → Bool}
    (hf : DataW.trod enc Tryz.prog W 0 spare b fuel 23 [c] = some y) : ∃ (A : Option Addr) (cap : Nat) (xs : List Int), c = .slice A xs.length cap ∧ xs.length ≤ maxLen ∧ RdN W A xs.length xs ∧ ∀ x ∈ xs, i64 x := by
  rcases Deep.open_slice1 Tryz.underlying23 Tryz.cellsI hf with ⟨hcs, _⟩ | ⟨a, len, cap, m, n, V, D, P, hcs, _, hl, hm, hmm, _, hx⟩
  · injection hcs with hcs
    exact ⟨none, 0, [], hcs, by simp [maxLen], ⟨rfl, fun k hk => by simp at hk⟩, fun x hx => by cases hx⟩
  · injection hcs with hcs
    have hlm : len ≤ m := by rw [hmm]; split <;> omega
    have each : ∀ k, k < len → ∃ x : Int, W.cell? (a.add k) = some (.int .i64 x) ∧ i64 x := by
      intro k hk
      obtain ⟨h1, h2⟩ := hx k (by omega)
      obtain ⟨x, e0, _, hw⟩ := DataW.trod_int Tryz.underlying3 h2
      simp at e0
      exact ⟨x, by rw [h1, e0], (Lit.wf_int_iff _ _).1 hw⟩
    obtain ⟨S, hS⟩ := Deep.choose_lt (α := Int) each
    have hlen : ((List.range len).map S).length = len := by simp
    refine ⟨some a, cap, (List.range len).map S, by rw [hlen]; exact hcs, by rw [hlen]; omega, ⟨by simp, fun k hk => ?_⟩, fun x hx => ?_⟩
    · rw [hlen, Nat.mul_one] at hk
      have h1 := (hS k hk).1
      obtain ⟨g, off, spot⟩ := a
      have hspot : spot = none := by
        have := World.cell?_spot (hS 0 (by omega)).1
        simpa [Addr.add] using this
      subst hspot
      rw [Addr.add_lit] at h1
      exact ⟨g, off, .int .i64 (S k), rfl, by simp [hk], h1⟩
    · obtain ⟨k, hk, rfl⟩ := List.mem_map.1 hx
      exact (hS k (List.mem_range.1 hk)).2
/-- v is a configuration that came in. -/
def IsCfgW (w : World) (v : Value) : Prop := ∃ (A : Option Addr) (cap : Nat) (c : Cfg), v = .agg (cfgA (.slice A c.seeds.length cap) c.v) ∧ c.seeds.length ≤ maxLen ∧ RdN w A c.seeds.length c.seeds ∧ (∀ x ∈ c.seeds, i64 x) ∧ (∀ i, isNum i → i64 (c.v i)) ∧ 0 ≤ c.v 8 ∧ c.v 8 < 256
theorem open_cfgW {H : Type} {enc : TypeId × Value → H} {W : World} {base : Nat} {v : Value} {d : DataW H} {p : List MemPlace} {b : Bool} {spare : Nat → Bool}
    (hv : Value.okWide Tryz.prog W .any base 25 v) (h : DataW.Trod enc Tryz.prog W 0 spare b 25 v d p) : IsCfgW W v := by
  obtain ⟨cs, rfl, hsz⟩ := okWide_struct Tryz.underlying25 hv
  obtain ⟨c0, c1, c2, c3, c4, c5, c6, c7, c8, c9, c10, c11, c12, c13, c14, c15, c16, rfl⟩ := array17 (hsz.trans Tryz.cellsCfg)
  obtain ⟨fuel, hf⟩ := h
  obtain ⟨xs, n, _, _, _, hlen, hfs⟩ := DataW.trod_struct Tryz.underlying25 hf
  have hlen' : xs.length = 17 := hlen
  have h0 := hfs 0 _ rfl
  rw [List.getElem?_eq_getElem (by omega : 0 < xs.length)] at h0
  simp [Value.cells, Tryz.cellsIs] at h0
  obtain ⟨A, cap, seeds, rfl, hml, hrd, h64⟩ := open_ints_cell h0
  have h1 := hfs 1 _ rfl
  rw [List.getElem?_eq_getElem (by omega : 1 < xs.length)] at h1
  simp [Value.cells, Tryz.cellsI] at h1
  obtain ⟨x1, e1, _, w1⟩ := DataW.trod_int Tryz.underlying3 h1
  injection e1 with e1
  subst e1
  have w1 : i64 x1 := (Lit.wf_int_iff _ _).1 w1
  have h2 := hfs 2 _ rfl
  rw [List.getElem?_eq_getElem (by omega : 2 < xs.length)] at h2
  simp [Value.cells, Tryz.cellsI] at h2
  obtain ⟨x2, e2, _, w2⟩ := DataW.trod_int Tryz.underlying3 h2
  injection e2 with e2
  subst e2
  have w2 : i64 x2 := (Lit.wf_int_iff _ _).1 w2
  have h3 := hfs 3 _ rfl
  rw [List.getElem?_eq_getElem (by omega : 3 < xs.length)] at h3
  simp [Value.cells, Tryz.cellsI] at h3
  obtain ⟨x3, e3, _, w3⟩ := DataW.trod_int Tryz.underlying3 h3
  injection e3 with e3
  subst e3
  have w3 : i64 x3 := (Lit.wf_int_iff _ _).1 w3
  have h4 := hfs 4 _ rfl
  rw [List.getElem?_eq_getElem (by omega : 4 < xs.length)] at h4
  simp [Value.cells, Tryz.cellsI] at h4
  obtain ⟨x4, e4, _, w4⟩ := DataW.trod_int Tryz.underlying3 h4
  injection e4 with e4
  subst e4
  have w4 : i64 x4 := (Lit.wf_int_iff _ _).1 w4
  have h5 := hfs 5 _ rfl
  rw [List.getElem?_eq_getElem (by omega : 5 < xs.length)] at h5
  simp [Value.cells, Tryz.cellsI] at h5
  obtain ⟨x5, e5, _, w5⟩ := DataW.trod_int Tryz.underlying3 h5
  injection e5 with e5
  subst e5
  have w5 : i64 x5 := (Lit.wf_int_iff _ _).1 w5
  have h6 := hfs 6 _ rfl
  rw [List.getElem?_eq_getElem (by omega : 6 < xs.length)] at h6
  simp [Value.cells, Tryz.cellsI] at h6
  obtain ⟨x6, e6, _, w6⟩ := DataW.trod_int Tryz.underlying3 h6
  injection e6 with e6
  subst e6
  have w6 : i64 x6 := (Lit.wf_int_iff _ _).1 w6
  have h7 := hfs 7 _ rfl
  rw [List.getElem?_eq_getElem (by omega : 7 < xs.length)] at h7
  simp [Value.cells, Tryz.cellsI] at h7
  obtain ⟨x7, e7, _, w7⟩ := DataW.trod_int Tryz.underlying3 h7
  injection e7 with e7
  subst e7
  have w7 : i64 x7 := (Lit.wf_int_iff _ _).1 w7
  have h8 := hfs 8 _ rfl
  rw [List.getElem?_eq_getElem (by omega : 8 < xs.length)] at h8
  simp [Value.cells, Tryz.cellsU] at h8
  obtain ⟨x8, e8, _, w8⟩ := DataW.trod_int Tryz.underlying5 h8
  injection e8 with e8
  subst e8
  have w8 : 0 ≤ x8 ∧ x8 < 256 := by have := (Lit.wf_int_iff _ _).1 w8; simp [IntKind.min, IntKind.max, IntKind.bits, IntKind.signed] at this; omega
  have h9 := hfs 9 _ rfl
  rw [List.getElem?_eq_getElem (by omega : 9 < xs.length)] at h9
  simp [Value.cells, Tryz.cellsI] at h9
  obtain ⟨x9, e9, _, w9⟩ := DataW.trod_int Tryz.underlying3 h9
  injection e9 with e9
  subst e9
  have w9 : i64 x9 := (Lit.wf_int_iff _ _).1 w9
  have h10 := hfs 10 _ rfl
  rw [List.getElem?_eq_getElem (by omega : 10 < xs.length)] at h10
  simp [Value.cells, Tryz.cellsBo] at h10
  obtain ⟨b10, e10, _⟩ := DataW.trod_bool Tryz.underlying4 h10
  injection e10 with e10
  subst e10
  have h11 := hfs 11 _ rfl
  rw [List.getElem?_eq_getElem (by omega : 11 < xs.length)] at h11
  simp [Value.cells, Tryz.cellsBo] at h11
  obtain ⟨b11, e11, _⟩ := DataW.trod_bool Tryz.underlying4 h11
  injection e11 with e11
  subst e11
  have h12 := hfs 12 _ rfl
  rw [List.getElem?_eq_getElem (by omega : 12 < xs.length)] at h12
  simp [Value.cells, Tryz.cellsI] at h12
  obtain ⟨x12, e12, _, w12⟩ := DataW.trod_int Tryz.underlying3 h12
  injection e12 with e12
  subst e12
  have w12 : i64 x12 := (Lit.wf_int_iff _ _).1 w12
  have h13 := hfs 13 _ rfl
  rw [List.getElem?_eq_getElem (by omega : 13 < xs.length)] at h13
  simp [Value.cells, Tryz.cellsI] at h13
  obtain ⟨x13, e13, _, w13⟩ := DataW.trod_int Tryz.underlying3 h13
  injection e13 with e13
  subst e13
  have w13 : i64 x13 := (Lit.wf_int_iff _ _).1 w13
  have h14 := hfs 14 _ rfl
  rw [List.getElem?_eq_getElem (by omega : 14 < xs.length)] at h14
  simp [Value.cells, Tryz.cellsI] at h14
  obtain ⟨x14, e14, _, w14⟩ := DataW.trod_int Tryz.underlying3 h14
  injection e14 with e14
  subst e14
  have w14 : i64 x14 := (Lit.wf_int_iff _ _).1 w14
  have h15 := hfs 15 _ rfl
  rw [List.getElem?_eq_getElem (by omega : 15 < xs.length)] at h15
  simp [Value.cells, Tryz.cellsI] at h15
  obtain ⟨x15, e15, _, w15⟩ := DataW.trod_int Tryz.underlying3 h15
  injection e15 with e15
  subst e15
  have w15 : i64 x15 := (Lit.wf_int_iff _ _).1 w15
  have h16 := hfs 16 _ rfl
  rw [List.getElem?_eq_getElem (by omega : 16 < xs.length)] at h16
  simp [Value.cells, Tryz.cellsI] at h16
  obtain ⟨x16, e16, _, w16⟩ := DataW.trod_int Tryz.underlying3 h16
  injection e16 with e16
  subst e16
  have w16 : i64 x16 := (Lit.wf_int_iff _ _).1 w16
  exact ⟨A, cap, ⟨seeds, fun k => [0, x1, x2, x3, x4, x5, x6, x7, x8, x9, if b10 then 1 else 0, if b11 then 1 else 0, x12, x13, x14, x15, x16].getD k 0⟩, by
    rw [cfgA_explicit]
    cases b10 <;> cases b11 <;> rfl, hml, hrd, h64, fun i hi => by
    obtain ⟨hi17, g0, g8, g10, g11⟩ := hi
    have hc : i = 1 ∨ i = 2 ∨ i = 3 ∨ i = 4 ∨ i = 5 ∨ i = 6 ∨ i = 7 ∨ i = 9 ∨ i = 12 ∨ i = 13 ∨ i = 14 ∨ i = 15 ∨ i = 16 := by omega
    rcases hc with rfl | rfl | rfl | rfl | rfl | rfl | rfl | rfl | rfl | rfl | rfl | rfl | rfl
    · exact w1
    · exact w2
    · exact w3
    · exact w4
    · exact w5
    · exact w6
    · exact w7
    · exact w9
    · exact w12
    · exact w13
    · exact w14
    · exact w15
    · exact w16, w8.1, w8.2⟩
end Go.Proofs.YtjgkalcldekmpaaGreatDoor
