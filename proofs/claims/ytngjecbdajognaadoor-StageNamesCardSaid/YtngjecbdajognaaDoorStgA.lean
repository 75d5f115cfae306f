/-
  Stage: the two tables, as the program finds them.
-/
import Derived.Test.YtngjecbdajognaaDoorRows
import Derived.Test.YtngjecbdajognaaDoorLib
import Derived.ProofKit
import Derived.LaidMore
import Derived.OpenShut
import Derived.Stop.Joined
namespace Go.Proofs.YtngjecbdajognaaDoor
open Go.ChangeShapes Go.WideShapes Go.ChangeAt Go.RowKit

abbrev laid2 {H : Type} : List (String × DataW H) := [("covey/stage.names", Rows.laid_covey_stage_names), ("covey/stage.edges", Rows.laid_covey_stage_edges)]
/-- by whom each edge is done -/
def TBL : List (List Int) := [[0, 1, 0, 4, 0, 0, 0, 0], [0, 0, 2, 2, 0, 4, 8, 1], [0, 0, 0, 2, 0, 4, 8, 1], [0, 0, 0, 0, 4, 0, 8, 1], [0, 0, 0, 0, 0, 2, 8, 1], [0, 0, 0, 0, 0, 0, 8, 3], [0, 0, 0, 0, 0, 0, 0, 3], [0, 0, 0, 0, 0, 0, 0, 0]]
def edgeT (f t : Nat) : Int := (TBL.getD f []).getD t 0
def NMS : List (List UInt8) := [[], [106, 111, 105, 110, 105, 110, 103], [119, 101, 97, 107], [117, 112], [108, 101, 97, 118, 105, 110, 103], [101, 120, 105, 116, 105, 110, 103], [100, 111, 119, 110], [114, 101, 109, 111, 118, 101, 100]]
theorem edges_eq {H : Type} : (Rows.laid_covey_stage_edges : DataW H) = .agg (TBL.map fun r => .agg (r.map fun k => .lit (.int .u8 k))) := rfl
theorem names_eq {H : Type} : (Rows.laid_covey_stage_names : DataW H) = .agg (NMS.map fun r => .lit (.string r)) := rfl

section
variable {H : Type} {enc : TypeId × Value → H} {P : Program} {w : World} {base : Nat} {spare : Nat → Bool} {held : Bool}
theorem arr_u8 {n : Nat} {t e : TypeId} {fuel : Nat} {cs : List Value} {l : List Int} {p : List MemPlace} (ht : P.underlying t = some (.array n e)) (he : P.underlying e = some (.int .u8)) (hc : P.cellsOf e = 1)
    (h : DataW.trod enc P w base spare held fuel t cs = some (.agg (l.map fun k => .lit (.int .u8 k)), p)) : ∀ i, i < n → cs[i]? = some (.int .u8 (l.getD i 0)) := by
  obtain ⟨xs, m, _, hx, hlen, hn, hel⟩ := DataW.trod_array ht h
  intro i hi
  have h1 := hel i hi
  rw [hc, Nat.mul_one, List.getElem?_eq_getElem (by omega)] at h1
  obtain ⟨k, e1, e2, _⟩ := DataW.trod_int he h1
  have hm : l.map (fun k => DataW.lit (H := H) (.int .u8 k)) = xs.map (·.1) := by
    have := congrArg Prod.fst hx
    simpa using this
  have hi2 : i < l.length := by have := congrArg List.length hm; simp at this; omega
  have h3 := congrArg (fun z => z[i]?) hm
  simp only [List.getElem?_map, List.getElem?_eq_getElem hi2, List.getElem?_eq_getElem (show i < xs.length by omega), Option.map_some, e2, Option.some.injEq, DataW.lit.injEq, Lit.int.injEq, true_and] at h3
  have h4 : cs[i]? = some (.int .u8 k) := by
    have := congrArg (fun z => z[0]?) e1
    simpa [List.getElem?_take, List.getElem?_drop] using this
  rw [h4]
  simp [List.getD, hi2, h3]
end
theorem Tryd.gNames : Tryd.prog.globalNamed "covey/stage.names" = some 1 := by kernel_rfl
theorem Tryd.gEdges : Tryd.prog.globalNamed "covey/stage.edges" = some 0 := by kernel_rfl
theorem Tryd.tNames : (Tryd.prog.globals[1]?).map (·.type) = some 42 := by kernel_rfl
theorem Tryd.tEdges : (Tryd.prog.globals[0]?).map (·.type) = some 37 := by kernel_rfl
theorem Tryd.cRow : Tryd.prog.cellsOf 36 = 8 := by kernel_rfl
theorem Tryd.cU8 : Tryd.prog.cellsOf 5 = 1 := by kernel_rfl
theorem Tryd.cStr : Tryd.prog.cellsOf 9 = 1 := by kernel_rfl
theorem door_met (os : Os) (args : Array Value) : laidMetH Tryd.prog laid2 ((World.doorLaid Tryd.prog 400 os).forCall (fun _ _ => 0) ⟨#[], args, []⟩).memory :=
  laidMetH_of_parts3 (fuel := 8) (laidMet_of_run' 8 (by kernel_rfl) (by kernel_rfl)) (by kernel_rfl) (by kernel_rfl)

/-- What the walks know of the tables. -/
def Laid (W : World) : Prop := (∀ f t, f < 8 → t < 8 → W.cell? ⟨0, f * 8 + t, none⟩ = some (.int .u8 (edgeT f t))) ∧ (∀ i, i < 8 → W.cell? ⟨1, i, none⟩ = some (.string ⟨(NMS.getD i []).toArray⟩))
theorem of_laid {W : World} (h : laidMetH Tryd.prog laid2 W) : Laid W := by
  rw [MakeChecks.laidMetH_plain _ _ _ (by kernel_rfl)] at h
  obtain ⟨ps, ⟨g0, t0, cs0, f0, p0, q0, hg0, ht0, hv0, hd0, ⟨g1, t1, cs1, f1, p1, q1, hg1, ht1, hv1, hd1, _, _⟩, _⟩, _, _⟩ := h
  obtain rfl := Option.some.inj (Tryd.gNames.symm.trans hg0)
  obtain rfl := Option.some.inj (Tryd.gEdges.symm.trans hg1)
  obtain rfl := Option.some.inj (Tryd.tNames.symm.trans ht0)
  obtain rfl := Option.some.inj (Tryd.tEdges.symm.trans ht1)
  rw [names_eq] at hd0
  rw [edges_eq] at hd1
  refine ⟨fun f t hf ht => ?_, fun i hi => ?_⟩
  · obtain ⟨xs, m, _, hx, hlen, hn, hel⟩ := DataW.trod_array Tryd.underlying37 hd1
    have h1 := hel f hf
    rw [Tryd.cRow, List.getElem?_eq_getElem (by omega)] at h1
    have hm : TBL.map (fun r => DataW.agg (r.map fun k => DataW.lit (.int .u8 k))) = xs.map (·.1) := by
      have := congrArg Prod.fst hx
      simpa using this
    have h3 := congrArg (fun z => z[f]?) hm
    have hf2 : f < TBL.length := by show f < 8; exact hf
    simp only [List.getElem?_map, List.getElem?_eq_getElem hf2, List.getElem?_eq_getElem (show f < xs.length by omega), Option.map_some, Option.some.injEq] at h3
    have h2 := arr_u8 (l := TBL[f]) (p := (xs[f]'(by omega)).2) Tryd.underlying36 Tryd.underlying5 Tryd.cU8 (by rw [h1, h3]) t ht
    have h4 := World.var?_cell hg1 hv1 (f * 8 + t)
    rw [h4]
    have h5 : cs1[f * 8 + t]? = cs1.toList[f * 8 + t]? := by simp
    rw [h5]
    simp only [List.getElem?_take, List.getElem?_drop, ht, if_true] at h2
    rw [h2]
    simp [edgeT, List.getD, hf2]
  · obtain ⟨xs, m, _, hx, hlen, hn, hel⟩ := DataW.trod_array Tryd.underlying42 hd0
    have h1 := hel i hi
    rw [Tryd.cStr, Nat.mul_one, List.getElem?_eq_getElem (by omega)] at h1
    obtain ⟨s, e1, e2, _⟩ := DataW.trod_string Tryd.underlying9 h1
    have hm : NMS.map (fun r => DataW.lit (.string r)) = xs.map (·.1) := by
      have := congrArg Prod.fst hx
      simpa using this
    have h3 := congrArg (fun z => z[i]?) hm
    have hf2 : i < NMS.length := by show i < 8; exact hi
    simp only [List.getElem?_map, List.getElem?_eq_getElem hf2, List.getElem?_eq_getElem (show i < xs.length by omega), Option.map_some, e2, Option.some.injEq, DataW.lit.injEq, Lit.string.injEq] at h3
    have h4 := World.var?_cell hg0 hv0 i
    rw [h4]
    have h5 : cs0[i]? = some (.string s) := by
      have := congrArg (fun z => z[0]?) e1
      simpa [List.getElem?_take, List.getElem?_drop] using this
    rw [h5]
    have h6 : NMS.getD i [] = s.data.toList := by simp [List.getD, hf2, h3]
    rw [h6]
theorem Laid.below {W W' : World} (h : Laid W) (hb : Below W.heap.size W W') : Laid W' :=
  ⟨fun f t hf ht => (hb.cell (p := ⟨0, f * 8 + t, none⟩) (World.block_lt_of_cell? W _ (h.1 f t hf ht))).trans (h.1 f t hf ht), fun i hi => (hb.cell (p := ⟨1, i, none⟩) (World.block_lt_of_cell? W _ (h.2 i hi))).trans (h.2 i hi)⟩
end Go.Proofs.YtngjecbdajognaaDoor
