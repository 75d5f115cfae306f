/-
  A list of steps, an ID that came in.
-/
import Derived.Test.YtenphdgnaknbeaaMapI
import Derived.Test.YtenphdgnaknbeaaOpen
namespace Go.Proofs.Ytenphdgnaknbeaa
open Go.RowKit Go.WideShapes Go.Joins
set_option maxRecDepth 100000

/-- a step: hear x, or look at ids, at the time now -/
structure Stp where
  hear : Bool
  x : ID
  A : Option Addr
  n : Nat
  c : Nat
  ids : List ID
  now : Int
abbrev cS (s : Stp) : List Value := [.bool s.hear, .int .i64 s.x.1, .int .i64 s.x.2, .slice s.A s.n s.c, .int .i64 s.now]
structure OkS (W : World) (s : Stp) : Prop where
  rd : RdI W s.A s.n s.ids
  nc : s.n ≤ s.c
  cm : s.c ≤ maxLen
  wx : wfI s.x
  wi : ∀ y ∈ s.ids, wfI y
  wn : (Lit.int .i64 s.now).wf = true
theorem OkS.keep0 {w w' : World} {s : Stp} (h : OkS w s) (hk : Keep (fun _ => False) w w') : OkS w' s := ⟨h.rd.keep0 hk, h.nc, h.cm, h.wx, h.wi, h.wn⟩
/-- steps that can be read -/
def RdS (w : World) (A : Option Addr) (n : Nat) (l : List Stp) : Prop := l.length = n ∧ RdK w 5 A n (l.flatMap cS) ∧ ∀ s ∈ l, OkS w s
theorem RdS.keep0 {w w' : World} {A : Option Addr} {n : Nat} {l : List Stp} (h : RdS w A n l) (hk : Keep (fun _ => False) w w') : RdS w' A n l := ⟨h.1, h.2.1.keep0 hk, fun s hs => (h.2.2 s hs).keep0 hk⟩
def InSteps (w : World) (v : Value) : Prop := ∃ A n c l, v = .slice A n c ∧ n ≤ c ∧ c ≤ maxLen ∧ RdS w A n l
theorem Try.cellsSt : Try.prog.cellsOf 35 = 5 := by kernel_rfl
theorem Try.cellsB : Try.prog.cellsOf 4 = 1 := by kernel_rfl
theorem Try.cellsSl : Try.prog.cellsOf 30 = 1 := by kernel_rfl
section
variable {H : Type} {enc : TypeId × Value → H} {W : World} {base : Nat} {b : Bool} {spare : Nat → Bool}
abbrev IdW := {x : ID // wfI x}
instance : Inhabited IdW := ⟨⟨(0, 0), by decide, by decide⟩⟩
theorem each_id (n : Nat) (cs : List Value) (z : DataW H × List MemPlace) (hl : cs.length = 2) (h : DataW.trod enc Try.prog W base spare b n 33 cs = some z) : ∃ x : IdW, cs = cID x.1 := by
  obtain ⟨xs, k, _, _, _, hlen, hfs⟩ := DataW.trod_struct Try.underlying33 h
  have hlen' : xs.length = 2 := hlen
  have h0 := hfs 0 _ rfl
  have h1 := hfs 1 _ rfl
  rw [List.getElem?_eq_getElem (by omega : 0 < xs.length)] at h0
  rw [List.getElem?_eq_getElem (by omega : 1 < xs.length)] at h1
  match cs, hl with
  | [v0, v1], _ =>
    simp [Try.cellsOfI] at h0 h1
    obtain ⟨x, e0, _, wx⟩ := DataW.trod_int Try.underlying3 h0
    obtain ⟨y, e1, _, wy⟩ := DataW.trod_int Try.underlying3 h1
    injection e0 with e0
    injection e1 with e1
    subst e0 e1
    exact ⟨⟨(x, y), wx, wy⟩, rfl⟩
theorem flat_val (l : List IdW) : l.flatMap (fun x => cID x.1) = (l.map Subtype.val).flatMap cID := by
  induction l with
  | nil => rfl
  | cons x l ih => simp only [List.flatMap_cons, List.map_cons, ih]
theorem open_idl {fuel : Nat} {v : Value} {y : DataW H × List MemPlace} (hf : DataW.trod enc Try.prog W base spare b fuel 30 [v] = some y) : ∃ (A : Option Addr) (n c : Nat) (l : List ID), v = .slice A n c ∧ n ≤ c ∧ c ≤ maxLen ∧ RdI W A n l ∧ ∀ x ∈ l, wfI x := by
  obtain ⟨A, n, c, l, e, hn, hc, hl, hr⟩ := open_listK (fun x : IdW => cID x.1) (fun _ => rfl) Try.underlying30 Try.cellsOfId (by omega) each_id hf
  exact ⟨A, n, c, l.map Subtype.val, e, hn, hc, ⟨by simpa using hl, flat_val l ▸ hr⟩, fun x hx => by
    obtain ⟨z, _, rfl⟩ := List.mem_map.1 hx
    exact z.2⟩
abbrev StpW (W : World) := {s : Stp // OkS W s}
instance : Inhabited (StpW W) := ⟨⟨⟨false, (0, 0), none, 0, 0, [], 0⟩, { rd := ⟨rfl, rfl, fun j hj => absurd hj (by simp)⟩, nc := Nat.le_refl _, cm := Nat.zero_le _, wx := ⟨by decide, by decide⟩, wi := fun y hy => (by cases hy), wn := by decide }⟩⟩
theorem each_st (n : Nat) (cs : List Value) (z : DataW H × List MemPlace) (hl : cs.length = 5) (h : DataW.trod enc Try.prog W base spare b n 35 cs = some z) : ∃ x : StpW W, cs = cS x.1 := by
  obtain ⟨xs, k, _, _, _, hlen, hfs⟩ := DataW.trod_struct Try.underlying35 h
  have hlen' : xs.length = 4 := hlen
  have h0 := hfs 0 _ rfl
  have h1 := hfs 1 _ rfl
  have h2 := hfs 2 _ rfl
  have h3 := hfs 3 _ rfl
  rw [List.getElem?_eq_getElem (by omega : 0 < xs.length)] at h0
  rw [List.getElem?_eq_getElem (by omega : 1 < xs.length)] at h1
  rw [List.getElem?_eq_getElem (by omega : 2 < xs.length)] at h2
  rw [List.getElem?_eq_getElem (by omega : 3 < xs.length)] at h3
  match cs, hl with
  | [v0, v1, v2, v3, v4], _ =>
    simp [Try.cellsOfI, Try.cellsB, Try.cellsOfId, Try.cellsSl] at h0 h1 h2 h3
    obtain ⟨q, e0, _⟩ := DataW.trod_bool Try.underlying4 h0
    obtain ⟨⟨p, wp⟩, hp⟩ := each_id _ _ _ rfl h1
    obtain ⟨A, m, c, l, rfl, hn, hc, hr, hw⟩ := open_idl h2
    obtain ⟨y, e3, _, wy⟩ := DataW.trod_int Try.underlying3 h3
    injection e0 with e0
    injection e3 with e3
    injection hp with q0 q1
    injection q1 with q1 _
    subst e0 e3 q0 q1
    exact ⟨⟨⟨q, p, A, m, c, l, y⟩, ⟨hr, hn, hc, wp, hw, wy⟩⟩, rfl⟩
theorem flat_vals (l : List (StpW W)) : l.flatMap (fun x => cS x.1) = (l.map Subtype.val).flatMap cS := by
  induction l with
  | nil => rfl
  | cons x l ih => simp only [List.flatMap_cons, List.map_cons, ih]
theorem open_steps {v : Value} {d : DataW H} {p : List MemPlace} (hv : Value.okWide Try.prog W .any base 22 v) (h : DataW.Trod enc Try.prog W 0 spare b 22 v d p) : InSteps W v := by
  obtain ⟨A0, len, cap, rfl⟩ := okWide_slice Try.underlying22 hv
  obtain ⟨fuel, hf⟩ := h
  obtain ⟨A, n, c, l, e, hn, hc, hl, hr⟩ := open_listK (fun x : StpW W => cS x.1) (fun _ => rfl) Try.underlying22 Try.cellsSt (by omega) each_st hf
  exact ⟨A, n, c, l.map Subtype.val, e, hn, hc, by simpa using hl, flat_vals l ▸ hr, fun x hx => by
    obtain ⟨z, _, rfl⟩ := List.mem_map.1 hx
    exact z.2⟩
def InIdW (_ : World) (v : Value) : Prop := ∃ p : ID, wfI p ∧ v = idV p
theorem open_idw {v : Value} {d : DataW H} {p : List MemPlace} (hv : Value.okWide Try.prog W .any base 33 v) (h : DataW.Trod enc Try.prog W 0 spare b 33 v d p) : InIdW W v := by
  obtain ⟨cs, rfl, hsz⟩ := okWide_struct Try.underlying33 hv
  obtain ⟨fuel, hf⟩ := h
  obtain ⟨⟨x, wx⟩, hx⟩ := each_id _ _ _ (by simpa [Value.cells, Try.cellsOfId] using hsz) hf
  refine ⟨x, wx, ?_⟩
  have : cs = #[.int .i64 x.1, .int .i64 x.2] := by
    apply Array.ext'
    simpa [Value.cells] using hx
  rw [this]
end
end Go.Proofs.Ytenphdgnaknbeaa
