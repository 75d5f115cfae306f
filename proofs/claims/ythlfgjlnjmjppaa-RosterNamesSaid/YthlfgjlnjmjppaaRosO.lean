/-
  Roster: a List, a Member, an ID that came in.
-/
import Derived.Test.YthlfgjlnjmjppaaRosN
import Derived.Test.YthlfgjlnjmjppaaOpen
namespace Go.Proofs.Ythlfgjlnjmjppaa
open Go.RowKit Go.WideShapes Go.Joins

theorem Try.cellsI : Try.prog.cellsOf 3 = 1 := by kernel_rfl
theorem Try.cellsU : Try.prog.cellsOf 5 = 1 := by kernel_rfl
theorem Try.cellsId : Try.prog.cellsOf 27 = 2 := by kernel_rfl
theorem Try.cellsMem : Try.prog.cellsOf 32 = 4 := by kernel_rfl
theorem Try.cellsLi : Try.prog.cellsOf 25 = 2 := by kernel_rfl
instance : Inhabited Mem := ⟨zeroMem⟩
section
variable {H : Type} {enc : TypeId × Value → H} {W : World} {base : Nat} {b : Bool} {spare : Nat → Bool}
theorem each_id (n : Nat) (cs : List Value) (z : DataW H × List MemPlace) (hl : cs.length = 2) (h : DataW.trod enc Try.prog W base spare b n 27 cs = some z) : ∃ x : ID, cs = cID x := by
  obtain ⟨xs, k, _, _, _, hlen, hfs⟩ := DataW.trod_struct Try.underlying27 h
  have hlen' : xs.length = 2 := hlen
  have h0 := hfs 0 _ rfl
  have h1 := hfs 1 _ rfl
  rw [List.getElem?_eq_getElem (by omega : 0 < xs.length)] at h0
  rw [List.getElem?_eq_getElem (by omega : 1 < xs.length)] at h1
  match cs, hl with
  | [v0, v1], _ =>
    simp [Try.cellsI] at h0 h1
    obtain ⟨x, e0, _, _⟩ := DataW.trod_int Try.underlying3 h0
    obtain ⟨y, e1, _, _⟩ := DataW.trod_int Try.underlying3 h1
    injection e0 with e0
    injection e1 with e1
    subst e0 e1
    exact ⟨(x, y), rfl⟩
theorem each_mem (n : Nat) (cs : List Value) (z : DataW H × List MemPlace) (hl : cs.length = 4) (h : DataW.trod enc Try.prog W base spare b n 32 cs = some z) : ∃ x : Mem, cs = cMem x := by
  obtain ⟨xs, k, _, _, _, hlen, hfs⟩ := DataW.trod_struct Try.underlying32 h
  have hlen' : xs.length = 3 := hlen
  have h0 := hfs 0 _ rfl
  have h1 := hfs 1 _ rfl
  have h2 := hfs 2 _ rfl
  rw [List.getElem?_eq_getElem (by omega : 0 < xs.length)] at h0
  rw [List.getElem?_eq_getElem (by omega : 1 < xs.length)] at h1
  rw [List.getElem?_eq_getElem (by omega : 2 < xs.length)] at h2
  match cs, hl with
  | [v0, v1, v2, v3], _ =>
    simp [Try.cellsI, Try.cellsU, Try.cellsId] at h0 h1 h2
    obtain ⟨p, hp⟩ := each_id _ _ _ rfl h0
    obtain ⟨x, e0, _, _⟩ := DataW.trod_int Try.underlying5 h1
    obtain ⟨y, e1, _, _⟩ := DataW.trod_int Try.underlying3 h2
    injection e0 with e0
    injection e1 with e1
    injection hp with q0 q1
    injection q1 with q1 _
    subst e0 e1 q0 q1
    exact ⟨⟨p.1, p.2, x, y⟩, rfl⟩
def InL (w : World) (v : Value) : Prop := ∃ x : LI, IsL w v x.1 x.2 ∧ x.1.length ≤ maxLen ∧ x.2.length ≤ maxLen
theorem open_list {v : Value} {d : DataW H} {p : List MemPlace} (hv : Value.okWide Try.prog W .any base 25 v) (h : DataW.Trod enc Try.prog W 0 spare b 25 v d p) : InL W v := by
  obtain ⟨v0, v1, y0, y1, n, rfl, _, _, h0, h1⟩ := open_agg2 Try.underlying25 (by kernel_rfl) Try.cellsLi hv h
  obtain ⟨A, n0, c0, l, rfl, hn, hc, hl, hr⟩ := open_listK cMem (fun _ => rfl) Try.underlying22 Try.cellsMem (by omega) each_mem h0
  obtain ⟨A1, n1, c1, l1, rfl, hn1, hc1, hl1, hr1⟩ := open_listK cID (fun _ => rfl) Try.underlying23 Try.cellsId (by omega) each_id h1
  exact ⟨(l, l1), ⟨A, n0, c0, A1, n1, c1, rfl, ⟨hl, hr⟩, ⟨hl1, hr1⟩⟩, by simp only; omega, by simp only; omega⟩
def InId (_ : World) (v : Value) : Prop := ∃ p : ID, v = idV p
theorem open_id {v : Value} {d : DataW H} {p : List MemPlace} (hv : Value.okWide Try.prog W .any base 27 v) (h : DataW.Trod enc Try.prog W 0 spare b 27 v d p) : InId W v := by
  obtain ⟨cs, rfl, hsz⟩ := okWide_struct Try.underlying27 hv
  obtain ⟨fuel, hf⟩ := h
  obtain ⟨x, hx⟩ := each_id _ _ _ (by simpa [Value.cells, Try.cellsId] using hsz) hf
  refine ⟨x, ?_⟩
  have : cs = #[.int .i64 x.1, .int .i64 x.2] := by
    apply Array.ext'
    simpa [Value.cells] using hx
  rw [this]
def InMem (_ : World) (v : Value) : Prop := ∃ x : Mem, v = memV x
theorem open_mem {v : Value} {d : DataW H} {p : List MemPlace} (hv : Value.okWide Try.prog W .any base 32 v) (h : DataW.Trod enc Try.prog W 0 spare b 32 v d p) : InMem W v := by
  obtain ⟨cs, rfl, hsz⟩ := okWide_struct Try.underlying32 hv
  obtain ⟨fuel, hf⟩ := h
  obtain ⟨x, hx⟩ := each_mem _ _ _ (by simpa [Value.cells, Try.cellsMem] using hsz) hf
  refine ⟨x, ?_⟩
  have : cs = #[.int .i64 x.addr, .int .i64 x.inc, .int .u8 x.st, .int .i64 x.no] := by
    apply Array.ext'
    simpa [Value.cells] using hx
  rw [this]
end
end Go.Proofs.Ythlfgjlnjmjppaa
