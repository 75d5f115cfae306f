/-
  The ring's law: lists of IDs and an ID that came in.
-/
import Derived.Test.YtafolmgbmobfbaaRinE
import Derived.Test.YtafolmgbmobfbaaOpen
namespace Go.Proofs.Ytafolmgbmobfbaa
open Go.RowKit Go.WideShapes Go.Joins

theorem Try.cellsI : Try.prog.cellsOf 3 = 1 := by kernel_rfl
theorem Try.cellsId : Try.prog.cellsOf 23 = 2 := by kernel_rfl
section
variable {H : Type} {enc : TypeId × Value → H} {W : World} {base : Nat} {b : Bool} {spare : Nat → Bool}
theorem each_id (n : Nat) (cs : List Value) (z : DataW H × List MemPlace) (hl : cs.length = 2) (h : DataW.trod enc Try.prog W base spare b n 23 cs = some z) : ∃ x : ID, cs = cID x := by
  obtain ⟨xs, k, _, _, _, hlen, hfs⟩ := DataW.trod_struct Try.underlying23 h
  have hlen' : xs.length = 2 := hlen
  have h0 := hfs 0 _ rfl
  have h1 := hfs 1 _ rfl
  rw [List.getElem?_eq_getElem (by omega : 0 < xs.length)] at h0
  rw [List.getElem?_eq_getElem (by omega : 1 < xs.length)] at h1
  match cs, hl with
  | [v0, v1], _ =>
    simp [Try.cellsI] at h0 h1
    obtain ⟨x, e0, _, _⟩ := DataW.trod_int Try.underlying3 h0
    obtain ⟨y, e1, _, _⟩ := DataW.trod_int Try.underlying3 h1
    injection e0 with e0
    injection e1 with e1
    subst e0 e1
    exact ⟨(x, y), rfl⟩
def InIds (w : World) (v : Value) : Prop := ∃ A n c, ∃ l : List ID, v = .slice A n c ∧ n ≤ c ∧ c ≤ maxLen ∧ RdI w A n l
theorem open_ids {v : Value} {d : DataW H} {p : List MemPlace} (hv : Value.okWide Try.prog W .any base 25 v) (h : DataW.Trod enc Try.prog W 0 spare b 25 v d p) : InIds W v := by
  obtain ⟨A0, len, cap, rfl⟩ := okWide_slice Try.underlying25 hv
  obtain ⟨fuel, hf⟩ := h
  obtain ⟨A, n, c, l, e, hn, hc, hl, hr⟩ := open_listK cID (fun _ => rfl) Try.underlying25 Try.cellsId (by omega) each_id hf
  exact ⟨A, n, c, l, e, hn, hc, ⟨hl, hr⟩⟩
theorem Try.cellsU : Try.prog.cellsOf 5 = 1 := by kernel_rfl
abbrev cU (x : Int) : List Value := [.int .u8 x]
def InU (w : World) (v : Value) : Prop := ∃ A n c, ∃ l : List Int, v = .slice A n c ∧ n ≤ c ∧ c ≤ maxLen ∧ l.length = n ∧ RdK w 1 A n (l.flatMap cU)
theorem each_u (n : Nat) (cs : List Value) (z : DataW H × List MemPlace) (hl : cs.length = 1) (h : DataW.trod enc Try.prog W base spare b n 5 cs = some z) : ∃ x : Int, cs = cU x := by
  match cs, hl with
  | [v0], _ =>
    obtain ⟨x, e0, _, _⟩ := DataW.trod_int Try.underlying5 h
    exact ⟨x, e0⟩
theorem open_u {v : Value} {d : DataW H} {p : List MemPlace} (hv : Value.okWide Try.prog W .any base 34 v) (h : DataW.Trod enc Try.prog W 0 spare b 34 v d p) : InU W v := by
  obtain ⟨A0, len, cap, rfl⟩ := okWide_slice Try.underlying34 hv
  obtain ⟨fuel, hf⟩ := h
  obtain ⟨A, n, c, l, e, hn, hc, hl, hr⟩ := open_listK (k := 1) cU (fun _ => rfl) Try.underlying34 Try.cellsU (by decide) each_u hf
  exact ⟨A, n, c, l, e, hn, hc, hl, hr⟩
def InId (_ : World) (v : Value) : Prop := ∃ p : ID, v = idV p
theorem open_id {v : Value} {d : DataW H} {p : List MemPlace} (hv : Value.okWide Try.prog W .any base 23 v) (h : DataW.Trod enc Try.prog W 0 spare b 23 v d p) : InId W v := by
  obtain ⟨cs, rfl, hsz⟩ := okWide_struct Try.underlying23 hv
  obtain ⟨fuel, hf⟩ := h
  obtain ⟨x, hx⟩ := each_id _ _ _ (by simpa [Value.cells, Try.cellsId] using hsz) hf
  refine ⟨x, ?_⟩
  have : cs = #[.int .i64 x.1, .int .i64 x.2] := by
    apply Array.ext'
    simpa [Value.cells] using hx
  rw [this]
end
end Go.Proofs.Ytafolmgbmobfbaa
