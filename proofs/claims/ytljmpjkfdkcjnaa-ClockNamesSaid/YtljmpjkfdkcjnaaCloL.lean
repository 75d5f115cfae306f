/-
  ClockNames: what its walk uses besides.
-/
import Derived.Test.YtljmpjkfdkcjnaaCloK
namespace Go.Proofs.Ytljmpjkfdkcjnaa
open Go.RowKit
/-- the numbers of some ticks, in a row -/
def IsIn (w : World) (v : Value) (l : List Tick) : Prop := ∃ A n c, v = .slice A (n * 3) c ∧ l.length = n ∧ RdK w 1 A (n * 3) (l.flatMap cT)
theorem IsIn.keep0 {w w' : World} {v : Value} {l : List Tick} (h : IsIn w v l) (hk : Keep (fun _ => False) w w') : IsIn w' v l := by
  obtain ⟨A, n, c, e, hl, h⟩ := h
  exact ⟨A, n, c, e, hl, h.keep0 hk⟩
theorem ofI_any {v : Value} {l : List Tick} {w : World} (B : Nat) (h : IsIn w v l) (hb : l.length ≤ B) (hB : B ≤ 1000) : Calls Try.prog 10 #[v] w (GetsT B l w) := by
  obtain ⟨A, n, c, rfl, hl, h⟩ := h
  refine (of_any A n c l w hl h (by omega)).mono ?_
  rintro e w' ⟨row, A3, c3, rfl, hs, _, hk⟩
  exact ⟨_, rfl, ⟨A3, _, c3, rfl, hs.tsl.1, hb⟩, hk⟩
def fullT (k : Nat) : List Tick := (List.range k).map (fun i : Nat => (((3 : Int), (i : Int) + 1), (1 : Int)))
theorem fullT_succ (k : Nat) : fullT (k + 1) = fullT k ++ [((3, (k : Int) + 1), 1)] := by
  unfold fullT
  rw [List.range_succ, List.map_append]
  rfl
theorem fullT_len (k : Nat) : (fullT k).length = k := by simp [fullT]
/-- behind an append the list that was appended to reads as before -/
theorem rd_behind {w w2 : World} {t : TypeId} {row row2 : Option Nat} {A A2 : Option Addr} {n c c2 m : Nat} {l r : List Tick} (h : SlK w t 3 row A n c (l.flatMap cT)) (h2 : SlK w2 t 3 row2 A2 (n + m) c2 (l.flatMap cT ++ r.flatMap cT))
    (hm : 0 < m) (hr : (m = 0 ∧ row2 = row ∧ A2 = A ∧ c2 = c ∧ w2 = w) ∨ Grew row A c w row2 A2 c2 w2) : RdT w2 A n l := by
  rcases hr with ⟨e, _⟩ | ⟨_, rfl, _, _⟩ | ⟨hk, _⟩
  · omega
  · refine ⟨h.tsl.1.1, h.1, fun j hj => ?_⟩
    obtain ⟨g, off, v, e1, e2, e3⟩ := h2.rd.2 j (by rw [Nat.add_mul]; omega)
    rw [List.getElem?_append_left (by rw [h.1]; exact hj)] at e2
    exact ⟨g, off, v, e1, e2, e3⟩
  · exact h.tsl.1.keep0 hk
end Go.Proofs.Ytljmpjkfdkcjnaa
