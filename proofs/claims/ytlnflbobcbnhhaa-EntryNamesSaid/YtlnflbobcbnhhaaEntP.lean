/-
  The plain model of package entry: whom a node asks.
-/
import Derived.Test.YtlnflbobcbnhhaaLib
namespace Go.Proofs.Ytlnflbobcbnhhaa
open Go.RowKit

def askOne (own : Int) (acc : List Int) (s : Int) : List Int := if s < 1 ∨ 12 < s ∨ s = own ∨ s ∈ acc then acc else acc ++ [s]
/-- whom it asks: all seeds that are addresses, each once, but its own one -/
def asked (own : Int) (l : List Int) : List Int := l.foldl (askOne own) []
theorem asked_succ (own : Int) (l : List Int) (k : Nat) (h : k < l.length) : asked own (l.take (k + 1)) = askOne own (asked own (l.take k)) (l.getD k 0) := by
  unfold asked
  rw [List.take_succ_eq_append_getElem h, List.foldl_append]
  simp [List.getD, h]
theorem askOne_len (own : Int) (acc : List Int) (s : Int) : (askOne own acc s).length ≤ acc.length + 1 := by
  unfold askOne; split <;> simp
theorem asked_len (own : Int) (l : List Int) (k : Nat) : (asked own (l.take k)).length ≤ k := by
  induction k with
  | zero => simp [asked]
  | succ k ih =>
    by_cases h : k < l.length
    · rw [asked_succ own l k h]
      have := askOne_len own (asked own (l.take k)) (l.getD k 0)
      omega
    · rw [List.take_of_length_le (by omega)] at *
      omega
/-- an array of 13 numbers: 1 where the address was met -/
def metArr (acc : List Int) : Array Value := ((List.range 13).map fun (j : Nat) => Value.int .i64 (if (j : Int) ∈ acc then 1 else 0)).toArray
theorem metArr_size (acc : List Int) : (metArr acc).size = 13 := by simp [metArr]
theorem metArr_get (acc : List Int) (j : Nat) (h : j < 13) : (metArr acc)[j]? = some (.int .i64 (if (j : Int) ∈ acc then 1 else 0)) := by
  simp [metArr, h]
theorem metArr_nil : metArr [] = #[.int .i64 0, .int .i64 0, .int .i64 0, .int .i64 0, .int .i64 0, .int .i64 0, .int .i64 0, .int .i64 0, .int .i64 0, .int .i64 0, .int .i64 0, .int .i64 0, .int .i64 0] := by rfl
theorem metArr_set (acc : List Int) (a : Nat) (ha : a < 13) : (metArr acc).setIfInBounds a (.int .i64 1) = metArr (acc ++ [(a : Int)]) := by
  apply Array.ext_getElem?
  intro j
  by_cases hj : j < 13
  · by_cases e : j = a
    · subst e
      rw [Array.getElem?_setIfInBounds_self_of_lt (by rw [metArr_size]; exact ha), metArr_get _ _ hj]
      simp
    · rw [Array.getElem?_setIfInBounds_ne (fun h => e h.symm), metArr_get _ _ hj, metArr_get _ _ hj]
      have : ((j : Int) ∈ acc ++ [(a : Int)]) ↔ (j : Int) ∈ acc := by
        simp only [List.mem_append, List.mem_singleton]
        constructor
        · rintro (h | h)
          · exact h
          · omega
        · exact .inl
      simp only [this]
  · rw [Array.getElem?_eq_none (by simp [metArr_size]; omega), Array.getElem?_eq_none (by simp [metArr_size]; omega)]
end Go.Proofs.Ytlnflbobcbnhhaa
