/-
  slices.Values at IDs: its iterator gives the list's elements in turn.
-/
import Derived.Test.YtenphdgnaknbeaaCollectI
import Derived.WalkSpells
import Derived.Outline
namespace Go.Proofs.Ytenphdgnaknbeaa
open Go.RowKit

set_option maxRecDepth 100000 in
set_option maxHeartbeats 2000000 in
theorem values1_in (n : Nat) (hn : 1 ≤ n) (w : World) (Bn : Nat) (A : Option Addr) (m c : Nat) (l0 : List ID) (hm : m ≤ 4611686018427387904)
    (hB : w.cell? ⟨Bn, 0, none⟩ = some (.slice A m c)) (hs : RdI w A m l0) :
    Gives n Try.prog 65 #[.pointer (some ⟨Bn, 0, none⟩)] idV (fun xs => xs = l0) m w := by
  intro l J W hW hJ hY hJ0
  have lB : Bn < w.heap.size := World.block_lt_of_cell? w _ hB
  have HJ := Lib.hid hJ
  have HY := Lib.hid hY
  have HS := Lib.hid hs
  have HB0 := Lib.hid hB
  have HW := Lib.hid hW
  have hB' := (hW.cell (p := ⟨Bn, 0, none⟩) lB).trans hB
  have hsz := hW.size
  clear hJ hY hs hB hW
  refine callsIn_of_wp Try.func65 rfl trivial ?_ rfl
  simp only [Try.ntmps65, List.size_toArray, List.length_cons, List.length_nil, Nat.reduceAdd, Nat.reduceSub, Array.replicate_succ, Array.replicate_zero, List.push_toArray, List.append_toArray, List.nil_append, List.cons_append]
  gi_wp2
  gi_loopw [7] (fun i wr => ∃ k : Nat, k ≤ m ∧ i = .int .i64 k ∧ J (l0.take k) wr ∧ Below w.heap.size w wr ∧ W.heap.size ≤ wr.heap.size)
    (fun i _ => m - (intOf i).toNat)
  case atStart => exact ⟨0, Nat.zero_le _, rfl, by rw [List.take_zero]; exact hJ0, HW.out, Nat.le_refl _⟩
  case round =>
    obtain ⟨k, hk, rfl, hJk, hbk, hsk⟩ := hrel
    by_cases hlt : k < m
    · obtain ⟨g, off, hA, c0, c1⟩ := HS.out.at_ hlt
      have lg : g < w.heap.size := World.block_lt_of_cell? w _ c0
      have q0 := (hbk.cell (p := ⟨g, off + k * 2, none⟩) lg).trans c0
      have q1 := (hbk.cell (p := ⟨g, off + k * 2 + 1, none⟩) lg).trans c1
      have hl0 : k < l0.length := by rw [HS.out.1]; exact hlt
      have hx : l0.take (k + 1) = l0.take k ++ [l0.getD k (0, 0)] := by rw [List.take_succ_eq_append_getElem hl0]; simp [List.getD, hl0]
      have HStep := Lib.hid hx
      subst hA
      clear c0 c1 hx
      generalize l0.getD k (0, 0) = x at q0 q1 HStep
      obtain ⟨a, i⟩ := x
      simp only at q0 q1
      obtain ⟨W1, hW1⟩ : ∃ W1, wr.alloc (.cells #[.int .i64 a, .int .i64 i] 33) = W1 := ⟨_, rfl⟩
      have hE : Blk W1 wr.heap.size 33 #[.int .i64 a, .int .i64 i] := by rw [← hW1]; exact Blk.new _ _ _
      have hE0 := hE.cell 0
      have hE1 := hE.cell 1
      have hJ1 : J (l0.take k) W1 := by rw [← hW1]; exact HJ.out _ _ _ hJk hsk (World.grownBy_alloc wr _ _)
      have hb1 : Below w.heap.size w W1 := by rw [← hW1]; exact hbk.alloc hbk.size _
      have hs1 : W.heap.size < W1.heap.size := by rw [← hW1]; simp; omega
      obtain ⟨fn, tmps, assign, body, hy, hR⟩ := HY.out (l0.take k) (a, i) _ hJ1 hs1 (by rw [List.length_take, HS.out.1]; omega)
      clear hE hJ1 hJ0 hB'
      rw [← hW1] at hE0 hE1 hy
      have HW1 := Lib.hid hW1
      have HR := Lib.hid hR
      clear hR hW1
      gi_wp2
      rw [HW1.out]
      refine HR.out.mono ?_
      rintro e W3 ⟨rfl, hJ3, hs3, ht3, hb3⟩
      gi_wp2
      go_roundw
      case rel => exact ⟨k + 1, by omega, by go_num, by rw [HStep.out]; exact hJ3, hb3, by omega⟩
      case measure => simp [intOf]; omega
    · obtain rfl : k = m := by omega
      have hfull : l0.take k = l0 := List.take_of_length_le (by rw [HS.out.1]; exact Nat.le_refl _)
      rw [hfull] at hJk
      clear hfull hB' hJ0
      gi_wp2
      go_end0
      exact ⟨⟨_, rfl⟩, _, rfl, hJk⟩

/-- slices.Values: the iterator over the box of the list -/
theorem values_any (A : Option Addr) (n c : Nat) (w : World) : Calls Try.prog 59 #[.slice A n c] w fun en w' =>
    en = .returned (.func (.func 65) #[] #[.pointer (some ⟨w.heap.size, 0, none⟩)]) ∧ w' = w.alloc (.cells #[.slice A n c] 30) := by
  go_enter Try.func59, Try.ntmps59
  go_wp2
  go_ret
  exact ⟨rfl, rfl⟩
end Go.Proofs.Ytenphdgnaknbeaa
