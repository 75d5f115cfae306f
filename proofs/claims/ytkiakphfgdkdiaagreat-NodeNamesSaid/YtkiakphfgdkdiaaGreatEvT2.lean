/-
  NodeNames: the walk.
-/
import Derived.Test.YtkiakphfgdkdiaaGreatEvT1
namespace Go.Proofs.YtkiakphfgdkdiaaGreat
open Go Go.RowKit
set_option linter.unusedVariables false
set_option maxRecDepth 100000
theorem names_ev : ∃ s, evCallF Tryz.prog [(6, .bool true), (247, crcV)] 1000 4 [] = some (.bool true, s) := of_okB (by kernel_rfl)
theorem walkNodeNames {w : World} : Calls Tryz.prog 4 #[] w fun e w' => e = .returned (.bool true) ∧ Below w.heap.size w w' := by
  obtain ⟨s, h⟩ := names_ev
  obtain ⟨s', h⟩ := evCallF_ok noGo h
  exact (callsIn_wide (n := 0)).1 (evCall_ok (d := 8) mixes knownA h rfl wideW rfl w)
end Go.Proofs.YtkiakphfgdkdiaaGreat
