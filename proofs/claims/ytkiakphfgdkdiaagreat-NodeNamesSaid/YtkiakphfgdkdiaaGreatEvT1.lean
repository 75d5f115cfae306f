/-
  NodeNames: the closed calls, reckoned by the evaluator: awake.
-/
import Derived.Test.YtkiakphfgdkdiaaGreatEvT0
namespace Go.Proofs.YtkiakphfgdkdiaaGreat
open Go Go.RowKit
set_option linter.unusedVariables false
set_option maxRecDepth 100000
theorem awake_ev : ∃ s, evCallF Tryz.prog [(247, crcV)] 1000 6 [] = some (.bool true, s) := of_okB (by kernel_rfl)
theorem knownA : Known Tryz.prog [(6, .bool true), (247, crcV)] := by
  obtain ⟨s, h⟩ := awake_ev
  obtain ⟨s', h⟩ := evCallF_ok noGo h
  exact known_cons (d := 8) mixes knownT h rfl ⟨_, Tryz.func6, by kernel_rfl, noGo _ _ Tryz.func6⟩
end Go.Proofs.YtkiakphfgdkdiaaGreat
