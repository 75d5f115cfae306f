/-
  == and != of IDs.
-/
import Derived.Test.YtlfpefnlgiohbaaGreatID
import Derived.Laws.StructEq
namespace Go.Proofs.YtlfpefnlgiohbaaGreat
set_option maxRecDepth 100000
open Go.RowKit

theorem gID : Tryz.prog.eqGuardType Tryz.prog.depth 30 = false := by kernel_rfl
theorem eql_ID (p q : ID) (w : World) : (binOp .eql 30 (idV p) (idV q)).run Tryz.prog w = .ok (.bool (decide (p = q))) w := by
  have u3 := Tryz.underlying3
  have a3 := Tryz.isAgg3
  have z3 := Tryz.sizeOf3
  have hS : Tryz.prog.underlying 30 = some (.struct (Tryz.prog.fieldsOf 30)) := by kernel_rfl
  have hp : Tryz.prog.stoodInHeld 30 = false := by kernel_rfl
  obtain ⟨a, i⟩ := p
  obtain ⟨b, j⟩ := q
  rw [run_eql_struct, show (10000 : Nat) = 9999 + 1 from rfl, run_equalIn_agg w 9999 30 _ _ hS hp]
  simp only [Program.fieldsOf, Tryz.underlying30]
  go_simp
  by_cases h1 : a = b <;> by_cases h2 : i = j <;> simp [h1, h2]
theorem neq_ID (p q : ID) (w : World) : (binOp .neq 30 (idV p) (idV q)).run Tryz.prog w = .ok (.bool (!decide (p = q))) w := by
  have u3 := Tryz.underlying3
  have a3 := Tryz.isAgg3
  have z3 := Tryz.sizeOf3
  have hS : Tryz.prog.underlying 30 = some (.struct (Tryz.prog.fieldsOf 30)) := by kernel_rfl
  have hp : Tryz.prog.stoodInHeld 30 = false := by kernel_rfl
  obtain ⟨a, i⟩ := p
  obtain ⟨b, j⟩ := q
  rw [run_neq_struct, show (10000 : Nat) = 9999 + 1 from rfl, run_equalIn_agg w 9999 30 _ _ hS hp]
  simp only [Program.fieldsOf, Tryz.underlying30]
  go_simp
  by_cases h1 : a = b <;> by_cases h2 : i = j <;> simp [h1, h2]
end Go.Proofs.YtlfpefnlgiohbaaGreat
