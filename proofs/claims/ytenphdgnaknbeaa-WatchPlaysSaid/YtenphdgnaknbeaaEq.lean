/-
  == and != of IDs.
-/
import Derived.Test.YtenphdgnaknbeaaID
import Derived.Laws.StructEq
namespace Go.Proofs.Ytenphdgnaknbeaa
open Go.RowKit

theorem gID : Try.prog.eqGuardType Try.prog.depth 33 = false := by kernel_rfl
theorem eql_ID (p q : ID) (w : World) : (binOp .eql 33 (idV p) (idV q)).run Try.prog w = .ok (.bool (decide (p = q))) w := by
  have u3 := Try.underlying3
  have a3 := Try.isAgg3
  have z3 := Try.sizeOf3
  have hS : Try.prog.underlying 33 = some (.struct (Try.prog.fieldsOf 33)) := by kernel_rfl
  have hp : Try.prog.stoodInHeld 33 = false := by kernel_rfl
  obtain ⟨a, i⟩ := p
  obtain ⟨b, j⟩ := q
  rw [run_eql_struct, show (10000 : Nat) = 9999 + 1 from rfl, run_equalIn_agg w 9999 33 _ _ hS hp]
  simp only [Program.fieldsOf, Try.underlying33]
  go_simp
  by_cases h1 : a = b <;> by_cases h2 : i = j <;> simp [h1, h2]
theorem neq_ID (p q : ID) (w : World) : (binOp .neq 33 (idV p) (idV q)).run Try.prog w = .ok (.bool (!decide (p = q))) w := by
  have u3 := Try.underlying3
  have a3 := Try.isAgg3
  have z3 := Try.sizeOf3
  have hS : Try.prog.underlying 33 = some (.struct (Try.prog.fieldsOf 33)) := by kernel_rfl
  have hp : Try.prog.stoodInHeld 33 = false := by kernel_rfl
  obtain ⟨a, i⟩ := p
  obtain ⟨b, j⟩ := q
  rw [run_neq_struct, show (10000 : Nat) = 9999 + 1 from rfl, run_equalIn_agg w 9999 33 _ _ hS hp]
  simp only [Program.fieldsOf, Try.underlying33]
  go_simp
  by_cases h1 : a = b <;> by_cases h2 : i = j <;> simp [h1, h2]
end Go.Proofs.Ytenphdgnaknbeaa
