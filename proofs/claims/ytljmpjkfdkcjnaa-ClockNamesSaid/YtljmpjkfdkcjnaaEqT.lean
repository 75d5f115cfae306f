/-
  == of ticks.
-/
import Derived.Test.YtljmpjkfdkcjnaaCloA
namespace Go.Proofs.Ytljmpjkfdkcjnaa
open Go.RowKit
theorem gTick : Try.prog.eqGuardType Try.prog.depth 35 = false := by kernel_rfl
theorem eqIn_ID (d : Nat) (p q : ID) (w : World) : (Op.equalIn (d + 2) 28 (idV p) (idV q)).run Try.prog w = .ok (decide (p = q)) w := by
  have u3 := Try.underlying3
  have a3 := Try.isAgg3
  have z3 := Try.sizeOf3
  have hS : Try.prog.underlying 28 = some (.struct (Try.prog.fieldsOf 28)) := by kernel_rfl
  have hp : Try.prog.stoodInHeld 28 = false := by kernel_rfl
  obtain ⟨a, i⟩ := p
  obtain ⟨b, j⟩ := q
  rw [run_equalIn_agg w (d + 1) 28 _ _ hS hp]
  simp only [Program.fieldsOf, Try.underlying28]
  go_simp
  by_cases h1 : a = b <;> by_cases h2 : i = j <;> simp [h1, h2]
theorem eqIn_T (d : Nat) (p q : Tick) (w : World) : (Op.equalIn (d + 3) 35 (tV p) (tV q)).run Try.prog w = .ok (decide (p = q)) w := by
  have u3 := Try.underlying3
  have a3 := Try.isAgg3
  have z3 := Try.sizeOf3
  have hS : Try.prog.underlying 35 = some (.struct (Try.prog.fieldsOf 35)) := by kernel_rfl
  have hp : Try.prog.stoodInHeld 35 = false := by kernel_rfl
  have a2 := Try.isAgg28
  have z2 := Try.sizeOf28
  obtain ⟨⟨a, i⟩, n⟩ := p
  obtain ⟨⟨b, j⟩, m⟩ := q
  have HI := eqIn_ID d (a, i) (b, j)
  rw [run_equalIn_agg w (d + 2) 35 _ _ hS hp]
  simp only [Program.fieldsOf, Try.underlying35]
  simp only [Op.eqFields]
  have P1 : ∀ (x y z : Int) (w : World), (part 28 #[.int .i64 x, .int .i64 y, .int .i64 z] 0).run Try.prog w = .ok (idV (x, y)) w := fun x y z w => by
    unfold part
    simp [Sem.run_bind, a2, z2, Result.andThen_ok]
  have P2 : ∀ (x y z : Int) (w : World), (part 3 #[.int .i64 x, .int .i64 y, .int .i64 z] 2).run Try.prog w = .ok (.int .i64 z) w := fun x y z w => by
    unfold part
    simp [Sem.run_bind, a3, Result.andThen_ok]
  rw [if_pos (by decide), if_pos (by decide)]
  simp only [Sem.run_bind, P1, Result.andThen_ok, HI]
  by_cases h1 : (a, i) = (b, j)
  · rw [decide_eq_true h1]
    simp only [Bool.not_true, Bool.false_eq_true, if_false, Sem.run_bind, P2, Result.andThen_ok, run_equalIn_int _ (d + 1) 3 .i64 .i64 _ _ u3]
    injection h1 with h1 h1'
    subst h1 h1'
    by_cases h2 : n = m
    · subst h2; simp
    · have h3 : (n == m) = false := by simpa using h2
      simp [h3, h2]
  · rw [decide_eq_false h1]
    simp only [Bool.not_false, if_true, Sem.run_pure]
    rw [decide_eq_false (fun e => h1 (by injection e))]
theorem neq_T (p q : Tick) (w : World) : (binOp .neq 35 (tV p) (tV q)).run Try.prog w = .ok (.bool (!decide (p = q))) w := by
  rw [run_neq_struct, show (10000 : Nat) = 9997 + 3 from rfl, eqIn_T]
  rfl
end Go.Proofs.Ytljmpjkfdkcjnaa
