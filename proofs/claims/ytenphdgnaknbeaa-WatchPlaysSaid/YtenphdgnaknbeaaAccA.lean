/-
  Contracts of the leaves of package accrual: within, at, New.
-/
import Derived.Test.YtenphdgnaknbeaaRows
import Derived.Test.YtenphdgnaknbeaaLib
import Derived.Test.YtenphdgnaknbeaaAccP
import Derived.WalkKit
import Derived.WalkSpells
import Derived.WalkLawsBesides
import Derived.Deep.QuietTactic
import Derived.BigQuiet
import Derived.Lib.Hide
import Derived.Outline
namespace Go.Proofs.Ytenphdgnaknbeaa
open Go.RowKit

set_option maxHeartbeats 400000 in
theorem within_any (x low high : Int) (w : World) :
    Calls Try.prog 51 #[.int .i64 x, .int .i64 low, .int .i64 high] w fun e w' => e = .returned (.int .i64 (wi x low high)) ∧ w = w' := by
  go_enter Try.func51, Try.ntmps51
  go_wp2
  all_goals (go_ret; exact ⟨ret_int (by unfold wi; omega), rfl⟩)

set_option maxHeartbeats 400000 in
theorem at_any (b : Nat) (last now : Int) (w : World) (hc : w.cell? ⟨b, 3, none⟩ = some (.int .i64 last)) :
    Calls Try.prog 44 #[.pointer (some ⟨b, 0, none⟩), .int .i64 now] w fun e w' => e = .returned (.int .i64 (atv last now)) ∧ w = w' := by
  go_enter Try.func44, Try.ntmps44
  go_wp2_with (go_at_call 51; refine (within_any _ _ _ _).mono ?_; rintro e w' ⟨rfl, rfl⟩)
  all_goals (go_ret; exact ⟨ret_int (by unfold atv; congr 1; omega), rfl⟩)

set_option maxHeartbeats 400000 in
theorem new_bad (mn mx wd : Int) (w : World) (h : ¬ (1 ≤ mn ∧ mn ≤ mx ∧ mx ≤ 4096 ∧ 1 ≤ wd ∧ wd ≤ 4096)) :
    Calls Try.prog 26 #[.int .i64 mn, .int .i64 mx, .int .i64 wd] w fun e w' => e = .returned (.tuple #[.pointer none, .int .i64 1]) ∧ w = w' := by
  go_enter Try.func26, Try.ntmps26
  go_wp2
  all_goals (go_ret2; exact ⟨rfl, rfl⟩)

set_option maxHeartbeats 400000 in
theorem new_ok (mn mx wd : Int) (w : World) (h1 : 1 ≤ mn) (h2 : mn ≤ mx) (h3 : mx ≤ 4096) (h4 : 1 ≤ wd) (h5 : wd ≤ 4096) :
    Calls Try.prog 26 #[.int .i64 mn, .int .i64 mx, .int .i64 wd] w fun e w' => e = .returned (.tuple #[.pointer (some ⟨w.heap.size, 0, none⟩), .int .i64 0]) ∧
      w' = w.alloc (.cells #[.int .i64 mn, .int .i64 mx, .int .i64 wd, .int .i64 (-1), .slice none 0 0] 74) := by
  go_enter Try.func26, Try.ntmps26
  go_wp2
  go_ret2
  exact ⟨rfl, rfl⟩
end Go.Proofs.Ytenphdgnaknbeaa
