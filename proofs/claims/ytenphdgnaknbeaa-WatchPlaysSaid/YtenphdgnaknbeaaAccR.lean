/-
  Contracts of coveyref15's Detector.
-/
import Derived.Test.YtenphdgnaknbeaaAccC
import Derived.Test.YtenphdgnaknbeaaAccQ
import Derived.Test.YtenphdgnaknbeaaSlK2
import Derived.Deep.RegionHeld3
namespace Go.Proofs.Ytenphdgnaknbeaa
open Go.RowKit

/-- The reference's detector r lies in block b, its gaps in the block 'row'. -/
def RHas (w : World) (b : Nat) (row : Option Nat) (r : R) : Prop :=
  ∃ A n c, Blk w b 79 #[.int .i64 r.mn, .int .i64 r.mx, .int .i64 r.wd, .bool r.yes, .int .i64 r.last, .slice A n c] ∧ SlK w 3 1 row A n c (r.gaps.map (.int .i64))

set_option maxHeartbeats 400000 in
theorem rnew_bad (mn mx wd : Int) (w : World) (h : ¬ (1 ≤ mn ∧ mn ≤ mx ∧ mx ≤ 4096 ∧ 1 ≤ wd ∧ wd ≤ 4096)) :
    Calls Try.prog 34 #[.int .i64 mn, .int .i64 mx, .int .i64 wd] w fun e w' => e = .returned (.tuple #[.pointer none, .int .i64 1]) ∧ w = w' := by
  go_enter Try.func34, Try.ntmps34
  go_wp2
  all_goals (go_ret2; exact ⟨rfl, rfl⟩)
set_option maxHeartbeats 400000 in
theorem rnew_ok (mn mx wd : Int) (w : World) (h1 : 1 ≤ mn) (h2 : mn ≤ mx) (h3 : mx ≤ 4096) (h4 : 1 ≤ wd) (h5 : wd ≤ 4096) :
    Calls Try.prog 34 #[.int .i64 mn, .int .i64 mx, .int .i64 wd] w fun e w' => e = .returned (.tuple #[.pointer (some ⟨w.heap.size, 0, none⟩), .int .i64 0]) ∧
      w' = w.alloc (.cells #[.int .i64 mn, .int .i64 mx, .int .i64 wd, .bool false, .int .i64 0, .slice none 0 0] 79) := by
  go_enter Try.func34, Try.ntmps34
  go_wp2
  go_ret2
  exact ⟨rfl, rfl⟩

set_option maxHeartbeats 400000 in
theorem rat_any (b : Nat) (yes : Bool) (last now : Int) (w : World) (h3 : w.cell? ⟨b, 3, none⟩ = some (.bool yes)) (h4 : w.cell? ⟨b, 4, none⟩ = some (.int .i64 last)) :
    Calls Try.prog 49 #[.pointer (some ⟨b, 0, none⟩), .int .i64 now] w fun e w' => e = .returned (.int .i64 (ratT yes last now)) ∧ w = w' := by
  cases yes
  all_goals
    go_enter Try.func49, Try.ntmps49
    go_wp2
  all_goals
    go_ret
    refine ⟨ret_int ?_, rfl⟩
    unfold ratT clampT
    simp
    (repeat' split) <;> omega
end Go.Proofs.Ytenphdgnaknbeaa
