/-
  A node's parts, made new: link, walk, stable, events, outbox.
-/
import Derived.Test.YtlfpefnlgiohbaaGreatCloP
import Derived.Maps.OwnOps
import Derived.WalkKit
import Derived.Outline
namespace Go.Proofs.YtlfpefnlgiohbaaGreat
open Go.RowKit
set_option maxRecDepth 100000

/-- a pointer to a new block, just these cells -/
def MadeP (t : TypeId) (cs : Array Value) (w : World) (e : Ending) (w' : World) : Prop :=
  ∃ b, e = .returned (.pointer (some ⟨b, 0, none⟩)) ∧ Blk w' b t cs ∧ w.heap.size ≤ b ∧ Keep (fun _ => False) w w'
def MadeE (t : TypeId) (cs : Array Value) (w : World) (e : Ending) (w' : World) : Prop :=
  ∃ b, e = .returned (.tuple #[.pointer (some ⟨b, 0, none⟩), .int .i64 0]) ∧ Blk w' b t cs ∧ w.heap.size ≤ b ∧ Keep (fun _ => False) w w'
/-- an empty map in a new block -/
def MadeL (w : World) (e : Ending) (w' : World) : Prop :=
  ∃ b m, e = .returned (.pointer (some ⟨b, 0, none⟩)) ∧ Blk w' b 187 #[.map (some m)] ∧ w'.heap[m]? = some (.map #[] 0) ∧ w.heap.size ≤ m ∧ w.heap.size ≤ b ∧ Keep (fun _ => False) w w'

theorem linkNew_any (w : World) : Calls Tryz.prog 68 #[] w (MadeL w) := by
  have hmm := @run_makeMap Tryz.prog
  go_enter Tryz.func68, Tryz.ntmps68
  go_wp2
  go_ret
  refine ⟨w.heap.size + 1, w.heap.size, by simp, ?_, ?_, Nat.le_refl _, by omega, ((Keep.refl _ _).alloc _).alloc _⟩
  · exact Blk.new_ (by simp) _ _
  · exact (Below.heap_alloc _ _ _ (by simp)).trans (heap_alloc_new w _)
theorem walkNew_any (w : World) : Calls Tryz.prog 69 #[] w (MadeP 194 #[.slice none 0 0] w) := by
  go_enter Tryz.func69, Tryz.ntmps69
  go_wp2
  go_ret
  exact ⟨w.heap.size, rfl, Blk.new _ _ _, Nat.le_refl _, (Keep.refl _ _).alloc _⟩
abbrev timer0 : Array Value := #[.bool false, .slice none 0 0, .slice none 0 0, .slice none 0 0, .int .i64 0, .int .i64 0, .bool false, .int .i64 0]
theorem stableNew_any (w : World) : Calls Tryz.prog 70 #[] w (MadeP 200 timer0 w) := by
  go_enter Tryz.func70, Tryz.ntmps70
  go_wp2
  go_ret
  exact ⟨w.heap.size, rfl, Blk.new _ _ _, Nat.le_refl _, (Keep.refl _ _).alloc _⟩
theorem eventsNew_ok (n : Int) (w : World) (h1 : 1 ≤ n) (h2 : n ≤ 4096) : Calls Tryz.prog 76 #[.int .i64 n] w (MadeE 203 #[.int .i64 n, .slice none 0 0] w) := by
  go_enter Tryz.func76, Tryz.ntmps76
  go_wp2
  go_ret2
  exact ⟨w.heap.size, rfl, Blk.new _ _ _, Nat.le_refl _, (Keep.refl _ _).alloc _⟩
theorem outboxNew_ok (n : Int) (w : World) (h1 : 1 ≤ n) (h2 : n ≤ 4096) : Calls Tryz.prog 124 #[.int .i64 n] w (MadeE 211 #[.int .i64 n, .slice none 0 0] w) := by
  go_enter Tryz.func124, Tryz.ntmps124
  go_wp2
  go_ret2
  exact ⟨w.heap.size, rfl, Blk.new _ _ _, Nat.le_refl _, (Keep.refl _ _).alloc _⟩
end Go.Proofs.YtlfpefnlgiohbaaGreat
