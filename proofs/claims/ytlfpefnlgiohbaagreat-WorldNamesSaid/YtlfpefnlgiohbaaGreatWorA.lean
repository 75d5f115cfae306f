/-
  A world in memory; its node, its starts; nobody's world.
-/
import Derived.Test.YtlfpefnlgiohbaaGreatNewE
namespace Go.Proofs.YtlfpefnlgiohbaaGreat
open Go.RowKit Go
set_option maxRecDepth 100000

abbrev wldA (s : Value) (c : NC) (nd : Nat → Value) (nw : Nat → Int) (st : Int) (bn : Nat) : Array Value :=
  #[s, .int .i64 c.watch, .int .i64 c.mn, .int .i64 c.mx, .int .i64 c.window, .int .i64 c.retry, .int .i64 c.stable, .int .i64 c.unstable, .int .u8 c.strategy, .int .i64 c.quorum, .bool c.alone, .bool c.weak, .int .i64 c.delay, .int .i64 c.term, .int .i64 c.hold, .int .i64 c.queue, .int .i64 c.events,
    nd 0, nd 1, nd 2, nd 3, nd 4, nd 5, nd 6, nd 7, nd 8, nd 9, nd 10, nd 11, nd 12,
    .int .i64 (nw 0), .int .i64 (nw 1), .int .i64 (nw 2), .int .i64 (nw 3), .int .i64 (nw 4), .int .i64 (nw 5), .int .i64 (nw 6), .int .i64 (nw 7), .int .i64 (nw 8), .int .i64 (nw 9), .int .i64 (nw 10), .int .i64 (nw 11), .int .i64 (nw 12),
    .int .i64 st, .pointer (some ⟨bn, 0, none⟩), .pointer none, .bool false]
theorem wldA_nd (s : Value) (c : NC) (nd : Nat → Value) (nw : Nat → Int) (st : Int) (bn : Nat) {k : Nat} (hk : k < 13) : (wldA s c nd nw st bn)[17 + k]? = some (nd k) := by
  rcases (by omega : k = 0 ∨ k = 1 ∨ k = 2 ∨ k = 3 ∨ k = 4 ∨ k = 5 ∨ k = 6 ∨ k = 7 ∨ k = 8 ∨ k = 9 ∨ k = 10 ∨ k = 11 ∨ k = 12) with rfl | rfl | rfl | rfl | rfl | rfl | rfl | rfl | rfl | rfl | rfl | rfl | rfl
  all_goals rfl
theorem wldA_nw (s : Value) (c : NC) (nd : Nat → Value) (nw : Nat → Int) (st : Int) (bn : Nat) {k : Nat} (hk : k < 13) : (wldA s c nd nw st bn)[30 + k]? = some (.int .i64 (nw k)) := by
  rcases (by omega : k = 0 ∨ k = 1 ∨ k = 2 ∨ k = 3 ∨ k = 4 ∨ k = 5 ∨ k = 6 ∨ k = 7 ∨ k = 8 ∨ k = 9 ∨ k = 10 ∨ k = 11 ∨ k = 12) with rfl | rfl | rfl | rfl | rfl | rfl | rfl | rfl | rfl | rfl | rfl | rfl | rfl
  all_goals rfl
def ndSet (nd : Nat → Value) (k : Nat) (v : Value) : Nat → Value := fun i => if i = k then v else nd i
def nwSet (nw : Nat → Int) (k : Nat) (v : Int) : Nat → Int := fun i => if i = k then v else nw i
theorem wldA_setN (s : Value) (c : NC) (nd : Nat → Value) (nw : Nat → Int) (st : Int) (bn : Nat) {k : Nat} (hk : k < 13) (v : Value) : (wldA s c nd nw st bn).setIfInBounds (17 + k) v = wldA s c (ndSet nd k v) nw st bn := by
  rcases (by omega : k = 0 ∨ k = 1 ∨ k = 2 ∨ k = 3 ∨ k = 4 ∨ k = 5 ∨ k = 6 ∨ k = 7 ∨ k = 8 ∨ k = 9 ∨ k = 10 ∨ k = 11 ∨ k = 12) with rfl | rfl | rfl | rfl | rfl | rfl | rfl | rfl | rfl | rfl | rfl | rfl | rfl
  all_goals kernel_rfl
theorem wldA_setW (s : Value) (c : NC) (nd : Nat → Value) (nw : Nat → Int) (st : Int) (bn : Nat) {k : Nat} (hk : k < 13) (v : Int) : (wldA s c nd nw st bn).setIfInBounds (30 + k) (.int .i64 v) = wldA s c nd (nwSet nw k v) st bn := by
  rcases (by omega : k = 0 ∨ k = 1 ∨ k = 2 ∨ k = 3 ∨ k = 4 ∨ k = 5 ∨ k = 6 ∨ k = 7 ∨ k = 8 ∨ k = 9 ∨ k = 10 ∨ k = 11 ∨ k = 12) with rfl | rfl | rfl | rfl | rfl | rfl | rfl | rfl | rfl | rfl | rfl | rfl | rfl
  all_goals kernel_rfl
/-- a world in block b -/
structure Wd (w : World) (b : Nat) (row : Option Nat) (A : Option Addr) (cap : Nat) (c : NC) (nd : Nat → Value) (nw : Nat → Int) (st : Int) (bn : Nat) : Prop where
  blk : Blk w b 70 (wldA (.slice A c.seeds.length cap) c nd nw st bn)
  seeds : SlK w 3 1 row A c.seeds.length cap (c.seeds.map (Value.int .i64))
  net : Blk w bn 101 #[.int .i64 4096, .slice none 0 0]
theorem Wd.keep {w w' : World} {b : Nat} {row : Option Nat} {A : Option Addr} {cap : Nat} {c : NC} {nd : Nat → Value} {nw : Nat → Int} {st : Int} {bn : Nat} (h : Wd w b row A cap c nd nw st bn) (hk : Keep (fun _ => False) w w') : Wd w' b row A cap c nd nw st bn :=
  ⟨h.blk.keep hk (fun h => h), h.seeds.keep hk (fun _ _ h => h), h.net.keep hk (fun h => h)⟩
/-- .. behind a call that writes b alone -/
theorem Wd.wrote {w w' : World} {b : Nat} {row : Option Nat} {A : Option Addr} {cap : Nat} {c : NC} {nd nd' : Nat → Value} {nw nw' : Nat → Int} {st st' : Int} {bn : Nat} (h : Wd w b row A cap c nd nw st bn) (hk : Keep (fun g => g = b) w w')
    (hb : Blk w' b 70 (wldA (.slice A c.seeds.length cap) c nd' nw' st' bn)) : Wd w' b row A cap c nd' nw' st' bn :=
  ⟨hb, h.seeds.keep hk (fun q hq e => h.seeds.row_ne h.blk (by decide) (by rw [hq, e])), h.net.keep hk (fun e => (Blk.ne_ h.net h.blk (by decide)) e)⟩

theorem wNode_nil (n : Int) (w : World) : Calls Tryz.prog 9 #[.pointer none, .int .i64 n] w fun e w' => e = .returned (.pointer none) ∧ w' = w := by
  go_enter Tryz.func9, Tryz.ntmps9
  go_wp2
  go_ret
  exact ⟨rfl, rfl⟩
theorem wNode_out (b : Nat) (n : Int) (w : World) (h : n < 1 ∨ 12 < n) : Calls Tryz.prog 9 #[.pointer (some ⟨b, 0, none⟩), .int .i64 n] w fun e w' => e = .returned (.pointer none) ∧ w' = w := by
  rcases h with h | h
  · go_enter Tryz.func9, Tryz.ntmps9
    go_wp2
    go_ret
    exact ⟨rfl, rfl⟩
  · have h2 : ¬ n < 1 := by omega
    go_enter Tryz.func9, Tryz.ntmps9
    go_wp2
    go_ret
    exact ⟨rfl, rfl⟩
theorem wNode_in (b k : Nat) (v : Value) (w : World) (h1 : 1 ≤ k) (h2 : k ≤ 12) (hc : w.cell? ⟨b, 17 + k, none⟩ = some v) : Calls Tryz.prog 9 #[.pointer (some ⟨b, 0, none⟩), .int .i64 (k : Int)] w fun e w' => e = .returned v ∧ w' = w := by
  have q1 : ¬ (k : Int) < 1 := by omega
  have q2 : ¬ 12 < (k : Int) := by omega
  have q3 : (k : Int) < 13 := by omega
  have q4 : (0 : Int) ≤ (k : Int) := by omega
  go_enter Tryz.func9, Tryz.ntmps9
  go_wp2
  go_ret
  exact ⟨rfl, rfl⟩
theorem wStarts_nil (w : World) : Calls Tryz.prog 8 #[.pointer none] w fun e w' => e = .returned (.int .i64 0) ∧ w' = w := by
  go_enter Tryz.func8, Tryz.ntmps8
  go_wp2
  go_ret
  exact ⟨rfl, rfl⟩
theorem wStarts_any (b : Nat) (st : Int) (w : World) (hc : w.cell? ⟨b, 43, none⟩ = some (.int .i64 st)) : Calls Tryz.prog 8 #[.pointer (some ⟨b, 0, none⟩)] w fun e w' => e = .returned (.int .i64 st) ∧ w' = w := by
  go_enter Tryz.func8, Tryz.ntmps8
  go_wp2
  go_ret
  exact ⟨rfl, rfl⟩
theorem wNet_nil (w : World) : Calls Tryz.prog 10 #[.pointer none] w fun e w' => e = .returned (.pointer none) ∧ w' = w := by
  go_enter Tryz.func10, Tryz.ntmps10
  go_wp2
  go_ret
  exact ⟨rfl, rfl⟩
theorem wArb_nil (w : World) : Calls Tryz.prog 11 #[.pointer none] w fun e w' => e = .returned (.pointer none) ∧ w' = w := by
  go_enter Tryz.func11, Tryz.ntmps11
  go_wp2
  go_ret
  exact ⟨rfl, rfl⟩
theorem wCopy_nil (w : World) : Calls Tryz.prog 12 #[.pointer none] w fun e w' => e = .returned (.pointer none) ∧ w' = w := by
  go_enter Tryz.func12, Tryz.ntmps12
  go_wp2
  go_ret
  exact ⟨rfl, rfl⟩
theorem netNew_ok (n : Int) (w : World) (h1 : 1 ≤ n) (h2 : n ≤ 65536) : Calls Tryz.prog 28 #[.int .i64 n] w (MadeE 101 #[.int .i64 n, .slice none 0 0] w) := by
  go_enter Tryz.func28, Tryz.ntmps28
  go_wp2
  go_ret2
  exact ⟨w.heap.size, rfl, Blk.new _ _ _, Nat.le_refl _, (Keep.refl _ _).alloc _⟩
theorem ended_no (b : Nat) (w : World) (hc : w.cell? ⟨b, 48, none⟩ = some (.bool false)) : Calls Tryz.prog 34 #[.pointer (some ⟨b, 0, none⟩)] w fun e w' => e = .returned (.bool false) ∧ w' = w := by
  go_enter Tryz.func34, Tryz.ntmps34
  go_wp2
  go_ret
  exact ⟨rfl, rfl⟩
end Go.Proofs.YtlfpefnlgiohbaaGreat
