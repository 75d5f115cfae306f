/-
  Contracts of package entry: New, Answered, Ticks, Copy.
-/
import Derived.Test.YtlnflbobcbnhhaaEntA
import Derived.Test.YtlnflbobcbnhhaaClone
import Derived.Deep.RegionHeld3
import Derived.Deep.QuietTactic
import Derived.BigQuiet
import Derived.BigRegion
namespace Go.Proofs.Ytlnflbobcbnhhaa
open Go.RowKit

structure E where
  seeds : List Int
  retry : Int
  own : Int
  ticks : Int
  ans : Bool

def EHas (w : World) (b : Nat) (row : Option Nat) (x : E) : Prop :=
  ∃ A n c, Blk w b 47 #[.slice A n c, .int .i64 x.retry, .int .i64 x.own, .int .i64 x.ticks, .bool x.ans] ∧ Sl w 3 row A n c (x.seeds.map (.int .i64))

/-- may it be an ID? -/
def mayID (a i : Int) : Bool := decide (1 ≤ a ∧ a ≤ 12 ∧ 1 ≤ i ∧ i ≤ 1048576)

set_option maxHeartbeats 400000 in
theorem may_any (a i : Int) (w : World) : Calls Try.prog 11 #[.agg #[.int .i64 a, .int .i64 i]] w fun e w' => e = .returned (.bool (mayID a i)) ∧ w' = w.alloc (.cells #[.int .i64 a, .int .i64 i] 26) := by
  go_enter Try.func11, Try.ntmps11
  go_wp2
  all_goals
    go_ret
    refine ⟨ret_bool ?_, rfl⟩
    unfold mayID
    rw [Bool.eq_iff_iff]
    simp
    omega

/-- a configuration, as a value: its seeds, its retry, and whatever else -/
abbrev cfgV (s v1 v2 v3 v4 : Value) (retry : Int) (v6 v7 v8 v9 v10 v11 v12 v13 v14 v15 v16 : Value) : Value :=
  .agg #[s, v1, v2, v3, v4, .int .i64 retry, v6, v7, v8, v9, v10, v11, v12, v13, v14, v15, v16]

set_option maxRecDepth 100000 in
set_option maxHeartbeats 1000000 in
theorem new_bad (s v1 v2 v3 v4 : Value) (retry : Int) (v6 v7 v8 v9 v10 v11 v12 v13 v14 v15 v16 : Value) (a i : Int) (w : World) (h : ¬ (1 ≤ retry ∧ retry ≤ 4096 ∧ mayID a i = true)) :
    Calls Try.prog 9 #[cfgV s v1 v2 v3 v4 retry v6 v7 v8 v9 v10 v11 v12 v13 v14 v15 v16, .agg #[.int .i64 a, .int .i64 i]] w fun e w' => e = .returned (.tuple #[.pointer none, .int .i64 1]) ∧ Below w.heap.size w w' := by
  rcases (show retry < 1 ∨ (1 ≤ retry ∧ 4096 < retry) ∨ (1 ≤ retry ∧ retry ≤ 4096 ∧ mayID a i = false) by
    by_cases h1 : retry < 1
    · exact .inl h1
    · by_cases h2 : 4096 < retry
      · exact .inr (.inl ⟨by omega, h2⟩)
      · refine .inr (.inr ⟨by omega, by omega, ?_⟩)
        cases hm : mayID a i with
        | false => rfl
        | true => exact absurd ⟨by omega, by omega, hm⟩ h) with h1 | ⟨h1, h2⟩ | ⟨h1, h2, h3⟩
  all_goals clear h
  · go_enter Try.func9, Try.ntmps9
    go_wp2
    go_ret2
    exact ⟨rfl, ((Below.refl _ _).alloc (Nat.le_refl _) _).alloc (by simp) _⟩
  · go_enter Try.func9, Try.ntmps9
    go_wp2
    go_ret2
    exact ⟨rfl, ((Below.refl _ _).alloc (Nat.le_refl _) _).alloc (by simp) _⟩
  · go_enter Try.func9, Try.ntmps9
    go_wp2_with fail
    refine (may_any a i _).mono ?_
    rw [h3]
    rintro e w' ⟨rfl, rfl⟩
    go_wp2
    go_ret2
    exact ⟨rfl, (((Below.refl _ _).alloc (Nat.le_refl _) _).alloc (by simp) _).alloc (by simp; omega) _⟩

/-- New hands back an entry in new memory. -/
def Made (x : E) (w : World) (e : Ending) (w' : World) : Prop :=
  ∃ b row, e = .returned (.tuple #[.pointer (some ⟨b, 0, none⟩), .int .i64 0]) ∧ EHas w' b row x ∧ w.heap.size ≤ b ∧ (∀ g, row = some g → w.heap.size ≤ g) ∧ Keep (fun _ => False) w w'

set_option maxRecDepth 100000 in
set_option maxHeartbeats 1000000 in
theorem new_ok {A : Option Addr} {n c : Nat} (seeds : List Int) (v1 v2 v3 v4 : Value) (retry : Int) (v6 v7 v8 v9 v10 v11 v12 v13 v14 v15 v16 : Value) (a i : Int) (w : World) (h1 : 1 ≤ retry) (h2 : retry ≤ 4096) (h3 : mayID a i = true)
    (hs : Rd w A n (seeds.map (.int .i64))) (hn : n ≤ 1000000) :
    Calls Try.prog 9 #[cfgV (.slice A n c) v1 v2 v3 v4 retry v6 v7 v8 v9 v10 v11 v12 v13 v14 v15 v16, .agg #[.int .i64 a, .int .i64 i]] w (Made ⟨seeds, retry, a, 0, false⟩ w) := by
  have HS := Lib.hid hs
  clear hs
  go_enter Try.func9, Try.ntmps9
  go_wp2_with fail
  refine (may_any a i _).mono ?_
  rw [h3]
  rintro e w' ⟨rfl, rfl⟩
  go_wp2
  generalize hW : ((w.alloc _).alloc _).alloc _ = W
  have b0 : Blk W w.heap.size 24 #[.slice A n c, v1, v2, v3, v4, .int .i64 retry, v6, v7, v8, v9, v10, v11, v12, v13, v14, v15, v16] := by subst hW; exact ((Blk.new _ _ _).alloc _).alloc _
  have b1 : Blk W (w.heap.size + 1) 26 #[.int .i64 a, .int .i64 i] := by
    subst hW
    have h := (Blk.new (w.alloc (.cells #[.slice A n c, v1, v2, v3, v4, .int .i64 retry, v6, v7, v8, v9, v10, v11, v12, v13, v14, v15, v16] 24)) 26 #[.int .i64 a, .int .i64 i]).alloc (.cells #[.int .i64 a, .int .i64 i] 26)
    rw [World.size_alloc] at h
    exact h
  have p0 := b0.cell 0
  have p5 := b0.cell 5
  have q0 := b1.cell 0
  simp at p0 p5 q0
  clear b0 b1
  have hk : Keep (fun _ => False) w W := by subst hW; exact (((Keep.refl (fun _ => False) w).alloc _).alloc _).alloc _
  have hsz : W.heap.size = w.heap.size + 3 := by subst hW; simp
  clear hW
  have HSz := Lib.hid hsz
  have HK := Lib.hid hk
  have HSW := Lib.hid (HS.out.keep hk (fun _ _ h => h))
  clear hsz hk
  go_region_held3 (fun w' => w'.cell? ⟨w.heap.size, 0, none⟩ = some (.slice A n c) ∧ w'.cell? ⟨w.heap.size, 5, none⟩ = some (.int .i64 retry) ∧ w'.cell? ⟨w.heap.size + 1, 0, none⟩ = some (.int .i64 a))
    (first | go_keep | (refine ⟨?_, ?_, ?_⟩ <;> first | exact hk1.cell p0 (fun h => h) | exact hk1.cell p5 (fun h => h) | exact hk1.cell q0 (fun h => h)))
    ((go_at_call 18; refine (clone_any _ (HSW.out.keep ((Keep.refl (fun _ => False) W).drew) (fun _ _ h => h)) (by omega)).mono ?_; rintro e w1 ⟨row1, A1, c1, rfl, hs1, hk1, hr1⟩))
  go_wp2
  go_ret2
  have hk2 : Keep (fun _ => False) w w1 := HK.out.trans ((Keep.refl (fun _ => False) W).drew.trans (hk1.mono fun _ _ h => .inl h) |>.mono fun _ _ h => .inl h)
  refine ⟨w1.heap.size, row1, rfl, ⟨A1, n, c1, Blk.new _ _ _, hs1.keep ((Keep.refl (fun _ => False) w1).alloc _) (fun _ _ h => h)⟩, hk2.size, fun g hg => ?_, hk2.alloc _⟩
  have h9 := hr1 g hg
  have h8 := HSz.out
  simp at h9
  omega

set_option maxHeartbeats 400000 in
theorem answered_any {b : Nat} {row : Option Nat} {x : E} (w : World) (h : EHas w b row x) :
    Calls Try.prog 12 #[.pointer (some ⟨b, 0, none⟩)] w fun e w' => e = .returned (.tuple #[]) ∧ EHas w' b row { x with ans := true } ∧ Keep (fun k => k = b) w w' := by
  obtain ⟨A, n, c, hb, hs⟩ := h
  have hf := hb.frozen 4
  have hc := hb.cell 4
  simp at hc
  have HB := Lib.hid hb
  have HS := Lib.hid hs
  clear hb hs
  go_enter Try.func12, Try.ntmps12
  go_wp2
  go_end0
  have hk : Keep (fun k => k = b) w (w.setCell ⟨b, 4, none⟩ (.bool true)) := (Keep.refl (fun k => k = b) w).setCell (fun _ => rfl) _
  refine ⟨rfl, ⟨A, n, c, by simpa using HB.out.set_ 4 (.bool true), HS.out.keep hk ?_⟩, hk⟩
  intro g hg e
  subst e
  rcases HS.out.2.2.2 with ⟨h1, _⟩ | ⟨g', off, cur, h1, _, hbb, _⟩
  · rw [h1] at hg; cases hg
  · rw [hg] at h1; injection h1 with h1; subst h1
    exact Blk.ne_ HB.out hbb (by decide) rfl

set_option maxHeartbeats 400000 in
theorem ticks_any {b : Nat} {row : Option Nat} {x : E} (w : World) (h : EHas w b row x) :
    Calls Try.prog 14 #[.pointer (some ⟨b, 0, none⟩)] w fun e w' => e = .returned (.int .i64 x.ticks) ∧ w = w' := by
  obtain ⟨A, n, c, hb, hs⟩ := h
  have hc := hb.cell 3
  simp at hc
  clear hb hs
  go_enter Try.func14, Try.ntmps14
  go_wp2
  go_ret
  exact ⟨rfl, rfl⟩
theorem EHas.row_ne {w : World} {b : Nat} {row : Option Nat} {x : E} (h : EHas w b row x) : ∀ g, row = some g → g ≠ b := by
  obtain ⟨A, n, c, hb, hs⟩ := h
  rintro g hg rfl
  rcases hs.2.2.2 with ⟨h1, _⟩ | ⟨g', off, cur, h1, _, hbb, _⟩
  · rw [h1] at hg; cases hg
  · rw [hg] at h1; injection h1 with h1; subst h1
    exact Blk.ne_ hb hbb (by decide) rfl
end Go.Proofs.Ytlnflbobcbnhhaa
