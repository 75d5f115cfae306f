/-
  slices.Grow of nil, slices.Concat of two, at IDs.
-/
import Derived.Test.YtenphdgnaknbeaaID
import Derived.Lib.AppendZerosOnto
import Derived.Lib.AppendZeros
namespace Go.Proofs.Ytenphdgnaknbeaa
open Go.RowKit

theorem infoI : (Try.prog.info? 33).map (fun i => (i.zero, i.size, i.bytes)) = some (some (.agg #[.int .i64 0, .int .i64 0]), 2, 16) := by kernel_rfl
/-- new memory for n elements, none laid -/
def FreshI (w : World) (n : Nat) (xs : List Value) (e : Ending) (w' : World) : Prop := ∃ row A c, e = .returned (.slice A n c) ∧ SlK w' 33 2 row A n c xs ∧ (∀ g, row = some g → w.heap.size ≤ g) ∧ Keep (fun _ => False) w w'
set_option maxRecDepth 100000 in
set_option maxHeartbeats 1000000 in
theorem growI_any (n : Nat) (hn : n ≤ 1000000000) (w : World) :
    Calls Try.prog 57 #[.slice none 0 0, .int .i64 (n : Int)] w (FreshI w 0 []) := by
  by_cases h0 : n = 0
  · subst h0
    go_enter Try.func57, Try.ntmps57
    go_wp2
    go_ret
    exact ⟨none, none, 0, rfl, SlK.nil_ _ _ _, (fun g hg => by cases hg), Keep.refl _ _⟩
  · obtain ⟨i0, hi, hz0, hz1, hz2⟩ := info_parts infoI
    have hrz : ∀ ty, (Builtin.append_ #[30, 3] ty #[.slice none 0 0, .int .i64 (n : Int)]).run Try.prog w =
        .ok (.slice (some ⟨w.heap.size, 0, none⟩) n (grownCap w n 0 33)) (w.drew.alloc (.cells (Builtin.zeroCells #[.int .i64 0, .int .i64 0] n ++ Builtin.zeroCells #[.int .i64 0, .int .i64 0] (grownCap w n 0 33 - n)) 33)) := fun ty => by
      have h := Lib.run_append_grow_zeros (P := Try.prog) w 30 3 ty 33 i0 _ .i64 .i64 Try.underlying30 Try.underlying3 hi hz0 none 0 0 [] (run_firstCells_none w.drew i0.size 0 0 0) n (by omega) (by omega) (by omega) (by omega) (by rw [hz2]; omega)
        (by rw [Nat.zero_add]; exact growslice_fits (by omega) (by rw [hz2]; omega))
      simpa [Value.cells] using h
    have hG := grownCap_ge w n 0 33
    have hG2 := grownCap_le_maxLen w n 0 33 (by unfold maxLen; omega)
    have hsz : (Builtin.zeroCells #[.int .i64 0, .int .i64 0] n ++ Builtin.zeroCells #[.int .i64 0, .int .i64 0] (grownCap w n 0 33 - n)).size = grownCap w n 0 33 * 2 := by
      simp only [Array.size_append, size_zeroCells]
      simp
      omega
    have HR := Lib.hid hrz
    have HSZ := Lib.hid hsz
    clear hrz hsz hi hz0 hz1 hz2
    generalize grownCap w n 0 33 = G at *
    have hgt : (n : Int) > 0 := by omega
    unfold maxLen at hG2
    go_enter Try.func57, Try.ntmps57
    go_wp2_with (at_builtin; refine Lib.wpList_append_run _ rfl _ _ _ _ rfl _ _ rfl rfl _ _ (HR.out _) ?_)
    all_goals
      go_ret
      refine ⟨some w.heap.size, some ⟨w.heap.size, 0, none⟩, G, rfl, ⟨by simp, by omega, by unfold maxLen; omega, .inr ⟨_, 0, _, rfl, rfl, Blk.new_ (by simp) _ _, by rw [HSZ.out]; omega, (fun j hj => by simp at hj)⟩⟩, (fun g hg => by injection hg with hg; omega), ?_⟩
      exact (Keep.refl _ w).drew.alloc _
set_option maxRecDepth 100000 in
set_option maxHeartbeats 2000000 in
theorem concatI_any (g : Nat) (A B : Option Addr) (n m c d : Nat) (xs ys : List Value) (w : World) (c0 : w.cell? ⟨g, 0, none⟩ = some (.slice A n c)) (c1 : w.cell? ⟨g, 1, none⟩ = some (.slice B m d)) (hx : RdK w 2 A n xs) (hy : RdK w 2 B m ys)
    (x1 : ∀ u ∈ xs, u.oneCell' = true) (y1 : ∀ u ∈ ys, u.oneCell' = true) (hn : n ≤ 1000000) (hm : m ≤ 1000000) :
    Calls Try.prog 54 #[.slice (some ⟨g, 0, none⟩) 2 2] w (FreshI w (n + m) (xs ++ ys)) := by
  obtain ⟨i0, hi, hz0, hz1, hz2⟩ := info_parts infoI
  have HI := Lib.hid hi
  have HZ0 := Lib.hid hz0
  have HZ1 := Lib.hid hz1
  have HZ2 := Lib.hid hz2
  have HX := Lib.hid hx
  have HY := Lib.hid hy
  have HX1 := Lib.hid x1
  have HY1 := Lib.hid y1
  have C0 := Lib.hid c0
  have C1 := Lib.hid c1
  clear hi hz0 hz1 hz2 hx hy x1 y1
  go_enter Try.func54, Try.ntmps54
  go_wp2_with fail
  go_loop [11, 3] (fun i v => ∃ k : Nat, k ≤ 2 ∧ i = .int .i64 (k : Int) ∧ v = .int .i64 (if k = 0 then (0 : Int) else if k = 1 then (n : Int) else ((n + m : Nat) : Int))) (fun i _ => 2 - (intOf i).toNat)
  case atStart => exact ⟨0, by omega, rfl, rfl⟩
  case round =>
    obtain ⟨k, hk, rfl, rfl⟩ := hrel
    rcases (by omega : k = 0 ∨ k = 1 ∨ k = 2) with rfl | rfl | rfl
    · simp only [if_true]
      go_wp2
      go_round
      case rel => exact ⟨1, by omega, by go_num, by simp⟩
      case measure => simp [intOf]
    · simp only [if_true, Nat.one_ne_zero, if_false]
      go_wp2
      go_round
      case rel => exact ⟨2, by omega, by go_num, by simp⟩
      case measure => simp [intOf]
    · simp only [Nat.reduceEqDiff, if_false]
      go_wp2_with fail
      refine (growI_any (n + m) (by omega) w).mono ?_
      rintro e w1 ⟨row1, A1, cap1, rfl, hs1, hr1, hk1⟩
      have C0' := Lib.hid (hk1.cell C0.out (fun h => h))
      have C1' := Lib.hid (hk1.cell C1.out (fun h => h))
      have HS1 := Lib.hid hs1
      have HR1 := Lib.hid hr1
      have HK1 := Lib.hid hk1
      clear hs1 hr1 hk1 c0 c1
      go_wp2_with fail
      go_loopw [27, 6] (fun i v wr => ∃ (k : Nat) (row : Option Nat) (A' : Option Addr) (c' : Nat), k ≤ 2 ∧ i = .int .i64 (k : Int) ∧ v = .slice A' (if k = 0 then 0 else if k = 1 then n else n + m) c' ∧
        Hid (SlK wr 33 2 row A' (if k = 0 then 0 else if k = 1 then n else n + m) c' (if k = 0 then [] else if k = 1 then xs else xs ++ ys)) ∧ Hid (∀ g, row = some g → w.heap.size ≤ g) ∧ Hid (Keep (fun _ => False) w wr)) (fun i _ _ => 2 - (intOf i).toNat)
      case atStart => exact ⟨0, row1, A1, cap1, by omega, rfl, by simp, Lib.hid (by simpa using HS1.out), Lib.hid HR1.out, Lib.hid HK1.out⟩
      case round =>
        obtain ⟨k, row, A', c', hk, rfl, rfl, HS, HR, HK⟩ := hrel
        rcases (by omega : k = 0 ∨ k = 1 ∨ k = 2) with rfl | rfl | rfl
        · simp only [if_true] at HS ⊢
          have q0 := HK.out.cell C0.out (fun h => h)
          go_wp2_with (at_builtin; refine wpList_append_slK rfl _ _ _ rfl i0 _ 16 Try.underlying30 HI.out HZ0.out HZ1.out HZ2.out rfl (by omega) HS.out rfl rfl (HX.out.keep0 HK.out) HX1.out (by unfold maxLen; omega) (by omega) ?_; intro row2 A2 c2 w2 hs2 hr2)
          have hk2 : Keep (fun _ => False) w w2 := by
            rcases hr2 with ⟨_, _, _, _, e⟩ | hg
            · rw [e]; exact HK.out
            · exact hg.keep0 HK.out HR.out
          have hw2 : ∀ g, row2 = some g → w.heap.size ≤ g := by
            rcases hr2 with ⟨_, e, _, _, _⟩ | hg
            · rw [e]; exact HR.out
            · exact hg.own HK.out.size HR.out
          have HS2 := Lib.hid hs2
          have HK2 := Lib.hid hk2
          have HW2 := Lib.hid hw2
          clear hs2 hk2 hw2 hr2 q0
          go_wp2
          go_roundw
          case rel => exact ⟨1, row2, A2, c2, by omega, by go_num, by simp, Lib.hid (by simpa using HS2.out), Lib.hid HW2.out, Lib.hid HK2.out⟩
          case measure => simp [intOf]
        · simp only [if_true, Nat.one_ne_zero, if_false] at HS ⊢
          have q1 := HK.out.cell C1.out (fun h => h)
          go_wp2_with (at_builtin; refine wpList_append_slK rfl _ _ _ rfl i0 _ 16 Try.underlying30 HI.out HZ0.out HZ1.out HZ2.out rfl (by omega) HS.out rfl rfl (HY.out.keep0 HK.out) HY1.out (by unfold maxLen; omega) (by omega) ?_; intro row2 A2 c2 w2 hs2 hr2)
          have hk2 : Keep (fun _ => False) w w2 := by
            rcases hr2 with ⟨_, _, _, _, e⟩ | hg
            · rw [e]; exact HK.out
            · exact hg.keep0 HK.out HR.out
          have hw2 : ∀ g, row2 = some g → w.heap.size ≤ g := by
            rcases hr2 with ⟨_, e, _, _, _⟩ | hg
            · rw [e]; exact HR.out
            · exact hg.own HK.out.size HR.out
          have HS2 := Lib.hid hs2
          have HK2 := Lib.hid hk2
          have HW2 := Lib.hid hw2
          clear hs2 hk2 hw2 hr2 q1
          go_wp2
          go_roundw
          case rel => exact ⟨2, row2, A2, c2, by omega, by go_num, by simp, Lib.hid (by simpa using HS2.out), Lib.hid HW2.out, Lib.hid HK2.out⟩
          case measure => simp [intOf]
        · simp only [Nat.reduceEqDiff, if_false] at HS ⊢
          go_wp2
          go_ret
          exact ⟨row, A', c', rfl, HS.out, HR.out, HK.out⟩
end Go.Proofs.Ytenphdgnaknbeaa
