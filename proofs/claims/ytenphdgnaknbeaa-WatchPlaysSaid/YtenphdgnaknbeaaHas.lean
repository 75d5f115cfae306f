/-
  slices.Index, slices.Contains at IDs; ident.Has.
-/
import Derived.Test.YtenphdgnaknbeaaEq
import Derived.Test.YtenphdgnaknbeaaSetP
namespace Go.Proofs.Ytenphdgnaknbeaa
open Go.RowKit

theorem not_mem_next {l : List ID} {k : Nat} {x : ID} (h : x ∉ l.take k) (hk : k < l.length) (hne : ¬ x = l.getD k (0, 0)) : x ∉ l.take (k + 1) := by
  rw [List.take_succ_eq_append_getElem hk, List.mem_append, List.mem_singleton]
  rintro (e | e)
  · exact h e
  · exact hne (by rw [e]; simp [List.getD, hk])
theorem mem_at {l : List ID} {k : Nat} {x : ID} (hk : k < l.length) (he : x = l.getD k (0, 0)) : x ∈ l := by
  rw [he]; simp [List.getD, hk]
set_option maxRecDepth 100000 in
set_option maxHeartbeats 1000000 in
theorem index_any (A : Option Addr) (n c : Nat) (l : List ID) (x : ID) (w : World) (h : RdI w A n l) (hn : n ≤ 9223372036854775807) :
    Calls Try.prog 52 #[.slice A n c, idV x] w (fun e w' => (∃ i : Int, e = .returned (.int .i64 i) ∧ (0 ≤ i ↔ x ∈ l)) ∧ Keep (fun _ => False) w w') := by
  obtain ⟨a, i⟩ := x
  have HL := Lib.hid h.1
  have HR := Lib.hid h
  clear h
  obtain ⟨W0, hW0⟩ : ∃ W0, w.alloc (.cells #[.int .i64 a, .int .i64 i] 33) = W0 := ⟨_, rfl⟩
  have hB : Blk W0 w.heap.size 33 #[.int .i64 a, .int .i64 i] := by rw [← hW0]; exact Blk.new _ _ _
  have hK : Keep (fun _ => False) w W0 := by rw [← hW0]; exact (Keep.refl _ w).alloc _
  have HB := Lib.hid hB
  have HK := Lib.hid hK
  clear hB hK
  go_enter Try.func52, Try.ntmps52
  go_wp2
  have HW0 := Lib.hid hW0
  clear hW0
  go_loopw [8] (fun j wr => ∃ k : Nat, k ≤ n ∧ j = .int .i64 (k : Int) ∧ Hid ((a, i) ∉ l.take k) ∧ Hid (Keep (fun _ => False) W0 wr)) (fun j _ => n - (intOf j).toNat)
  case atStart => exact ⟨0, by omega, rfl, Lib.hid (by simp), Lib.hid (Keep.refl _ _)⟩
  case round =>
    obtain ⟨k, hk, rfl, HN, HKr⟩ := hrel
    by_cases hlt : k < n
    · obtain ⟨g, off, hA, c0, c1⟩ := HR.out.at_ hlt
      have kk := keep0_trans _ _ _ HK.out HKr.out
      have q0 := kk.cell c0 (fun h => h)
      have q1 := kk.cell c1 (fun h => h)
      have b0 := HKr.out.cell (HB.out.cell 0) (fun h => h)
      have b1 := HKr.out.cell (HB.out.cell 1) (fun h => h)
      have HX := Lib.hid (fun he => not_mem_next (x := (a, i)) HN.out (by rw [HL.out]; exact hlt) he)
      have HY := Lib.hid (fun he => mem_at (x := (a, i)) (l := l) (k := k) (by rw [HL.out]; exact hlt) he)
      subst hA
      clear c0 c1 kk
      generalize l.getD k (0, 0) = y at q0 q1 HX HY
      obtain ⟨b, j⟩ := y
      simp only at q0 q1
      have hkI : (k : Int) < (n : Int) := by omega
      have hkJ : (0 : Int) ≤ (k : Int) := by omega
      have e2 : IntKind.i64.wrap (k : Int) = (k : Int) := IntWalk.i64_in _ (by omega)
      have G := gID
      by_cases he : (a, i) = (b, j)
      · have E := (fun W => by simpa [he] using eql_ID (a, i) (b, j) W : ∀ W, (binOp .eql 33 (idV (a, i)) (idV (b, j))).run Try.prog W = .ok (.bool true) W)
        have HM := Lib.hid (HY.out he)
        clear he HX HY
        go_wp2
        go_quiet (fail)
        go_wp2
        go_ret
        exact ⟨⟨(k : Int), rfl, ⟨fun _ => HM.out, fun _ => hkJ⟩⟩, keep0_trans _ _ _ HK.out (HKr.out.drewN _)⟩
      · have E := (fun W => by simpa [he] using eql_ID (a, i) (b, j) W : ∀ W, (binOp .eql 33 (idV (a, i)) (idV (b, j))).run Try.prog W = .ok (.bool false) W)
        have HM := Lib.hid (HX.out he)
        clear he HX HY
        go_wp2
        go_quiet (fail)
        go_wp2
        go_roundw
        case rel => exact ⟨k + 1, by omega, by go_num, HM, Lib.hid (HKr.out.drewN _)⟩
        case measure => simp [intOf]; omega
    · obtain rfl : k = n := by omega
      have HM : Hid ((a, i) ∉ l) := Lib.hid (by have := HN.out; rwa [List.take_of_length_le (by rw [HL.out]; exact Nat.le_refl _)] at this)
      go_wp2
      go_ret
      exact ⟨⟨-1, rfl, ⟨fun h => by omega, fun h => absurd h HM.out⟩⟩, keep0_trans _ _ _ HK.out HKr.out⟩
set_option maxHeartbeats 1000000 in
theorem contains_any (A : Option Addr) (n c : Nat) (l : List ID) (x : ID) (w : World) (h : RdI w A n l) (hn : n ≤ 9223372036854775807) :
    Calls Try.prog 45 #[.slice A n c, idV x] w (Tell (.bool (decide (x ∈ l))) w) := by
  have HR := Lib.hid h
  clear h
  obtain ⟨a, i⟩ := x
  go_enter Try.func45, Try.ntmps45
  go_wp2_with fail
  refine (index_any A n c l (a, i) _ (HR.out.keep0 ((Keep.refl _ w).alloc _)) hn).mono ?_
  rintro e w1 ⟨⟨r, rfl, hr⟩, hk⟩
  have HK := Lib.hid hk
  have HI := Lib.hid hr
  clear hk hr
  by_cases h0 : 0 ≤ r
  · go_wp2
    go_ret
    exact ⟨ret_bool (by simp [HI.out.1 h0]), keep0_trans _ _ _ ((Keep.refl _ w).alloc _) HK.out⟩
  · go_wp2
    go_ret
    exact ⟨ret_bool (by simpa using HI.out), keep0_trans _ _ _ ((Keep.refl _ w).alloc _) HK.out⟩
set_option maxHeartbeats 1000000 in
theorem has_any (A : Option Addr) (n c : Nat) (l : List ID) (x : ID) (w : World) (h : RdI w A n l) (hn : n ≤ 9223372036854775807) :
    Calls Try.prog 28 #[.slice A n c, idV x] w (Tell (.bool (decide (x ∈ l))) w) := by
  have HR := Lib.hid h
  clear h
  obtain ⟨a, i⟩ := x
  go_enter Try.func28, Try.ntmps28
  go_wp2_with fail
  refine (contains_any A n c l (a, i) _ (HR.out.keep0 ((Keep.refl _ w).alloc _)) hn).mono ?_
  rintro e w1 ⟨rfl, hk⟩
  have HK := Lib.hid hk
  clear hk
  go_wp2
  go_ret
  exact ⟨rfl, keep0_trans _ _ _ ((Keep.refl _ w).alloc _) HK.out⟩
end Go.Proofs.Ytenphdgnaknbeaa
