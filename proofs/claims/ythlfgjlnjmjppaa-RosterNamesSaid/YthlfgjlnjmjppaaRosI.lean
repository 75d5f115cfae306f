/-
  Roster: coveyref03.IDs, coveyref07.Same: whether two lists are the same.
-/
import Derived.Test.YthlfgjlnjmjppaaRosP
import Derived.Test.YthlfgjlnjmjppaaEq
namespace Go.Proofs.Ythlfgjlnjmjppaa
open Go.RowKit

theorem gMem : Try.prog.eqGuardType Try.prog.depth 32 = false := by kernel_rfl
theorem eqi_ID (d : Nat) (a i b j : Int) (w : World) : (Op.equalIn (d + 2) 27 (.agg #[.int .i64 a, .int .i64 i]) (.agg #[.int .i64 b, .int .i64 j])).run Try.prog w = .ok (decide (a = b ∧ i = j)) w := by
  have u3 := Try.underlying3
  have a3 := Try.isAgg3
  have z3 := Try.sizeOf3
  have hS : Try.prog.underlying 27 = some (.struct (Try.prog.fieldsOf 27)) := by kernel_rfl
  have hp : Try.prog.stoodInHeld 27 = false := by kernel_rfl
  rw [show d + 2 = (d + 1) + 1 from rfl, run_equalIn_agg w (d + 1) 27 _ _ hS hp]
  simp only [Program.fieldsOf, Try.underlying27]
  go_simp
  by_cases h1 : a = b <;> by_cases h2 : i = j <;> simp [h1, h2]
theorem eqi_Mem (d : Nat) (x y : Mem) (w : World) : (Op.equalIn (d + 3) 32 (memV x) (memV y)).run Try.prog w = .ok (decide (x = y)) w := by
  obtain ⟨a, i, s, n⟩ := x
  obtain ⟨b, j, t, m⟩ := y
  have hI := fun W => eqi_ID d a i b j W
  have u3 := Try.underlying3
  have a3 := Try.isAgg3
  have z3 := Try.sizeOf3
  have u5 := Try.underlying5
  have a5 := Try.isAgg5
  have z5 := Try.sizeOf5
  have aI := Try.isAgg27
  have zI := Try.sizeOf27
  have hS : Try.prog.underlying 32 = some (.struct (Try.prog.fieldsOf 32)) := by kernel_rfl
  have hp : Try.prog.stoodInHeld 32 = false := by kernel_rfl
  rw [show d + 3 = (d + 2) + 1 from rfl, run_equalIn_agg w (d + 2) 32 _ _ hS hp]
  clear hS hp
  simp only [Program.fieldsOf, Try.underlying32]
  go_simp
  by_cases h1 : a = b <;> by_cases h2 : i = j <;> by_cases h3 : s = t <;> by_cases h4 : n = m <;> simp [h1, h2, h3, h4]
theorem neq_Mem (x y : Mem) (w : World) : (binOp .neq 32 (memV x) (memV y)).run Try.prog w = .ok (.bool (!decide (x = y))) w := by
  rw [run_neq_struct, show (10000 : Nat) = 9997 + 3 from rfl, eqi_Mem]; rfl

theorem take_eq_succ {α : Type} {l l' : List α} {k : Nat} (h : k < l.length) (h' : k < l'.length) (he : l.take k = l'.take k) (hk : l[k] = l'[k]) : l.take (k + 1) = l'.take (k + 1) := by
  rw [List.take_succ_eq_append_getElem h, List.take_succ_eq_append_getElem h', he, hk]
set_option maxHeartbeats 1000000 in
theorem same_ids (A A' : Option Addr) (n n' c c' : Nat) (l l' : List ID) (w : World) (h : RdI w A n l) (h' : RdI w A' n' l') (hn : n ≤ 1000000) (hn' : n' ≤ 1000000) :
    Calls Try.prog 31 #[.slice A n c, .slice A' n' c'] w (Tell (.bool (decide (l = l'))) w) := by
  have HL := Lib.hid h.1
  have HL' := Lib.hid h'.1
  by_cases hne : n = n'
  · subst hne
    have H := Lib.hid h
    have H' := Lib.hid h'
    clear h h' hn'
    go_enter Try.func31, Try.ntmps31
    go_wp2
    go_loopw [5] (fun i wr => ∃ k : Nat, k ≤ n ∧ i = .int .i64 (k : Int) ∧ Hid (l.take k = l'.take k) ∧ Hid (∃ q, wr = w.drewN q)) (fun i _ => n - (intOf i).toNat)
    case atStart => exact ⟨0, Nat.zero_le _, rfl, Lib.hid (by simp), Lib.hid ⟨0, rfl⟩⟩
    case round =>
      obtain ⟨k, hk, rfl, HT, HW⟩ := hrel
      obtain ⟨q, rfl⟩ := HW.out
      by_cases hlt : k < n
      · obtain ⟨g, off, rfl, p0, p1⟩ := H.out.at_ hlt
        obtain ⟨g', off', rfl, q0, q1⟩ := H'.out.at_ hlt
        have hkl : k < l.length := by rw [HL.out]; exact hlt
        have hkl' : k < l'.length := by rw [HL'.out]; exact hlt
        have hx : l[k] = l.getD k (0, 0) := by simp [List.getD, hkl]
        have hy : l'[k] = l'.getD k (0, 0) := by simp [List.getD, hkl']
        have HTS := Lib.hid (take_eq_succ hkl hkl' HT.out)
        rw [hx, hy] at HTS
        have HNE := Lib.hid (show l.getD k (0, 0) ≠ l'.getD k (0, 0) → decide (l = l') = false from fun hne => decide_eq_false (fun e => hne (by rw [e])))
        clear hx hy hkl hkl'
        generalize l.getD k (0, 0) = x at *
        generalize l'.getD k (0, 0) = y at *
        obtain ⟨a, i⟩ := x
        obtain ⟨b, j⟩ := y
        simp only at p0 p1 q0 q1
        have hkI : (k : Int) < (n : Int) := by omega
        have hkJ : (0 : Int) ≤ (k : Int) := by omega
        by_cases he : (a, i) = (b, j)
        · have HTS2 := Lib.hid (HTS.out he)
          have E := (fun W => by simpa [he] using neq_ID (a, i) (b, j) W : ∀ W, (binOp .neq 27 (idV (a, i)) (idV (b, j))).run Try.prog W = .ok (.bool false) W)
          have G := gID
          clear he
          go_wp2
          go_quiet (fail)
          go_wp2
          go_roundw
          case rel => exact ⟨k + 1, by omega, by go_num, HTS2, Lib.hid ⟨_, rfl⟩⟩
          case measure => simp [intOf]; omega
        · have HB := Lib.hid (HNE.out he)
          have E := (fun W => by simpa [he] using neq_ID (a, i) (b, j) W : ∀ W, (binOp .neq 27 (idV (a, i)) (idV (b, j))).run Try.prog W = .ok (.bool true) W)
          have G := gID
          clear he
          go_wp2
          go_quiet (fail)
          go_wp2
          go_ret
          exact ⟨ret_bool HB.out.symm, ((Keep.refl _ w).drewN _).drewN _⟩
      · obtain rfl : n = k := by omega
        have HB := Lib.hid (show decide (l = l') = true from decide_eq_true (by
          have := HT.out
          rwa [List.take_of_length_le (by rw [HL.out]; exact Nat.le_refl _), List.take_of_length_le (by rw [HL'.out]; exact Nat.le_refl _)] at this))
        go_wp2
        go_ret
        exact ⟨ret_bool HB.out.symm, (Keep.refl _ w).drewN _⟩
  · have HB := Lib.hid (show decide (l = l') = false from decide_eq_false (fun e => hne (by rw [← HL.out, ← HL'.out, e])))
    have hb : ((n : Int) != (n' : Int)) = true := by simp; omega
    clear hne h h'
    go_enter Try.func31, Try.ntmps31
    go_wp2
    go_ret
    exact ⟨ret_bool HB.out.symm, Keep.refl _ _⟩
set_option maxHeartbeats 1000000 in
theorem same_mems (A A' : Option Addr) (n n' c c' : Nat) (l l' : List Mem) (w : World) (h : RdMem w A n l) (h' : RdMem w A' n' l') (hn : n ≤ 1000000) (hn' : n' ≤ 1000000) :
    Calls Try.prog 30 #[.slice A n c, .slice A' n' c'] w (Tell (.bool (decide (l = l'))) w) := by
  have HL := Lib.hid h.1
  have HL' := Lib.hid h'.1
  by_cases hne : n = n'
  · subst hne
    have H := Lib.hid h
    have H' := Lib.hid h'
    clear h h' hn'
    go_enter Try.func30, Try.ntmps30
    go_wp2
    go_loopw [5] (fun i wr => ∃ k : Nat, k ≤ n ∧ i = .int .i64 (k : Int) ∧ Hid (l.take k = l'.take k) ∧ Hid (∃ q, wr = w.drewN q)) (fun i _ => n - (intOf i).toNat)
    case atStart => exact ⟨0, Nat.zero_le _, rfl, Lib.hid (by simp), Lib.hid ⟨0, rfl⟩⟩
    case round =>
      obtain ⟨k, hk, rfl, HT, HW⟩ := hrel
      obtain ⟨q, rfl⟩ := HW.out
      by_cases hlt : k < n
      · obtain ⟨g, off, rfl, p0, p1, p2, p3⟩ := H.out.at_ hlt
        obtain ⟨g', off', rfl, q0, q1, q2, q3⟩ := H'.out.at_ hlt
        have hkl : k < l.length := by rw [HL.out]; exact hlt
        have hkl' : k < l'.length := by rw [HL'.out]; exact hlt
        have hx : l[k] = l.getD k zeroMem := by simp [List.getD, hkl]
        have hy : l'[k] = l'.getD k zeroMem := by simp [List.getD, hkl']
        have HTS := Lib.hid (take_eq_succ hkl hkl' HT.out)
        rw [hx, hy] at HTS
        have HNE := Lib.hid (show l.getD k zeroMem ≠ l'.getD k zeroMem → decide (l = l') = false from fun hne => decide_eq_false (fun e => hne (by rw [e])))
        clear hx hy hkl hkl'
        generalize l.getD k zeroMem = x at *
        generalize l'.getD k zeroMem = y at *
        obtain ⟨a, i, s, m⟩ := x
        obtain ⟨b, j, t, r⟩ := y
        simp only at p0 p1 p2 p3 q0 q1 q2 q3
        have hkI : (k : Int) < (n : Int) := by omega
        have hkJ : (0 : Int) ≤ (k : Int) := by omega
        by_cases he : (⟨a, i, s, m⟩ : Mem) = ⟨b, j, t, r⟩
        · have HTS2 := Lib.hid (HTS.out he)
          have E := (fun W => by simpa [he] using neq_Mem ⟨a, i, s, m⟩ ⟨b, j, t, r⟩ W : ∀ W, (binOp .neq 32 (memV ⟨a, i, s, m⟩) (memV ⟨b, j, t, r⟩)).run Try.prog W = .ok (.bool false) W)
          have G := gMem
          clear he
          go_wp2
          go_quiet (fail)
          go_wp2
          go_roundw
          case rel => exact ⟨k + 1, by omega, by go_num, HTS2, Lib.hid ⟨_, rfl⟩⟩
          case measure => simp [intOf]; omega
        · have HB := Lib.hid (HNE.out he)
          have E := (fun W => by simpa [he] using neq_Mem ⟨a, i, s, m⟩ ⟨b, j, t, r⟩ W : ∀ W, (binOp .neq 32 (memV ⟨a, i, s, m⟩) (memV ⟨b, j, t, r⟩)).run Try.prog W = .ok (.bool true) W)
          have G := gMem
          clear he
          go_wp2
          go_quiet (fail)
          go_wp2
          go_ret
          exact ⟨ret_bool HB.out.symm, ((Keep.refl _ w).drewN _).drewN _⟩
      · obtain rfl : n = k := by omega
        have HB := Lib.hid (show decide (l = l') = true from decide_eq_true (by
          have := HT.out
          rwa [List.take_of_length_le (by rw [HL.out]; exact Nat.le_refl _), List.take_of_length_le (by rw [HL'.out]; exact Nat.le_refl _)] at this))
        go_wp2
        go_ret
        exact ⟨ret_bool HB.out.symm, (Keep.refl _ w).drewN _⟩
  · have HB := Lib.hid (show decide (l = l') = false from decide_eq_false (fun e => hne (by rw [← HL.out, ← HL'.out, e])))
    have hb : ((n : Int) != (n' : Int)) = true := by simp; omega
    clear hne h h'
    go_enter Try.func30, Try.ntmps30
    go_wp2
    go_ret
    exact ⟨ret_bool HB.out.symm, Keep.refl _ _⟩
end Go.Proofs.Ythlfgjlnjmjppaa
