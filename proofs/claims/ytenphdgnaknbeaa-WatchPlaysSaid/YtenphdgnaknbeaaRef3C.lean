/-
  The reference's Set, Put, Del, Join, Same at IDs.
-/
import Derived.Test.YtenphdgnaknbeaaRef3B
namespace Go.Proofs.Ytenphdgnaknbeaa
open Go.RowKit
attribute [local irreducible] kAll
attribute [local go_sem] kQuiet kQuietUpon

theorem ISl.nil_ (w : World) : ISl w none 0 0 [] := ⟨RdI.none_ _ _, Nat.le_refl _, by simp [maxLen], .inl rfl⟩
theorem set_take {l : List ID} {k : Nat} (hk : k < l.length) : putR (setM (l.take k)) (l.getD k (0, 0)) = setM (l.take (k + 1)) := by
  rw [putR_set (setM_ris _), List.take_succ_eq_append_getElem hk]
  apply setM_ext
  intro x
  simp only [List.mem_append, setM_mem, List.getD, List.getElem?_eq_getElem hk, Option.getD_some]
theorem setM_len_take (l : List ID) (k : Nat) : (setM (l.take k)).length ≤ k := Nat.le_trans (setM_len _) (by rw [List.length_take]; omega)
set_option maxRecDepth 100000 in
set_option maxHeartbeats 2000000 in
theorem setR_any (A : Option Addr) (n c : Nat) (l : List ID) (w : World) (h : RdI w A n l) (hn : n ≤ 1000000) :
    Calls Try.prog 32 #[.slice A n c] w (GotI (setM l) w) := by
  have HR := Lib.hid h
  have HL := Lib.hid h.1
  clear h
  go_enter Try.func32, Try.ntmps32
  go_wp2
  go_loopw [4, 3] (fun j v wr => ∃ (k : Nat) (A1 : Option Addr) (n1 c1 : Nat), k ≤ n ∧ j = .int .i64 (k : Int) ∧ v = .slice A1 n1 c1 ∧ Hid (ISl wr A1 n1 c1 (setM (l.take k))) ∧ Hid (Keep (fun _ => False) w wr)) (fun j _ _ => n - (intOf j).toNat)
  case atStart => exact ⟨0, none, 0, 0, by omega, rfl, rfl, Lib.hid (by rw [List.take_zero, setM_nil]; exact ISl.nil_ _), Lib.hid (Keep.refl _ _)⟩
  case round =>
    obtain ⟨k, A1, n1, c1, hk, rfl, rfl, HS, HK⟩ := hrel
    by_cases hlt : k < n
    · obtain ⟨g, off, hA, c0, c1'⟩ := HR.out.at_ hlt
      have q0 := HK.out.cell c0 (fun h => h)
      have q1 := HK.out.cell c1' (fun h => h)
      have HX := Lib.hid (set_take (l := l) (k := k) (by rw [HL.out]; exact hlt))
      subst hA
      clear c0 c1'
      generalize l.getD k (0, 0) = x at q0 q1 HX
      obtain ⟨a, i⟩ := x
      simp only at q0 q1
      have hkI : (k : Int) < (n : Int) := by omega
      have hkJ : (0 : Int) ≤ (k : Int) := by omega
      have e2 : IntKind.i64.wrap (k : Int) = (k : Int) := IntWalk.i64_in _ (by omega)
      have hn1 : n1 ≤ 1000000 := by have := HS.out.1.1; have := setM_len_take l k; omega
      go_wp2_with fail
      refine (putR_any A1 n1 c1 _ (a, i) _ HS.out (setM_ris _) hn1).mono ?_
      rintro e w1 ⟨A2, n2, c2, rfl, hs, hk1⟩
      have HS2 := Lib.hid hs
      have HK2 := Lib.hid (keep0_trans _ _ _ HK.out hk1)
      clear hs hk1
      go_wp2
      go_roundw
      case rel => exact ⟨k + 1, A2, n2, c2, by omega, by go_num, rfl, Lib.hid (by rw [← HX.out]; exact HS2.out), HK2⟩
      case measure => simp [intOf]; omega
    · obtain rfl : k = n := by omega
      have HM : Hid (ISl wr A1 n1 c1 (setM l)) := Lib.hid (by have := HS.out; rwa [List.take_of_length_le (by rw [HL.out]; exact Nat.le_refl _)] at this)
      go_wp2
      go_ret
      exact ⟨_, _, _, rfl, HM.out, HK.out⟩
theorem RdI.go {w w' : World} {A : Option Addr} {n : Nat} {l : List ID} (h : RdI w A n l) (hk : Keep (fun _ => False) w w') : RdI w' A n l := h.keep0 hk
/-- l without x -/
def delM (l : List ID) (x : ID) : List ID := setM (l.filter (fun y => !decide (y = x)))
theorem del_take {l : List ID} {k : Nat} {x : ID} (hk : k < l.length) : (¬ l.getD k (0, 0) = x → putR (delM (l.take k) x) (l.getD k (0, 0)) = delM (l.take (k + 1)) x) ∧ (l.getD k (0, 0) = x → delM (l.take k) x = delM (l.take (k + 1)) x) := by
  have e : l.getD k (0, 0) = l[k] := by simp [List.getD, hk]
  unfold delM
  rw [List.take_succ_eq_append_getElem hk, e]
  constructor
  · intro h
    rw [putR_set (setM_ris _)]
    apply setM_ext
    intro y
    simp only [List.mem_append, setM_mem, List.filter_append, List.filter_cons, List.filter_nil, h, decide_false, Bool.not_false, if_true]
  · intro h
    rw [List.filter_append]
    simp [h]
theorem delM_len_take (l : List ID) (x : ID) (k : Nat) : (delM (l.take k) x).length ≤ k := Nat.le_trans (setM_len _) (Nat.le_trans (List.length_filter_le _ _) (by rw [List.length_take]; omega))
set_option maxRecDepth 100000 in
set_option maxHeartbeats 2000000 in
theorem delR_any (A : Option Addr) (n c : Nat) (l : List ID) (x : ID) (w : World) (h : RdI w A n l) (hn : n ≤ 1000000) :
    Calls Try.prog 23 #[.slice A n c, idV x] w (GotI (delM l x) w) := by
  obtain ⟨a, i⟩ := x
  have HR := Lib.hid h
  have HL := Lib.hid h.1
  clear h
  obtain ⟨W0, hW0⟩ : ∃ W0, w.alloc (.cells #[.int .i64 a, .int .i64 i] 33) = W0 := ⟨_, rfl⟩
  have hB : Blk W0 w.heap.size 33 #[.int .i64 a, .int .i64 i] := by rw [← hW0]; exact Blk.new _ _ _
  have hK : Keep (fun _ => False) w W0 := by rw [← hW0]; exact (Keep.refl _ w).alloc _
  have HB := Lib.hid hB
  have HK0 := Lib.hid hK
  clear hB hK
  go_enter Try.func23, Try.ntmps23
  go_wp2
  have HW0 := Lib.hid hW0
  clear hW0
  go_loopw [6, 5] (fun j v wr => ∃ (k : Nat) (A1 : Option Addr) (n1 c1 : Nat), k ≤ n ∧ j = .int .i64 (k : Int) ∧ v = .slice A1 n1 c1 ∧ Hid (ISl wr A1 n1 c1 (delM (l.take k) (a, i))) ∧ Hid (Keep (fun _ => False) W0 wr)) (fun j _ _ => n - (intOf j).toNat)
  case atStart => exact ⟨0, none, 0, 0, by omega, rfl, rfl, Lib.hid (by unfold delM; rw [List.take_zero, List.filter_nil, setM_nil]; exact ISl.nil_ _), Lib.hid (Keep.refl _ _)⟩
  case round =>
    obtain ⟨k, A1, n1, c1, hk, rfl, rfl, HS, HKr⟩ := hrel
    have HK := Lib.hid (keep0_trans _ _ _ HK0.out HKr.out)
    by_cases hlt : k < n
    · obtain ⟨g, off, hA, c0, c1'⟩ := HR.out.at_ hlt
      have q0 := HK.out.cell c0 (fun h => h)
      have q1 := HK.out.cell c1' (fun h => h)
      have b0 := HKr.out.cell (HB.out.cell 0) (fun h => h)
      have b1 := HKr.out.cell (HB.out.cell 1) (fun h => h)
      have HX := Lib.hid (del_take (l := l) (k := k) (x := (a, i)) (by rw [HL.out]; exact hlt))
      subst hA
      clear c0 c1'
      generalize l.getD k (0, 0) = y at q0 q1 HX
      obtain ⟨b, j⟩ := y
      simp only at q0 q1
      have hkI : (k : Int) < (n : Int) := by omega
      have hkJ : (0 : Int) ≤ (k : Int) := by omega
      have e2 : IntKind.i64.wrap (k : Int) = (k : Int) := IntWalk.i64_in _ (by omega)
      have hn1 : n1 ≤ 1000000 := by have := HS.out.1.1; have := delM_len_take l (a, i) k; omega
      have G := gID
      by_cases he : (b, j) = (a, i)
      · have E := (fun W => by simpa [he] using neq_ID (b, j) (a, i) W : ∀ W, (binOp .neq 33 (idV (b, j)) (idV (a, i))).run Try.prog W = .ok (.bool false) W)
        have HX2 := Lib.hid (HX.out.2 he)
        clear he HX
        go_wp2
        go_quiet (fail)
        go_wp2
        go_roundw
        case rel => exact ⟨k + 1, A1, n1, c1, by omega, by go_num, rfl, Lib.hid (by rw [← HX2.out]; exact HS.out.keep0 ((Keep.refl _ _).drewN _)), Lib.hid (HKr.out.drewN _)⟩
        case measure => simp [intOf]; omega
      · have E := (fun W => by simpa [he] using neq_ID (b, j) (a, i) W : ∀ W, (binOp .neq 33 (idV (b, j)) (idV (a, i))).run Try.prog W = .ok (.bool true) W)
        have HX2 := Lib.hid (HX.out.1 he)
        clear he HX
        go_wp2
        go_quiet (fail)
        go_wp2_with fail
        refine (putR_any A1 n1 c1 _ (b, j) _ (HS.out.keep0 ((Keep.refl _ _).drewN _)) (setM_ris _) hn1).mono ?_
        rintro e w1 ⟨A2, n2, c2, rfl, hs, hk1⟩
        have HS2 := Lib.hid hs
        have HK2 := Lib.hid (keep0_trans _ _ _ (HKr.out.drewN _) hk1)
        clear hs hk1
        go_wp2
        go_roundw
        case rel => exact ⟨k + 1, A2, n2, c2, by omega, by go_num, rfl, Lib.hid (by rw [← HX2.out]; exact HS2.out), HK2⟩
        case measure => simp [intOf]; omega
    · obtain rfl : k = n := by omega
      have HM : Hid (ISl wr A1 n1 c1 (delM l (a, i))) := Lib.hid (by have := HS.out; rwa [List.take_of_length_le (by rw [HL.out]; exact Nat.le_refl _)] at this)
      go_wp2
      go_ret
      exact ⟨_, _, _, rfl, HM.out, HK.out⟩
theorem join_take {l m : List ID} {k : Nat} (hk : k < m.length) : putR (setM (l ++ m.take k)) (m.getD k (0, 0)) = setM (l ++ m.take (k + 1)) := by
  rw [putR_set (setM_ris _), List.take_succ_eq_append_getElem hk]
  apply setM_ext
  intro x
  simp only [List.mem_append, setM_mem, List.getD, List.getElem?_eq_getElem hk, Option.getD_some]
  rw [or_assoc]
set_option maxHeartbeats 1000000 in
/-- the same sets? -/
theorem sameR_any (A B : Option Addr) (n m c d : Nat) (l k0 : List ID) (w : World) (h : RdI w A n l) (h2 : RdI w B m k0) (hn : n ≤ 1000000) (hm : m ≤ 1000000) :
    Calls Try.prog 15 #[.slice A n c, .slice B m d] w (Tell (.bool (decide (setM l = setM k0))) w) := by
  have HR := Lib.hid h
  have HL := Lib.hid h.1
  have HR2 := Lib.hid h2
  have HL2 := Lib.hid h2.1
  clear h h2
  go_enter Try.func15, Try.ntmps15
  go_wp2_with fail
  refine (setR_any A n c l w HR.out hn).mono ?_
  rintro e w1 ⟨A0, n0, c0, rfl, hs0, hk0⟩
  have HS0 := Lib.hid hs0
  have HK0 := Lib.hid hk0
  clear hs0 hk0
  go_wp2_with fail
  refine (setR_any B m d k0 w1 (HR2.out.go HK0.out) hm).mono ?_
  rintro e w2 ⟨A1, n1, c1, rfl, hs1, hk1⟩
  have HS1 := Lib.hid hs1
  have HS0' := Lib.hid (HS0.out.keep0 hk1)
  have HK1 := Lib.hid (keep0_trans _ _ _ HK0.out hk1)
  clear hs1 hk1
  go_wp2_with fail
  refine (idsR_any A0 A1 n0 n1 c0 c1 _ _ w2 HS0'.out.1 HS1.out.1 (by have := HS0'.out.1.1; have := setM_len l; rw [HL.out] at this; omega) (by have := HS1.out.1.1; have := setM_len k0; rw [HL2.out] at this; omega)).mono ?_
  rintro e w3 ⟨rfl, hk3⟩
  have HK3 := Lib.hid (keep0_trans _ _ _ HK1.out hk3)
  clear hk3
  go_wp2
  go_ret
  exact ⟨rfl, HK3.out⟩
end Go.Proofs.Ytenphdgnaknbeaa
