/-
  Stage: coveyref04.Same; Parse of "down".
-/
import Derived.Test.YtngjecbdajognaaDoorStgH
import Derived.Outline
namespace Go.Proofs.YtngjecbdajognaaDoor
open Go.RowKit

def Bytes (l : List (List Nat)) : Prop := ∀ x ∈ l, ∀ s ∈ x, s < 256
theorem Bytes.at_ {l : List (List Nat)} (h : Bytes l) (i : Nat) : ∀ s ∈ l.getD i [], s < 256 := by
  by_cases hi : i < l.length
  · have : l.getD i [] = l[i] := by simp [List.getD, hi]
    rw [this]; exact h _ (List.getElem_mem hi)
  · have : l.getD i [] = [] := by simp [List.getD, Nat.le_of_not_lt hi]
    rw [this]; simp

theorem same_len (A B : Option Addr) (n m c d : Nat) (w : World) (h : n ≠ m) :
    Calls Tryd.prog 19 #[.slice A n c, .slice B m d] w (Tells (.bool false) w) := by
  have hne : ((n : Int) == (m : Int)) = false := by simp; omega
  have hne2 : ((n : Int) != (m : Int)) = true := by simp; omega
  go_enter Tryd.func19, Tryd.ntmps19
  go_wp2
  go_ret
  exact ⟨rfl, 0, rfl⟩

set_option maxHeartbeats 1000000 in
theorem same_rows (A B : Option Addr) (n c d : Nat) (a b : List (List Nat)) (w : World) (ha : RdM w A n a) (hb : RdM w B n b) (ba : Bytes a) (bb : Bytes b) (hn : n ≤ 1000000) :
    Calls Tryd.prog 19 #[.slice A n c, .slice B n d] w (Tells (.bool (decide (a = b))) w) := by
  have HA := Lib.hid ha
  have HB := Lib.hid hb
  have h1 := ha.1
  have h2 := hb.1
  have H1 := Lib.hid h1
  have H2 := Lib.hid h2
  clear ha hb h1 h2
  go_enter Tryd.func19, Tryd.ntmps19
  go_wp2
  go_loopw [5] (fun i wr => ∃ k j : Nat, k ≤ n ∧ i = .int .i64 (k : Int) ∧ wr = w.drewN j ∧ Hid (a.take k = b.take k)) (fun i _ => n - (intOf i).toNat)
  case atStart => exact ⟨0, 0, Nat.zero_le _, rfl, rfl, Lib.hid (by simp)⟩
  case round =>
    obtain ⟨k, j, hk, rfl, rfl, HT⟩ := hrel
    by_cases hlt : k < n
    · obtain ⟨g, off, A', c', rfl, q1, q2⟩ := HA.out.2 k hlt
      obtain ⟨g2, off2, B', d', rfl, q3, q4⟩ := HB.out.2 k hlt
      have bx := ba.at_ k
      have by_ := bb.at_ k
      have hx : a.take (k + 1) = a.take k ++ [a.getD k []] := by
        rw [List.take_succ_eq_append_getElem (by rw [H1.out]; exact hlt)]; simp [List.getD, H1.out, hlt]
      have hy : b.take (k + 1) = b.take k ++ [b.getD k []] := by
        rw [List.take_succ_eq_append_getElem (by rw [H2.out]; exact hlt)]; simp [List.getD, H2.out, hlt]
      have HX := Lib.hid hx
      have HY := Lib.hid hy
      have hgx : a = b → a.getD k [] = b.getD k [] := fun h => by rw [h]
      have HG := Lib.hid hgx
      clear hx hy hgx
      generalize a.getD k [] = x at *
      generalize b.getD k [] = y at *
      have cx : ∀ i, (convert 25 9 (.slice A' x.length c')).run Tryd.prog (w.drewN i) = .ok (.string (strB x)) (w.drewN i) := fun i => conv_any c' (q2.keep ((Keep.refl (fun _ => False) w).drewN i) (fun _ _ h => h))
      have cy : ∀ i, (convert 25 9 (.slice B' y.length d')).run Tryd.prog (w.drewN i) = .ok (.string (strB y)) (w.drewN i) := fun i => conv_any d' (q4.keep ((Keep.refl (fun _ => False) w).drewN i) (fun _ _ h => h))
      have Q2 := Lib.hid q2
      have Q4 := Lib.hid q4
      clear q2 q4
      by_cases hxy : x = y
      · subst hxy
        go_wp2
        go_quiet (fail)
        go_wp2
        go_roundw
        case rel => exact ⟨k + 1, j + nq, by omega, by go_num, rfl, Lib.hid (by rw [HX.out, HY.out, HT.out])⟩
        case measure => simp [intOf]; omega
      · have hs : ((strB x).toList == (strB y).toList) = false := by
          have h3 : (strB x).toList ≠ (strB y).toList := fun e => by
            rw [ByteArray.toList_eq, ByteArray.toList_eq] at e
            have e2 : strB x = strB y := by
              have : ∀ u v : ByteArray, u.data.toList = v.data.toList → u = v := fun u v h => by
                cases u; cases v; simp at h; rw [h]
              exact this _ _ e
            exact hxy (strB_inj bx by_ e2)
          simpa using h3
        have HF : Hid (decide (a = b) = false) := Lib.hid (decide_eq_false fun e => hxy (HG.out e))
        clear hxy
        go_wp2
        go_quiet (fail)
        go_wp2
        go_ret
        exact ⟨ret_bool HF.out.symm, j + nq, World.drewN_drewN _ _ _⟩
    · obtain rfl : k = n := by omega
      have ht := HT.out
      rw [List.take_of_length_le (by rw [H1.out]; exact Nat.le_refl _), List.take_of_length_le (by rw [H2.out]; exact Nat.le_refl _)] at ht
      have HT' := Lib.hid ht
      clear ht
      go_wp2
      go_ret
      exact ⟨ret_bool (by simp [HT'.out]), j, rfl⟩
theorem same_any (A B : Option Addr) (n m c d : Nat) (a b : List (List Nat)) (w : World) (ha : RdM w A n a) (hb : RdM w B m b) (ba : Bytes a) (bb : Bytes b) (hn : n ≤ 1000000) :
    Calls Tryd.prog 19 #[.slice A n c, .slice B m d] w (Tells (.bool (decide (a = b))) w) := by
  by_cases h : n = m
  · subst h; exact same_rows A B n c d a b w ha hb ba bb hn
  · have : decide (a = b) = false := decide_eq_false fun e => h (by rw [← ha.1, ← hb.1, e])
    rw [this]
    exact same_len A B n m c d w h

def nameAt (i : Nat) : ByteArray := ⟨(NMS.getD i []).toArray⟩
theorem ret_index (p : Nat) : Ending.returned (.int .i64 (p : Int)) = .returned (.int .i64 ((p : Nat) : Int)) := rfl

set_option maxHeartbeats 1000000 in
/-- the first p names are others; then it comes, or there is none -/
theorem index_any (s : ByteArray) (p : Nat) (hp : p ≤ 7) (w : World) (hL : Laid w) (hno : ∀ i, i < p → (s.toList == (nameAt (i + 1)).toList) = false) (hit : p < 7 → (s.toList == (nameAt (p + 1)).toList) = true) (r : Int) (hr : r = if p < 7 then (p : Int) else -1) :
    Calls Tryd.prog 22 #[.slice (some ⟨1, 1, none⟩) 7 7, .string s] w fun e w' => e = .returned (.int .i64 r) ∧ w' = w := by
  have HL := Lib.hid hL.2
  have HN := Lib.hid hno
  have HH := Lib.hid hit
  have HR := Lib.hid hr
  clear hL hno hit hr
  go_enter Tryd.func22, Tryd.ntmps22
  go_wp2
  go_loopw [8] (fun i wr => ∃ k : Nat, k ≤ p ∧ i = .int .i64 (k : Int) ∧ wr = w) (fun i _ => 7 - (intOf i).toNat)
  case atStart => exact ⟨0, by omega, rfl, rfl⟩
  case round =>
    obtain ⟨k, hk, rfl, rfl⟩ := hrel
    by_cases h7 : k < 7
    · have hc := HL.out (1 + k) (by omega)
      by_cases hlt : k < p
      · have he := HN.out k hlt
        rw [Nat.add_comm k 1] at he
        have e1 : (⟨(NMS.getD (1 + k) []).toArray⟩ : ByteArray) = nameAt (1 + k) := rfl
        rw [e1] at hc
        generalize nameAt (1 + k) = x at hc he
        clear e1
        go_wp2
        go_roundw
        case rel => exact ⟨k + 1, by omega, by go_num, by first | rfl | trivial⟩
        case measure => simp [intOf]; omega
      · obtain rfl : k = p := by omega
        have he := HH.out h7
        rw [Nat.add_comm k 1] at he
        have e1 : (⟨(NMS.getD (1 + k) []).toArray⟩ : ByteArray) = nameAt (1 + k) := rfl
        rw [e1] at hc
        generalize nameAt (1 + k) = x at hc he
        clear e1
        go_wp2
        go_ret
        exact ⟨ret_int (by rw [HR.out, if_pos h7]), rfl⟩
    · have hk7 : k = 7 := by omega
      subst hk7
      go_wp2
      go_ret
      exact ⟨ret_int (by rw [HR.out, if_neg (by omega)]), rfl⟩

theorem parse_any (s : ByteArray) (p : Nat) (hp : p ≤ 7) (w : World) (hL : Laid w) (hno : ∀ i, i < p → (s.toList == (nameAt (i + 1)).toList) = false) (hit : p < 7 → (s.toList == (nameAt (p + 1)).toList) = true) :
    Calls Tryd.prog 17 #[.string s] w fun e w' => e = .returned (.tuple #[.int .u8 (if p < 7 then ((p : Int) + 1) else 0), .int .i64 (if p < 7 then 0 else 5)]) ∧ w' = w := by
  by_cases h7 : p < 7
  · rw [if_pos h7, if_pos h7]
    go_enter Tryd.func17, Tryd.ntmps17
    go_wp2_with fail
    refine (index_any s p hp w hL hno hit p (by rw [if_pos h7])).mono ?_
    rintro e w1 ⟨rfl, rfl⟩
    have hz : ((p : Int) + 1 == 0) = false := by simp; omega
    clear hL hno hit
    go_wp2
    go_ret2
    exact ⟨rfl, rfl⟩
  · rw [if_neg h7, if_neg h7]
    go_enter Tryd.func17, Tryd.ntmps17
    go_wp2_with fail
    refine (index_any s p hp w hL hno hit (-1) (by rw [if_neg h7])).mono ?_
    rintro e w1 ⟨rfl, rfl⟩
    clear hL hno hit
    go_wp2
    go_ret2
    exact ⟨rfl, rfl⟩
end Go.Proofs.YtngjecbdajognaaDoor
