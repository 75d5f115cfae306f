/-
  Roster: Set; the law's 'large'; Get, Gone, Floor, At of lists that can be read; the alive of RosterLife.
-/
import Derived.Test.YthlfgjlnjmjppaaRosK
import Derived.Test.YthlfgjlnjmjppaaRosL
import Derived.Test.YthlfgjlnjmjppaaRosM
namespace Go.Proofs.Ythlfgjlnjmjppaa
open Go.RowKit

set_option maxHeartbeats 400000 in
theorem set_any (v1 v2 : Value) (m : List Mem) (f : List ID) (x : Mem) (w : World) (h1 : IsM w v1 m) (h2 : IsF w v2 f) (l1 : lenOk m f) :
    Calls Try.prog 21 #[v1, v2, memV x] w (JoinSays2 w (joinT m f [x] [])) := by
  obtain ⟨A1, n1, c1, rfl, h1⟩ := h1
  obtain ⟨A2, n2, c2, rfl, h2⟩ := h2
  obtain ⟨a, i, s, n⟩ := x
  have H1 := Lib.hid h1
  have H2 := Lib.hid h2
  have L1 := Lib.hid l1
  have ka : Keep (fun _ => False) w ((w.alloc (.cells #[.int .i64 a, .int .i64 i, .int .u8 s, .int .i64 n] 32)).alloc (.cells #[.int .i64 a, .int .i64 i, .int .u8 s, .int .i64 n] 32)) := ((Keep.refl _ w).alloc _).alloc _
  have KA := Lib.hid ka
  have BX := Lib.hid (Blk.new_ (w := w.alloc (.cells #[.int .i64 a, .int .i64 i, .int .u8 s, .int .i64 n] 32)) (B := w.heap.size + 1) (by simp) 32 #[.int .i64 a, .int .i64 i, .int .u8 s, .int .i64 n])
  clear h1 h2 l1 ka
  go_enter Try.func21, Try.ntmps21
  go_wp2_with fail
  refine (joins_any _ _ _ _ m f [⟨a, i, s, n⟩] [] _ ⟨A1, n1, c1, rfl, H1.out.keep0 KA.out⟩ ⟨A2, n2, c2, rfl, H2.out.keep0 KA.out⟩ (IsM.one (x := ⟨a, i, s, n⟩) BX.out) ⟨_, _, _, rfl, RdI.nil_ _⟩ L1.out ⟨by simp, by simp⟩).mono ?_
  rintro e w2 ⟨vm, vf, rfl, hm, hf, hk⟩
  have HM := Lib.hid hm
  have HF := Lib.hid hf
  have HK := Lib.hid (keep0_trans _ _ _ KA.out hk)
  clear hm hf hk
  go_wp2
  go_ret2
  exact ⟨vm, vf, rfl, HM.out, HF.out, HK.out⟩

/-- Lists in memory, one behind the other -/
def IsLs (w : World) (A : Option Addr) (n : Nat) (l : List LI) : Prop :=
  l.length = n ∧ ∀ i, i < n → ∃ g off A1 n1 c1 A2 n2 c2, A = some ⟨g, off, none⟩ ∧ w.cell? ⟨g, off + i * 2, none⟩ = some (.slice A1 n1 c1) ∧ w.cell? ⟨g, off + i * 2 + 1, none⟩ = some (.slice A2 n2 c2) ∧ RdMem w A1 n1 (l.getD i ([], [])).1 ∧ RdI w A2 n2 (l.getD i ([], [])).2
theorem IsLs.keep0 {w w' : World} {A : Option Addr} {n : Nat} {l : List LI} (h : IsLs w A n l) (hk : Keep (fun _ => False) w w') : IsLs w' A n l :=
  ⟨h.1, fun i hi => by
    obtain ⟨g, off, A1, n1, c1, A2, n2, c2, e, h1, h2, h3, h4⟩ := h.2 i hi
    exact ⟨g, off, A1, n1, c1, A2, n2, c2, e, hk.cell h1 (fun h => h), hk.cell h2 (fun h => h), h3.keep0 hk, h4.keep0 hk⟩⟩
def bigL (x : LI) : Bool := decide (100 < x.1.length) || decide (100 < x.2.length)
set_option maxHeartbeats 1000000 in
theorem large_any (A : Option Addr) (n c : Nat) (l : List LI) (w : World) (h : IsLs w A n l) (hn : n ≤ 1000) :
    Calls Try.prog 10 #[.slice A n c] w (Tell (.bool (l.any bigL)) w) := by
  have H := Lib.hid h
  have HL := Lib.hid h.1
  clear h
  go_enter Try.func10, Try.ntmps10
  go_wp2
  go_loop [3] (fun i => ∃ k : Nat, k ≤ n ∧ i = .int .i64 (k : Int) ∧ Hid ((l.take k).any bigL = false)) (fun i => n - (intOf i).toNat)
  case atStart => exact ⟨0, Nat.zero_le _, rfl, Lib.hid (by simp)⟩
  case round =>
    obtain ⟨k, hk, rfl, HT⟩ := hrel
    by_cases hlt : k < n
    · obtain ⟨g, off, A1, n1, c1, A2, n2, c2, rfl, q0, q1, q2, q3⟩ := H.out.2 k hlt
      have hl : k < l.length := by rw [HL.out]; exact hlt
      have HS := Lib.hid (show (l.take (k + 1)).any bigL = bigL (l.getD k ([], [])) by
        rw [List.take_succ_eq_append_getElem hl, List.any_append, HT.out]; simp [List.getD, hl])
      have HB := Lib.hid (show bigL (l.getD k ([], [])) = (decide (100 < n1) || decide (100 < n2)) by rw [bigL, q2.1, q3.1])
      have hlk : l[k] = l.getD k ([], []) := by simp [List.getD, hl]
      have HA := Lib.hid (show bigL (l.getD k ([], [])) = true → l.any bigL = true from fun hb => List.any_eq_true.2 ⟨_, List.getElem_mem hl, by rw [hlk]; exact hb⟩)
      clear hlk
      clear hl q2 q3
      generalize bigL (l.getD k ([], [])) = bb at *
      by_cases h1 : 100 < n1
      · have HA2 := Lib.hid (HA.out (by rw [HB.out, decide_eq_true h1]; rfl))
        go_wp2
        go_ret
        exact ⟨ret_bool HA2.out.symm, Keep.refl _ _⟩
      · by_cases h2 : 100 < n2
        · have HA2 := Lib.hid (HA.out (by rw [HB.out, decide_eq_true h2]; simp))
          go_wp2
          go_ret
          exact ⟨ret_bool HA2.out.symm, Keep.refl _ _⟩
        · have HS2 := Lib.hid (show (l.take (k + 1)).any bigL = false by rw [HS.out, HB.out, decide_eq_false h1, decide_eq_false h2]; rfl)
          go_wp2
          go_round
          case rel => exact ⟨k + 1, by omega, by go_num, HS2⟩
          case measure => simp [intOf]; omega
    · obtain rfl : n = k := by omega
      have hall := HT.out
      rw [List.take_of_length_le (by rw [HL.out]; exact Nat.le_refl _)] at hall
      have HA := Lib.hid hall
      clear hall
      go_wp2
      go_ret
      exact ⟨ret_bool HA.out.symm, Keep.refl _ _⟩
end Go.Proofs.Ythlfgjlnjmjppaa
