/-
  Stage: Next.
-/
import Derived.Test.YtngjecbdajognaaDoorStgB
namespace Go.Proofs.YtngjecbdajognaaDoor
open Go.RowKit

theorem u8_info : (Tryd.prog.info? 5).map (fun i => (i.zero, i.size, i.bytes)) = some (some (.int .u8 0), 1, 1) := by kernel_rfl
/-- the statuses below k to which edges lead -/
def nx (f k : Nat) : List Nat := (List.range k).filter fun s => decide (edgeT f s ≠ 0)
def nextT (f : Nat) : List Nat := nx f 8
theorem edgeT_zero (f : Nat) : edgeT f 0 = 0 := by
  by_cases h : f < 8
  · match f, h with
    | 0, _ => rfl
    | 1, _ => rfl
    | 2, _ => rfl
    | 3, _ => rfl
    | 4, _ => rfl
    | 5, _ => rfl
    | 6, _ => rfl
    | 7, _ => rfl
  · exact edgeT_far f 0 (.inl (by omega))
theorem nx_one (f : Nat) : nx f 1 = [] := by simp [nx, List.range_succ, edgeT_zero]
theorem nx_succ (f k : Nat) : nx f (k + 1) = nx f k ++ if edgeT f k ≠ 0 then [k] else [] := by
  unfold nx
  rw [List.range_succ, List.filter_append]
  congr 1
  by_cases h : edgeT f k = 0
  · simp [h]
  · simp [h]
theorem nx_len (f k : Nat) : (nx f k).length ≤ k := by
  unfold nx
  have := List.length_filter_le (fun s => decide (edgeT f s ≠ 0)) (List.range k)
  simpa using this
def u8s (l : List Nat) : List Value := l.map fun (s : Nat) => Value.int .u8 (s : Int)

set_option maxHeartbeats 1000000 in
theorem next_any (f : Nat) (w : World) (hL : Laid w) :
    Calls Tryd.prog 11 #[.int .u8 f] w fun e w' => ∃ A c row, e = .returned (.slice A (nextT f).length c) ∧ Sl w' 5 row A (nextT f).length c (u8s (nextT f)) ∧ (∀ g, row = some g → w.heap.size ≤ g) ∧ Keep (fun _ => False) w w' := by
  have HL := Lib.hid hL
  clear hL
  obtain ⟨i0, hi, hz0, hz1, hz2⟩ := info_parts u8_info
  have HI := Lib.hid hi
  have HZ0 := Lib.hid hz0
  have HZ1 := Lib.hid hz1
  have HZ2 := Lib.hid hz2
  clear hi hz0 hz1 hz2
  go_enter Tryd.func11, Tryd.ntmps11
  go_wp2
  go_loopw [3, 4] (fun o s wr => ∃ (k : Nat) (A : Option Addr) (c : Nat) (row : Option Nat), 1 ≤ k ∧ k ≤ 8 ∧ s = .int .u8 (k : Int) ∧ o = .slice A (nx f k).length c ∧ Sl wr 5 row A (nx f k).length c (u8s (nx f k)) ∧ (∀ g, row = some g → w.heap.size ≤ g) ∧ Keep (fun _ => False) w wr) (fun _ s _ => 8 - (intOf s).toNat)
  case atStart => exact ⟨1, none, 0, none, by decide, by decide, rfl, by rw [nx_one]; rfl, by rw [nx_one]; exact Sl.nil_ w 5, fun g h => (by cases h), Keep.refl _ _⟩
  case round =>
    obtain ⟨k, A, c, row, hk1, hk8, rfl, rfl, hS, hr, hK⟩ := hrel
    by_cases hlt : k < 8
    · have HS := Lib.hid hS
      have HR := Lib.hid hr
      have HK := Lib.hid hK
      have HLr := Lib.hid (HL.out.below (hK.below (Nat.le_refl _) (fun _ h => h.elim)))
      have HSucc := Lib.hid (nx_succ f k)
      have hlen := nx_len f k
      clear hS hr hK
      generalize nx f k = l at HS HSucc hlen ⊢
      go_wp2_with fail
      refine (edge_any f k wr HLr.out).mono ?_
      rintro e wx ⟨rfl, hw⟩
      rw [hw]
      clear hw wx
      by_cases he : edgeT f k = 0
      · rw [he]
        have HSucc' := Lib.hid (show nx f (k + 1) = l by rw [HSucc.out, if_neg (by simp [he]), List.append_nil])
        go_wp2
        go_roundw
        case rel => exact ⟨k + 1, A, c, row, by omega, by omega, by go_num, by rw [HSucc'.out], by rw [HSucc'.out]; exact HS.out, HR.out, HK.out⟩
        case measure => simp [intOf]; omega
      · have HSucc' := Lib.hid (show nx f (k + 1) = l ++ [k] by rw [HSucc.out, if_pos he])
        have he2 : (edgeT f k == 0) = false := by simpa using he
        generalize edgeT f k = x at he he2 ⊢
        go_wp2_with (at_builtin; go_loud (refine wpList_append_sl rfl _ _ _ rfl i0 _ 1 Tryd.underlying25 HI.out HZ0.out HZ1.out HZ2.out rfl (HS.out.keep ((Keep.refl (fun _ => False) wr).alloc _) (fun _ _ h => h)) rfl ⟨wr.heap.size, 0, none⟩ (.int .u8 (k : Int)) 1 rfl (by simp) rfl (by unfold maxLen; omega) (by omega) ?_); intro row1 A1 c1 w1 hs1 hk1 hr1)
        have HS1 := Lib.hid hs1
        have HK1 := Lib.hid hk1
        have HR1 := Lib.hid hr1
        clear hs1 hk1 hr1
        go_wp2
        go_roundw
        case rel =>
          refine ⟨k + 1, A1, c1, row1, by omega, by omega, by go_num, by rw [HSucc'.out]; simp, by rw [HSucc'.out]; simpa [u8s] using HS1.out, ?_, ?_⟩
          · intro g hg
            rcases HR1.out with e | ⟨g', e, hg'⟩
            · exact HR.out g (e ▸ hg)
            · rw [e] at hg; injection hg with hg
              have := HK.out.size
              simp at hg'
              omega
          · exact (HK.out.alloc _).trans (HK1.out.mono fun g _ e => .inr (HR.out g e))
        case measure => simp [intOf]; omega
    · obtain rfl : k = 8 := by omega
      go_wp2
      go_ret
      exact ⟨A, c, row, rfl, hS, hr, hK⟩
end Go.Proofs.YtngjecbdajognaaDoor
