/-
  Stage: reaches, StageEnd.
-/
import Derived.Test.YtngjecbdajognaaDoorStgL
namespace Go.Proofs.YtngjecbdajognaaDoor
open Go.RowKit

def reachB : Nat → Nat → Nat → Bool
  | 0, _, _ => false
  | d + 1, f, t => (nextT f).any fun s => s == t || (decide (s < t) && reachB d s t)
/-- a call that tells a truth value, in new memory -/
def TellsB (b : Bool) (w : World) (e : Ending) (w' : World) : Prop := e = .returned (.bool b) ∧ Keep (fun _ => False) w w'

set_option maxRecDepth 100000 in
set_option maxHeartbeats 2000000 in
theorem reaches_round (d f t : Nat) (ih : ∀ s, s ∈ nextT f → ∀ w, Laid w → Calls Tryd.prog 13 #[.int .u8 (s : Int), .int .u8 (t : Int)] w (TellsB (reachB d s t) w)) (w : World) (hL : Laid w) :
    Calls Tryd.prog 13 #[.int .u8 (f : Int), .int .u8 (t : Int)] w (TellsB (reachB (d + 1) f t) w) := by
  have HI := Lib.hid ih
  have HL := Lib.hid hL
  clear ih hL
  go_enter Tryd.func13, Tryd.ntmps13
  go_wp2_with fail
  refine (next_any f _ HL.out).mono ?_
  rintro e w1 ⟨A, c, row, rfl, h1, _, h3⟩
  have hl := nx_len f 8
  have HS : Hid (∀ s, s ∈ nextT f → True) := Lib.hid (fun _ _ => trivial)
  have HR := Lib.hid (show reachB (d + 1) f t = (nextT f).any fun s => s == t || (decide (s < t) && reachB d s t) from rfl)
  have H1 := Lib.hid h1.rd
  have H3 := Lib.hid h3
  change (nextT f).length ≤ 8 at hl
  clear h1 h3 HS
  generalize nextT f = l at *
  obtain ⟨rr, hrr0⟩ : ∃ rr, rr = reachB (d + 1) f t := ⟨_, rfl⟩
  rw [← hrr0] at HR
  have HRR := Lib.hid hrr0
  clear hrr0
  go_wp2_with fail
  go_loopw [6] (fun i wr => ∃ k : Nat, k ≤ l.length ∧ i = .int .i64 (k : Int) ∧ Hid (Keep (fun _ => False) w wr) ∧ Hid (Keep (fun _ => False) w1 wr) ∧ Hid ((l.take k).any (fun s => s == t || (decide (s < t) && reachB d s t)) = false)) (fun i _ => l.length - (intOf i).toNat)
  case atStart => exact ⟨0, Nat.zero_le _, rfl, Lib.hid H3.out, Lib.hid (Keep.refl _ _), Lib.hid (by simp)⟩
  case round =>
    obtain ⟨k, hk, rfl, HK, HK1, HT⟩ := hrel
    by_cases hlt : k < l.length
    · obtain ⟨g, off, rfl, hb⟩ := rd_byte (H1.out.keep HK1.out (fun _ _ h => h)) hlt
      have hm : l.getD k 0 ∈ l := by simp [List.getD, hlt]
      have htk : l.take (k + 1) = l.take k ++ [l.getD k 0] := by
        rw [List.take_succ_eq_append_getElem hlt]; simp [List.getD, hlt]
      have HM := Lib.hid hm
      have HTK := Lib.hid htk
      clear hm htk
      generalize l.getD k 0 = s at *
      have hany : (l.any fun s => s == t || (decide (s < t) && reachB d s t)) = false ∨ True := .inr trivial
      have HAny : Hid ((s == t || (decide (s < t) && reachB d s t)) = true → rr = true) := Lib.hid fun h => by
        rw [HR.out]; exact List.any_eq_true.2 ⟨s, HM.out, h⟩
      clear hany
      have HNo : Hid ((s == t || (decide (s < t) && reachB d s t)) = false → (l.take (k + 1)).any (fun s => s == t || (decide (s < t) && reachB d s t)) = false) := Lib.hid fun h => by
        rw [HTK.out, List.any_append, HT.out]; simpa using h
      by_cases hst : s = t
      · have e1 : ((s : Int) == (t : Int)) = true := by simp; omega
        have hrr : Hid (rr = true) := Lib.hid (HAny.out (by simp [hst]))
        clear hst
        go_wp2
        go_ret
        exact ⟨ret_bool (hrr.out.symm.trans HRR.out), HK.out⟩
      · have e1 : ((s : Int) == (t : Int)) = false := by simp; omega
        by_cases hs2 : s < t
        · have hx := HI.out s HM.out wr (HL.out.keep HK.out (fun _ _ h => h))
          have HX := Lib.hid hx
          have hsb : (s == t || (decide (s < t) && reachB d s t)) = reachB d s t := by simp [hst, hs2]
          rw [hsb] at HAny HNo
          clear hx hsb hst
          go_wp2_with fail
          refine HX.out.mono ?_
          rintro e w2 ⟨rfl, hk2⟩
          have HK2 := Lib.hid (HK.out.trans (hk2.mono fun _ _ h => h.elim))
          have HK3 := Lib.hid (HK1.out.trans (hk2.mono fun _ _ h => h.elim))
          clear hk2
          cases hb2 : reachB d s t
          · rw [hb2] at HNo
            clear hb2
            go_wp2
            go_roundw
            case rel => exact ⟨k + 1, by omega, by go_num, Lib.hid HK2.out, Lib.hid HK3.out, Lib.hid (HNo.out (by trivial))⟩
            case measure => simp [intOf]; omega
          · rw [hb2] at HAny
            clear hb2
            go_wp2
            go_ret
            exact ⟨ret_bool ((HAny.out (by trivial)).symm.trans HRR.out), HK2.out⟩
        · have hno := HNo.out (by simp [hst, hs2])
          have HN := Lib.hid hno
          clear hno hst
          go_wp2
          go_roundw
          case rel => exact ⟨k + 1, by omega, by go_num, Lib.hid HK.out, Lib.hid HK1.out, Lib.hid HN.out⟩
          case measure => simp [intOf]; omega
    · obtain rfl : k = l.length := by omega
      have hr : rr = false := by rw [HR.out]; have := HT.out; rwa [List.take_length] at this
      have HRF := Lib.hid hr
      clear hr
      go_wp2
      go_ret
      exact ⟨ret_bool (HRF.out.symm.trans HRR.out), HK.out⟩

theorem reaches_any (t : Nat) : ∀ (d f : Nat), 8 ≤ d + f → ∀ w, Laid w → Calls Tryd.prog 13 #[.int .u8 (f : Int), .int .u8 (t : Int)] w (TellsB (reachB d f t) w)
  | 0, f, hd, w, hL => by
    have hn : nextT f = [] := nextT_far f (by omega)
    have := reaches_round 0 f t (fun s hs => by rw [hn] at hs; cases hs) w hL
    rw [reachB, hn] at this
    exact this
  | d + 1, f, hd, w, hL => reaches_round d f t (fun s hs => reaches_any t d s (by have := nextT_gt f s hs; omega)) w hL
theorem reach_far (t : Nat) (ht : 8 ≤ t) : ∀ d f, reachB d f t = false
  | 0, f => rfl
  | d + 1, f => by
    rw [reachB, List.any_eq_false]
    intro s hs
    have := nextT_gt f s hs
    rw [reach_far t ht d s]
    simp; omega
theorem reach_in : ∀ f, f < 8 → ∀ t, t < 8 → f ≠ t → reachB 8 f t = !(waysT t 8 f).isEmpty := by decide +kernel
theorem end1 : ∀ f, f < 8 → 1 ≤ f → 0 < (waysT 7 8 f).length := by decide +kernel
theorem end2 : ∀ t, t < 8 → t ≠ 7 → (waysT t 8 7).length = 0 := by decide +kernel
theorem end3 : ∀ t, t < 8 → ∀ f, f < 8 → ∀ x ∈ waysT t 8 f, f + x.length ≤ t := by decide +kernel
theorem end3' (t f : Nat) : ∀ x ∈ waysT t 8 f, f + x.length ≤ t := by
  by_cases hf : f < 8
  · by_cases ht : t < 8
    · exact end3 t ht f hf
    · rw [waysT_far t (by omega) 8 f hf]; intro x hx; cases hx
  · intro x hx
    rw [waysT, nextT_far f (by omega)] at hx
    split at hx
    · simp at hx; subst hx; simp; omega
    · cases hx
theorem end2' (t : Nat) (h : t ≠ 7) : (waysT t 8 7).length = 0 := by
  by_cases ht : t < 8
  · exact end2 t ht h
  · rw [waysT_far t (by omega) 8 7 (by omega)]; rfl
theorem end4 (t f : Nat) : decide (0 < (waysT t 8 f).length) = (decide (f = t) || (decide (f < t) && reachB 8 f t)) := by
  by_cases hft : f = t
  · subst hft; simp [waysT]
  · by_cases hf : f < 8
    · by_cases ht : t < 8
      · rw [reach_in f hf t ht hft]
        by_cases hlt : f < t
        · cases h : waysT t 8 f <;> simp [hlt, hft]
        · have h0 : (waysT t 8 f) = [] := by
            apply List.eq_nil_iff_forall_not_mem.2
            intro x hx
            have := end3' t f x hx
            omega
          simp [h0, hft, hlt]
      · rw [waysT_far t (by omega) 8 f hf, reach_far t (by omega)]; simp [hft]
    · have hw : waysT t 8 f = [] := by rw [waysT, if_neg hft, nextT_far f (by omega)]; rfl
      have hr : reachB 8 f t = false := by rw [reachB, nextT_far f (by omega)]; rfl
      rw [hw, hr]; simp [hft]
end Go.Proofs.YtngjecbdajognaaDoor
