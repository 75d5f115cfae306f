/-
  AccrualLater: the walk of the law.
-/
import Derived.Test.YtmlgaikabnbghaaAccE
namespace Go.Proofs.Ytmlgaikabnbghaa
open Go.RowKit

theorem late_mono {d : D} (p q : Int) (h : p ≤ q) (hl : d.late p = true) : d.late q = true := by
  unfold D.late at *
  by_cases hne : d.last = -1
  · rw [if_pos hne] at hl; cases hl
  · rw [if_neg hne] at hl ⊢
    simp only [decide_eq_true_eq] at *
    have : atv d.last p ≤ atv d.last q := by unfold atv wi; omega
    omega
theorem begin_limit (d : D) (q : Int) : (d.begin_ q).limit = d.limit := by
  unfold D.begin_ D.limit
  split <;> rfl
theorem heard_not_late {d : D} (h : d.Ok) (q : Int) : (d.heard q).late q = false := by
  have hb := D.limit_bd (h.heard q)
  have h1 : 1 ≤ (d.heard q).mn := h.mn1
  unfold D.late
  split
  · rfl
  · refine decide_eq_false ?_
    have : atv (d.heard q).last q - (d.heard q).last ≤ 0 := by unfold D.heard atv wi; simp only; omega
    omega

set_option maxRecDepth 100000 in
set_option maxHeartbeats 1000000 in
theorem later_far (least most window now later : Int) (A : Option Addr) (n c : Nat) (w : World) (hn : 500 < n) (hm : n ≤ maxLen) :
    Calls Try.prog 5 #[.int .i64 least, .int .i64 most, .int .i64 window, .slice A n c, .int .i64 now, .int .i64 later] w fun e w' => e = .returned (.bool true) ∧ Below w.heap.size w w' := by
  unfold maxLen at hm
  go_enter Try.func5, Try.ntmps5
  go_wp2_with fail
  refine (works_any w).mono ?_
  rintro e w1 ⟨rfl, h1⟩
  go_wp2_with fail
  refine (works_any w1).mono ?_
  rintro e w2 ⟨rfl, h2⟩
  go_wp2
  go_ret
  exact ⟨rfl, h1.trans (h2.mono h1.size)⟩
set_option maxRecDepth 100000 in
set_option maxHeartbeats 1000000 in
theorem later_bad (least most window now later : Int) (A : Option Addr) (n c : Nat) (w : World) (hn : n ≤ 500) (h : ¬ MayNew least most window) :
    Calls Try.prog 5 #[.int .i64 least, .int .i64 most, .int .i64 window, .slice A n c, .int .i64 now, .int .i64 later] w fun e w' => e = .returned (.bool true) ∧ Below w.heap.size w w' := by
  go_enter Try.func5, Try.ntmps5
  go_wp2_with fail
  refine (works_any w).mono ?_
  rintro e w1 ⟨rfl, h1⟩
  go_wp2_with fail
  refine (run_bad A n c _ _ _ _ h).mono ?_
  rintro e w2 ⟨rfl, rfl⟩
  go_wp2
  go_ret
  exact ⟨rfl, h1⟩

set_option maxRecDepth 100000 in
set_option maxHeartbeats 2000000 in
theorem later_good (least most window now later : Int) (A : Option Addr) (n c : Nat) (w : World) (l : List (Int × Int)) (hn : n ≤ 500) (hl : Steps w A n l) (h : MayNew least most window) (hc : now ≤ later) :
    Calls Try.prog 5 #[.int .i64 least, .int .i64 most, .int .i64 window, .slice A n c, .int .i64 now, .int .i64 later] w fun e w' => e = .returned (.bool true) ∧ Below w.heap.size w w' := by
  have HL := Lib.hid hl
  have HM := Lib.hid h
  obtain ⟨d, hd⟩ : ∃ d, d = plays (newD least most window) l := ⟨_, rfl⟩
  have HD := Lib.hid hd
  clear hl h hd
  go_enter Try.func5, Try.ntmps5
  go_wp2_with fail
  refine (works_any w).mono ?_
  rintro e w1 ⟨rfl, h1⟩
  go_wp2_with fail
  refine (run_good h1 A n c l HL.out (by omega) _ _ _ HM.out w1.heap.size rfl).mono ?_
  rw [← HD.out]
  rintro e w2 ⟨rfl, h2⟩
  generalize w1.heap.size = b at h2 ⊢
  have HN := Lib.hid (heard_not_late (h2.ok.begin_ later) later)
  obtain ⟨L, hL⟩ : ∃ L, d.limit = L := ⟨_, rfl⟩
  have HLim := Lib.hid hL
  have HLim2 := Lib.hid ((begin_limit d later).trans hL)
  clear hL
  cases hp : d.late now with
  | false =>
    have HP := Lib.hid hp
    clear hp
    go_wp2_with fail
    refine (now_late h2 _ _ HP.out).mono ?_
    clear h2
    rintro e w3 ⟨rfl, h3⟩
    by_cases h0 : 0 < n
    all_goals
      go_wp2_with (first
        | (go_at_call 16; refine (now_begin (by assumption) _).mono ?_; rintro e w4 ⟨rfl, h4⟩)
        | (go_at_call 12; first | (refine (now_limit h3 _ HLim.out).mono ?_; clear h3; rintro e w5 ⟨rfl, h5⟩) | (refine (now_limit h4 _ HLim2.out).mono ?_; clear h4; rintro e w6 ⟨rfl, h6⟩))
        | (go_at_call 13; refine (now_heard (by assumption) _).mono ?_; rintro e w7 ⟨rfl, h7⟩)
        | (go_at_call 14; refine (now_late h7 _ _ HN.out).mono ?_; rintro e w8 ⟨rfl, h8⟩))
      go_ret
      exact ⟨rfl, h8.old⟩
  | true =>
    have HP := Lib.hid hp
    have HQ := Lib.hid (late_mono now later (by omega) hp)
    clear hp
    go_wp2_with fail
    refine (now_late h2 _ _ HP.out).mono ?_
    clear h2
    rintro e w3 ⟨rfl, h3⟩
    go_wp2_with fail
    refine (now_late h3 _ _ HQ.out).mono ?_
    clear h3
    rintro e w3 ⟨rfl, h3⟩
    by_cases h0 : 0 < n
    all_goals
      go_wp2_with (first
        | (go_at_call 16; refine (now_begin (by assumption) _).mono ?_; rintro e w4 ⟨rfl, h4⟩)
        | (go_at_call 12; first | (refine (now_limit h3 _ HLim.out).mono ?_; clear h3; rintro e w5 ⟨rfl, h5⟩) | (refine (now_limit h4 _ HLim2.out).mono ?_; clear h4; rintro e w6 ⟨rfl, h6⟩))
        | (go_at_call 13; refine (now_heard (by assumption) _).mono ?_; rintro e w7 ⟨rfl, h7⟩)
        | (go_at_call 14; refine (now_late h7 _ _ HN.out).mono ?_; rintro e w8 ⟨rfl, h8⟩))
      go_ret
      exact ⟨rfl, h8.old⟩

set_option maxRecDepth 100000 in
set_option maxHeartbeats 2000000 in
theorem later_swap (least most window now later : Int) (A : Option Addr) (n c : Nat) (w : World) (l : List (Int × Int)) (hn : n ≤ 500) (hl : Steps w A n l) (h : MayNew least most window) (hc : later < now) :
    Calls Try.prog 5 #[.int .i64 least, .int .i64 most, .int .i64 window, .slice A n c, .int .i64 now, .int .i64 later] w fun e w' => e = .returned (.bool true) ∧ Below w.heap.size w w' := by
  have HL := Lib.hid hl
  have HM := Lib.hid h
  obtain ⟨d, hd⟩ : ∃ d, d = plays (newD least most window) l := ⟨_, rfl⟩
  have HD := Lib.hid hd
  clear hl h hd
  go_enter Try.func5, Try.ntmps5
  go_wp2_with fail
  refine (works_any w).mono ?_
  rintro e w1 ⟨rfl, h1⟩
  go_wp2_with fail
  refine (run_good h1 A n c l HL.out (by omega) _ _ _ HM.out w1.heap.size rfl).mono ?_
  rw [← HD.out]
  rintro e w2 ⟨rfl, h2⟩
  generalize w1.heap.size = b at h2 ⊢
  have HN := Lib.hid (heard_not_late (h2.ok.begin_ now) now)
  obtain ⟨L, hL⟩ : ∃ L, d.limit = L := ⟨_, rfl⟩
  have HLim := Lib.hid hL
  have HLim2 := Lib.hid ((begin_limit d now).trans hL)
  clear hL
  cases hp : d.late later with
  | false =>
    have HP := Lib.hid hp
    clear hp
    go_wp2_with fail
    refine (now_late h2 _ _ HP.out).mono ?_
    clear h2
    rintro e w3 ⟨rfl, h3⟩
    by_cases h0 : 0 < n
    all_goals
      go_wp2_with (first
        | (go_at_call 16; refine (now_begin (by assumption) _).mono ?_; rintro e w4 ⟨rfl, h4⟩)
        | (go_at_call 12; first | (refine (now_limit h3 _ HLim.out).mono ?_; clear h3; rintro e w5 ⟨rfl, h5⟩) | (refine (now_limit h4 _ HLim2.out).mono ?_; clear h4; rintro e w6 ⟨rfl, h6⟩))
        | (go_at_call 13; refine (now_heard (by assumption) _).mono ?_; rintro e w7 ⟨rfl, h7⟩)
        | (go_at_call 14; refine (now_late h7 _ _ HN.out).mono ?_; rintro e w8 ⟨rfl, h8⟩))
      go_ret
      exact ⟨rfl, h8.old⟩
  | true =>
    have HP := Lib.hid hp
    have HQ := Lib.hid (late_mono later now (by omega) hp)
    clear hp
    go_wp2_with fail
    refine (now_late h2 _ _ HP.out).mono ?_
    clear h2
    rintro e w3 ⟨rfl, h3⟩
    go_wp2_with fail
    refine (now_late h3 _ _ HQ.out).mono ?_
    clear h3
    rintro e w3 ⟨rfl, h3⟩
    by_cases h0 : 0 < n
    all_goals
      go_wp2_with (first
        | (go_at_call 16; refine (now_begin (by assumption) _).mono ?_; rintro e w4 ⟨rfl, h4⟩)
        | (go_at_call 12; first | (refine (now_limit h3 _ HLim.out).mono ?_; clear h3; rintro e w5 ⟨rfl, h5⟩) | (refine (now_limit h4 _ HLim2.out).mono ?_; clear h4; rintro e w6 ⟨rfl, h6⟩))
        | (go_at_call 13; refine (now_heard (by assumption) _).mono ?_; rintro e w7 ⟨rfl, h7⟩)
        | (go_at_call 14; refine (now_late h7 _ _ HN.out).mono ?_; rintro e w8 ⟨rfl, h8⟩))
      go_ret
      exact ⟨rfl, h8.old⟩

theorem walkAccrualLater {w : World} (a0 : Int) (_w0 : (Lit.int .i64 a0).wf = true) (a1 : Int) (_w1 : (Lit.int .i64 a1).wf = true) (a2 : Int) (_w2 : (Lit.int .i64 a2).wf = true) (v3 : Value) (w3 : IsSteps w v3) (a4 : Int) (_w4 : (Lit.int .i64 a4).wf = true)
    (a5 : Int) (_w5 : (Lit.int .i64 a5).wf = true) : Calls Try.prog 5 #[.int .i64 a0, .int .i64 a1, .int .i64 a2, v3, .int .i64 a4, .int .i64 a5] w fun e w' => e = .returned (.bool true) ∧ Below w.heap.size w w' := by
  obtain ⟨A, n, c, l, rfl, h1, h2, hl⟩ := w3
  by_cases hn : 500 < n
  · exact later_far a0 a1 a2 a4 a5 A n c w hn (by omega)
  · by_cases h : MayNew a0 a1 a2
    · by_cases hc : a5 < a4
      · exact later_swap a0 a1 a2 a4 a5 A n c w l (by omega) hl h hc
      · exact later_good a0 a1 a2 a4 a5 A n c w l (by omega) hl h (by omega)
    · exact later_bad a0 a1 a2 a4 a5 A n c w (by omega) h
end Go.Proofs.Ytmlgaikabnbghaa
