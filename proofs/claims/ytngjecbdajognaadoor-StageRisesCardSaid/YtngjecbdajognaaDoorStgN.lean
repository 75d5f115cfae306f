/-
  Stage: StageEnd.
-/
import Derived.Test.YtngjecbdajognaaDoorStgM
namespace Go.Proofs.YtngjecbdajognaaDoor
open Go.RowKit

set_option maxRecDepth 100000 in
set_option maxHeartbeats 2000000 in
theorem walkStageEnd (a : Int) (wa : (Lit.int .u8 a).wf = true) (b : Int) (wb : (Lit.int .u8 b).wf = true) (w : World) (hL : Laid w) :
    Calls Tryd.prog 4 #[.int .u8 a, .int .u8 b] w fun e w' => e = .returned (.bool true) ∧ Below w.heap.size w w' := by
  obtain ⟨h0, h255⟩ := bounds_u8 wa
  obtain ⟨f, rfl⟩ := Int.eq_ofNat_of_zero_le h0
  obtain ⟨h0', h255'⟩ := bounds_u8 wb
  obtain ⟨t, rfl⟩ := Int.eq_ofNat_of_zero_le h0'
  clear wa h0 wb h0'
  have HL := Lib.hid hL
  clear hL
  by_cases hm : 1 ≤ f ∧ f ≤ 7
  all_goals
    by_cases h7 : t = 7
  all_goals
    go_enter Tryd.func4, Tryd.ntmps4
    go_wp2_with fail
    refine (awake_any _ HL.out).mono ?_
    rintro e w1 ⟨rfl, hk⟩
    have HK := Lib.hid hk
    have HL1 := Lib.hid (HL.out.keep hk (fun _ _ h => h))
    clear hk
    go_wp2_with fail
    refine (may_any _ _).mono ?_
    rintro e wx ⟨rfl, hw⟩
    rw [hw]; clear hw wx
  · subst h7
    rw [decide_eq_true hm]
    go_wp2_with fail
    refine (ways_any f 7 _ HL1.out).mono ?_
    rintro e w2 ⟨A1, c1, rfl, _, hk2⟩
    have HKn1 := Lib.hid (Keep.trans HK.out (hk2.mono fun _ _ h => h.elim))
    have HLn1 := Lib.hid (HL1.out.keep hk2 (fun _ _ h => h))
    clear hk2
    have hn1 : 0 < (waysT 7 8 f).length := end1 f (by omega) hm.1
    generalize (waysT 7 8 f).length = n1 at *
    have z1 : ((n1 : Int) == 0) = false := by simp; omega
    go_wp2_with fail
    refine (ways_any 7 7 _ HLn1.out).mono ?_
    rintro e w3 ⟨A2, c2, rfl, _, hk2⟩
    have HKn2 := Lib.hid (Keep.trans HKn1.out (hk2.mono fun _ _ h => h.elim))
    have HLn2 := Lib.hid (HLn1.out.keep hk2 (fun _ _ h => h))
    clear hk2
    have hn2 : 0 < (waysT 7 8 7).length := by decide +kernel
    generalize (waysT 7 8 7).length = n2 at *
    have HK3 := HKn2
    have HL3 := HLn2
    clear hm
    go_wp2_with fail
    refine (ways_any f 7 _ HL3.out).mono ?_
    rintro e w4 ⟨A, c, rfl, hM, hk2⟩
    have HK4 := Lib.hid (Keep.trans HK3.out (hk2.mono fun _ _ h => h.elim))
    have HL4 := Lib.hid (HL3.out.keep hk2 (fun _ _ h => h))
    have HM := Lib.hid hM
    have h4 := end4 7 f
    have h3 := end3' 7 f
    have hbd := waysT_bd 7 f
    have H4 := Lib.hid h4
    have H3 := Lib.hid h3
    clear hk2 hM h4 h3
    generalize waysT 7 8 f = W at *
    go_wp2_with fail
    go_loop [6] (fun i => ∃ k : Nat, k ≤ W.length ∧ i = .int .i64 (k : Int)) (fun i => W.length - (intOf i).toNat)
    case atStart => exact ⟨0, Nat.zero_le _, rfl⟩
    case round =>
      obtain ⟨k, hk, rfl⟩ := hrel
      by_cases hlt : k < W.length
      · obtain ⟨g, off, A', c', rfl, q1, _⟩ := HM.out.2 k hlt
        have hx := H3.out (W.getD k []) (by simp [List.getD, hlt])
        generalize W.getD k [] = x at *
        go_wp2
        go_round
        case rel => exact ⟨k + 1, by omega, by go_num⟩
        case measure => simp [intOf]; omega
      · obtain rfl : k = W.length := by omega
        by_cases hft : f = 7
        · have hp : 0 < W.length := of_decide_eq_true (by rw [H4.out]; simp [hft])
          have z5 : ((f : Int) == (7 : Int)) = true := by simp; omega
          clear hft
          go_wp2
          go_ret
          exact ⟨rfl, HK4.out.b⟩
        · have z5 : ((f : Int) == (7 : Int)) = false := by simp; omega
          by_cases hlt2 : f < 7
          · have hd : decide (0 < W.length) = reachB 8 f 7 := by rw [H4.out]; simp [hft, hlt2]
            have HD := Lib.hid hd
            clear hd hft
            go_wp2_with fail
            refine (reaches_any 7 8 f (by omega) _ HL4.out).mono ?_
            rintro e w5 ⟨rfl, hk5⟩
            have HK5 := Lib.hid (HK4.out.trans (hk5.mono fun _ _ h => h.elim))
            clear hk5
            cases hb : reachB 8 f 7
            · have hp : W.length ≤ 0 := by
                have := HD.out
                rw [hb] at this
                have := of_decide_eq_false this
                omega
              clear hb
              go_wp2
              go_ret
              exact ⟨ret_bool (by simpa using hp), HK5.out.b⟩
            · have hp : 0 < W.length := of_decide_eq_true (by rw [HD.out, hb])
              clear hb
              go_wp2
              go_ret
              exact ⟨rfl, HK5.out.b⟩
          · have hp : W.length ≤ 0 := by
              have := H4.out
              simp [hft, hlt2] at this
              simp [this]
            clear hft
            go_wp2
            go_ret
            exact ⟨ret_bool (by simpa using hp), HK4.out.b⟩
  · rw [decide_eq_true hm]
    go_wp2_with fail
    refine (ways_any f 7 _ HL1.out).mono ?_
    rintro e w2 ⟨A1, c1, rfl, _, hk2⟩
    have HKn1 := Lib.hid (Keep.trans HK.out (hk2.mono fun _ _ h => h.elim))
    have HLn1 := Lib.hid (HL1.out.keep hk2 (fun _ _ h => h))
    clear hk2
    have hn1 : 0 < (waysT 7 8 f).length := end1 f (by omega) hm.1
    generalize (waysT 7 8 f).length = n1 at *
    have z1 : ((n1 : Int) == 0) = false := by simp; omega
    have z3 : ((t : Int) != 7) = true := by simp; omega
    go_wp2_with fail
    refine (ways_any 7 t _ HLn1.out).mono ?_
    rintro e w3 ⟨A2, c2, rfl, _, hk2⟩
    have HKn2 := Lib.hid (Keep.trans HKn1.out (hk2.mono fun _ _ h => h.elim))
    have HLn2 := Lib.hid (HLn1.out.keep hk2 (fun _ _ h => h))
    clear hk2
    have hn2 : (waysT t 8 7).length = 0 := end2' t h7
    generalize (waysT t 8 7).length = n2 at *
    have z2 : n2 ≤ 0 := by omega
    have Z2 := Lib.hid hn2
    clear hn2 h7
    have HK3 := HKn2
    have HL3 := HLn2
    clear hm
    go_wp2_with fail
    refine (ways_any f t _ HL3.out).mono ?_
    rintro e w4 ⟨A, c, rfl, hM, hk2⟩
    have HK4 := Lib.hid (Keep.trans HK3.out (hk2.mono fun _ _ h => h.elim))
    have HL4 := Lib.hid (HL3.out.keep hk2 (fun _ _ h => h))
    have HM := Lib.hid hM
    have h4 := end4 t f
    have h3 := end3' t f
    have hbd := waysT_bd t f
    have H4 := Lib.hid h4
    have H3 := Lib.hid h3
    clear hk2 hM h4 h3
    generalize waysT t 8 f = W at *
    go_wp2_with fail
    go_loop [6] (fun i => ∃ k : Nat, k ≤ W.length ∧ i = .int .i64 (k : Int)) (fun i => W.length - (intOf i).toNat)
    case atStart => exact ⟨0, Nat.zero_le _, rfl⟩
    case round =>
      obtain ⟨k, hk, rfl⟩ := hrel
      by_cases hlt : k < W.length
      · obtain ⟨g, off, A', c', rfl, q1, _⟩ := HM.out.2 k hlt
        have hx := H3.out (W.getD k []) (by simp [List.getD, hlt])
        generalize W.getD k [] = x at *
        go_wp2
        go_round
        case rel => exact ⟨k + 1, by omega, by go_num⟩
        case measure => simp [intOf]; omega
      · obtain rfl : k = W.length := by omega
        by_cases hft : f = t
        · have hp : 0 < W.length := of_decide_eq_true (by rw [H4.out]; simp [hft])
          have z5 : ((f : Int) == (t : Int)) = true := by simp; omega
          clear hft
          go_wp2
          go_ret
          exact ⟨rfl, HK4.out.b⟩
        · have z5 : ((f : Int) == (t : Int)) = false := by simp; omega
          by_cases hlt2 : f < t
          · have hd : decide (0 < W.length) = reachB 8 f t := by rw [H4.out]; simp [hft, hlt2]
            have HD := Lib.hid hd
            clear hd hft
            go_wp2_with fail
            refine (reaches_any t 8 f (by omega) _ HL4.out).mono ?_
            rintro e w5 ⟨rfl, hk5⟩
            have HK5 := Lib.hid (HK4.out.trans (hk5.mono fun _ _ h => h.elim))
            clear hk5
            cases hb : reachB 8 f t
            · have hp : W.length ≤ 0 := by
                have := HD.out
                rw [hb] at this
                have := of_decide_eq_false this
                omega
              clear hb
              go_wp2
              go_ret
              exact ⟨ret_bool (by simpa using hp), HK5.out.b⟩
            · have hp : 0 < W.length := of_decide_eq_true (by rw [HD.out, hb])
              clear hb
              go_wp2
              go_ret
              exact ⟨rfl, HK5.out.b⟩
          · have hp : W.length ≤ 0 := by
              have := H4.out
              simp [hft, hlt2] at this
              simp [this]
            clear hft
            go_wp2
            go_ret
            exact ⟨ret_bool (by simpa using hp), HK4.out.b⟩
  · subst h7
    rw [decide_eq_false hm]
    go_wp2_with fail
    refine (ways_any 7 7 _ HL1.out).mono ?_
    rintro e w3 ⟨A2, c2, rfl, _, hk2⟩
    have HKn2 := Lib.hid (Keep.trans HK.out (hk2.mono fun _ _ h => h.elim))
    have HLn2 := Lib.hid (HL1.out.keep hk2 (fun _ _ h => h))
    clear hk2
    have hn2 : 0 < (waysT 7 8 7).length := by decide +kernel
    generalize (waysT 7 8 7).length = n2 at *
    have HK3 := HKn2
    have HL3 := HLn2
    clear hm
    go_wp2_with fail
    refine (ways_any f 7 _ HL3.out).mono ?_
    rintro e w4 ⟨A, c, rfl, hM, hk2⟩
    have HK4 := Lib.hid (Keep.trans HK3.out (hk2.mono fun _ _ h => h.elim))
    have HL4 := Lib.hid (HL3.out.keep hk2 (fun _ _ h => h))
    have HM := Lib.hid hM
    have h4 := end4 7 f
    have h3 := end3' 7 f
    have hbd := waysT_bd 7 f
    have H4 := Lib.hid h4
    have H3 := Lib.hid h3
    clear hk2 hM h4 h3
    generalize waysT 7 8 f = W at *
    go_wp2_with fail
    go_loop [6] (fun i => ∃ k : Nat, k ≤ W.length ∧ i = .int .i64 (k : Int)) (fun i => W.length - (intOf i).toNat)
    case atStart => exact ⟨0, Nat.zero_le _, rfl⟩
    case round =>
      obtain ⟨k, hk, rfl⟩ := hrel
      by_cases hlt : k < W.length
      · obtain ⟨g, off, A', c', rfl, q1, _⟩ := HM.out.2 k hlt
        have hx := H3.out (W.getD k []) (by simp [List.getD, hlt])
        generalize W.getD k [] = x at *
        go_wp2
        go_round
        case rel => exact ⟨k + 1, by omega, by go_num⟩
        case measure => simp [intOf]; omega
      · obtain rfl : k = W.length := by omega
        by_cases hft : f = 7
        · have hp : 0 < W.length := of_decide_eq_true (by rw [H4.out]; simp [hft])
          have z5 : ((f : Int) == (7 : Int)) = true := by simp; omega
          clear hft
          go_wp2
          go_ret
          exact ⟨rfl, HK4.out.b⟩
        · have z5 : ((f : Int) == (7 : Int)) = false := by simp; omega
          by_cases hlt2 : f < 7
          · have hd : decide (0 < W.length) = reachB 8 f 7 := by rw [H4.out]; simp [hft, hlt2]
            have HD := Lib.hid hd
            clear hd hft
            go_wp2_with fail
            refine (reaches_any 7 8 f (by omega) _ HL4.out).mono ?_
            rintro e w5 ⟨rfl, hk5⟩
            have HK5 := Lib.hid (HK4.out.trans (hk5.mono fun _ _ h => h.elim))
            clear hk5
            cases hb : reachB 8 f 7
            · have hp : W.length ≤ 0 := by
                have := HD.out
                rw [hb] at this
                have := of_decide_eq_false this
                omega
              clear hb
              go_wp2
              go_ret
              exact ⟨ret_bool (by simpa using hp), HK5.out.b⟩
            · have hp : 0 < W.length := of_decide_eq_true (by rw [HD.out, hb])
              clear hb
              go_wp2
              go_ret
              exact ⟨rfl, HK5.out.b⟩
          · have hp : W.length ≤ 0 := by
              have := H4.out
              simp [hft, hlt2] at this
              simp [this]
            clear hft
            go_wp2
            go_ret
            exact ⟨ret_bool (by simpa using hp), HK4.out.b⟩
  · rw [decide_eq_false hm]
    have z3 : ((t : Int) != 7) = true := by simp; omega
    go_wp2_with fail
    refine (ways_any 7 t _ HL1.out).mono ?_
    rintro e w3 ⟨A2, c2, rfl, _, hk2⟩
    have HKn2 := Lib.hid (Keep.trans HK.out (hk2.mono fun _ _ h => h.elim))
    have HLn2 := Lib.hid (HL1.out.keep hk2 (fun _ _ h => h))
    clear hk2
    have hn2 : (waysT t 8 7).length = 0 := end2' t h7
    generalize (waysT t 8 7).length = n2 at *
    have z2 : n2 ≤ 0 := by omega
    have Z2 := Lib.hid hn2
    clear hn2 h7
    have HK3 := HKn2
    have HL3 := HLn2
    clear hm
    go_wp2_with fail
    refine (ways_any f t _ HL3.out).mono ?_
    rintro e w4 ⟨A, c, rfl, hM, hk2⟩
    have HK4 := Lib.hid (Keep.trans HK3.out (hk2.mono fun _ _ h => h.elim))
    have HL4 := Lib.hid (HL3.out.keep hk2 (fun _ _ h => h))
    have HM := Lib.hid hM
    have h4 := end4 t f
    have h3 := end3' t f
    have hbd := waysT_bd t f
    have H4 := Lib.hid h4
    have H3 := Lib.hid h3
    clear hk2 hM h4 h3
    generalize waysT t 8 f = W at *
    go_wp2_with fail
    go_loop [6] (fun i => ∃ k : Nat, k ≤ W.length ∧ i = .int .i64 (k : Int)) (fun i => W.length - (intOf i).toNat)
    case atStart => exact ⟨0, Nat.zero_le _, rfl⟩
    case round =>
      obtain ⟨k, hk, rfl⟩ := hrel
      by_cases hlt : k < W.length
      · obtain ⟨g, off, A', c', rfl, q1, _⟩ := HM.out.2 k hlt
        have hx := H3.out (W.getD k []) (by simp [List.getD, hlt])
        generalize W.getD k [] = x at *
        go_wp2
        go_round
        case rel => exact ⟨k + 1, by omega, by go_num⟩
        case measure => simp [intOf]; omega
      · obtain rfl : k = W.length := by omega
        by_cases hft : f = t
        · have hp : 0 < W.length := of_decide_eq_true (by rw [H4.out]; simp [hft])
          have z5 : ((f : Int) == (t : Int)) = true := by simp; omega
          clear hft
          go_wp2
          go_ret
          exact ⟨rfl, HK4.out.b⟩
        · have z5 : ((f : Int) == (t : Int)) = false := by simp; omega
          by_cases hlt2 : f < t
          · have hd : decide (0 < W.length) = reachB 8 f t := by rw [H4.out]; simp [hft, hlt2]
            have HD := Lib.hid hd
            clear hd hft
            go_wp2_with fail
            refine (reaches_any t 8 f (by omega) _ HL4.out).mono ?_
            rintro e w5 ⟨rfl, hk5⟩
            have HK5 := Lib.hid (HK4.out.trans (hk5.mono fun _ _ h => h.elim))
            clear hk5
            cases hb : reachB 8 f t
            · have hp : W.length ≤ 0 := by
                have := HD.out
                rw [hb] at this
                have := of_decide_eq_false this
                omega
              clear hb
              go_wp2
              go_ret
              exact ⟨ret_bool (by simpa using hp), HK5.out.b⟩
            · have hp : 0 < W.length := of_decide_eq_true (by rw [HD.out, hb])
              clear hb
              go_wp2
              go_ret
              exact ⟨rfl, HK5.out.b⟩
          · have hp : W.length ≤ 0 := by
              have := H4.out
              simp [hft, hlt2] at this
              simp [this]
            clear hft
            go_wp2
            go_ret
            exact ⟨ret_bool (by simpa using hp), HK4.out.b⟩
end Go.Proofs.YtngjecbdajognaaDoor
