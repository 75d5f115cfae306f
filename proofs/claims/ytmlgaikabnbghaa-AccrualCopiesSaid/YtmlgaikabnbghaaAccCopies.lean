/-
  AccrualCopies: the walk of the law.
-/
import Derived.Test.YtmlgaikabnbghaaAccF
namespace Go.Proofs.Ytmlgaikabnbghaa
open Go.RowKit

theorem do2_begin {w0 w : World} {b b' : Nat} {d d' : D} (h : Now2 w0 b d b' d' w) (now : Int) :
    Calls Try.prog 19 #[.agg #[.int .u8 0, .int .i64 now], .pointer (some ⟨b, 0, none⟩)] w fun e w' => e = .returned (.tuple #[]) ∧ Now2 w0 b (stepD d (0, now)) b' d' w' := by
  have H := Lib.hid (stepD_zero d now)
  go_enter Try.func19, Try.ntmps19
  go_wp2_with fail
  refine (now2_begin (h.keep (S := fun _ => False) ((Keep.refl _ w).alloc _) (fun _ h => h)) now).mono ?_
  rintro e w1 ⟨rfl, h1⟩
  go_wp2
  go_end0
  exact ⟨rfl, by rw [H.out]; exact h1⟩
theorem do2_heard {w0 w : World} {b b' : Nat} {d d' : D} (h : Now2 w0 b d b' d' w) (k now : Int) (hk : ¬ k = 0) :
    Calls Try.prog 19 #[.agg #[.int .u8 k, .int .i64 now], .pointer (some ⟨b, 0, none⟩)] w fun e w' => e = .returned (.tuple #[]) ∧ Now2 w0 b (stepD d (k, now)) b' d' w' := by
  have H := Lib.hid (stepD_pos d k now hk)
  have hk0 : (k == 0) = false := by simpa using hk
  clear hk
  go_enter Try.func19, Try.ntmps19
  go_wp2_with fail
  refine (now2_heard (h.keep (S := fun _ => False) ((Keep.refl _ w).alloc _) (fun _ h => h)) now).mono ?_
  rintro e w1 ⟨rfl, h1⟩
  go_wp2
  go_end0
  exact ⟨rfl, by rw [H.out]; exact h1⟩
theorem do2_any {w0 w : World} {b b' : Nat} {d d' : D} (h : Now2 w0 b d b' d' w) (k now : Int) :
    Calls Try.prog 19 #[.agg #[.int .u8 k, .int .i64 now], .pointer (some ⟨b, 0, none⟩)] w fun e w' => e = .returned (.tuple #[]) ∧ Now2 w0 b (stepD d (k, now)) b' d' w' := by
  by_cases hk : k = 0
  · subst hk; exact do2_begin h now
  · exact do2_heard h k now hk
theorem do2_any' {w0 w : World} {b b' : Nat} {d d' : D} (h : Now2 w0 b d b' d' w) (k now : Int) :
    Calls Try.prog 19 #[.agg #[.int .u8 k, .int .i64 now], .pointer (some ⟨b', 0, none⟩)] w fun e w' => e = .returned (.tuple #[]) ∧ Now2 w0 b d b' (stepD d' (k, now)) w' :=
  (do2_any h.swap k now).mono fun _ _ ⟨he, h⟩ => ⟨he, h.swap⟩

set_option maxRecDepth 100000 in
set_option maxHeartbeats 1000000 in
theorem copies_far (least most window : Int) (A A' : Option Addr) (n c m c' : Nat) (w : World) (hn : 300 < n ∨ 300 < m) (hm : n ≤ maxLen) (hm' : m ≤ maxLen) :
    Calls Try.prog 9 #[.int .i64 least, .int .i64 most, .int .i64 window, .slice A n c, .slice A' m c'] w fun e w' => e = .returned (.bool true) ∧ Below w.heap.size w w' := by
  unfold maxLen at hm hm'
  by_cases hn1 : 300 < n
  · clear hn
    go_enter Try.func9, Try.ntmps9
    go_wp2_with fail
    refine (works_any w).mono ?_
    rintro e w1 ⟨rfl, h1⟩
    go_wp2_with fail
    refine (works_any w1).mono ?_
    rintro e w2 ⟨rfl, h2⟩
    go_wp2
    go_ret
    exact ⟨rfl, h1.trans (h2.mono h1.size)⟩
  · have hm2 : 300 < m := by omega
    have hn2 : n ≤ 300 := by omega
    clear hn hn1
    go_enter Try.func9, Try.ntmps9
    go_wp2_with fail
    refine (works_any w).mono ?_
    rintro e w1 ⟨rfl, h1⟩
    go_wp2_with fail
    refine (works_any w1).mono ?_
    rintro e w2 ⟨rfl, h2⟩
    go_wp2
    go_ret
    exact ⟨rfl, h1.trans (h2.mono h1.size)⟩
set_option maxRecDepth 100000 in
set_option maxHeartbeats 1000000 in
theorem copies_bad (least most window : Int) (A A' : Option Addr) (n c m c' : Nat) (w : World) (hn : n ≤ 300) (hm : m ≤ 300) (h : ¬ MayNew least most window) :
    Calls Try.prog 9 #[.int .i64 least, .int .i64 most, .int .i64 window, .slice A n c, .slice A' m c'] w fun e w' => e = .returned (.bool true) ∧ Below w.heap.size w w' := by
  go_enter Try.func9, Try.ntmps9
  go_wp2_with fail
  refine (works_any w).mono ?_
  rintro e w1 ⟨rfl, h1⟩
  go_wp2_with fail
  refine (run_bad A n c _ _ _ _ h).mono ?_
  rintro e w2 ⟨rfl, rfl⟩
  go_wp2
  go_ret
  exact ⟨rfl, h1⟩

set_option maxRecDepth 100000 in
set_option maxHeartbeats 2000000 in
theorem copies_good (least most window : Int) (A A' : Option Addr) (n c m c' : Nat) (w : World) (l l' : List (Int × Int)) (hn : n ≤ 300) (hm : m ≤ 300) (hl : Steps w A n l) (hl' : Steps w A' m l') (h : MayNew least most window) :
    Calls Try.prog 9 #[.int .i64 least, .int .i64 most, .int .i64 window, .slice A n c, .slice A' m c'] w fun e w' => e = .returned (.bool true) ∧ Below w.heap.size w w' := by
  have HL := Lib.hid hl
  have HL' := Lib.hid hl'
  have HM := Lib.hid h
  obtain ⟨d, hd⟩ : ∃ d, d = plays (newD least most window) l := ⟨_, rfl⟩
  have HD := Lib.hid hd
  clear hl h hd hl'
  obtain ⟨L, hL⟩ : ∃ L, d.limit = L := ⟨_, rfl⟩
  obtain ⟨T, hT⟩ : ∃ T, d.late 1099511627776 = T := ⟨_, rfl⟩
  obtain ⟨L', hL'⟩ : ∃ L, (plays d l').limit = L := ⟨_, rfl⟩
  obtain ⟨T', hT'⟩ : ∃ T, (plays d l').late 5000 = T := ⟨_, rfl⟩
  have HLim := Lib.hid hL
  have HLt := Lib.hid hT
  have HLim' := Lib.hid hL'
  have HLt' := Lib.hid hT'
  clear hL hT hL' hT'
  go_enter Try.func9, Try.ntmps9
  go_wp2_with fail
  refine (works_any w).mono ?_
  rintro e w1 ⟨rfl, h1⟩
  go_wp2_with fail
  refine (run_good h1 A n c l HL.out (by omega) _ _ _ HM.out w1.heap.size rfl).mono ?_
  rw [← HD.out]
  rintro e w2 ⟨rfl, h2⟩
  generalize w1.heap.size = b at h2 ⊢
  go_wp2_with fail
  refine (now_copy h2).mono ?_
  clear h2
  rintro e w3 ⟨b', rfl, h3⟩
  go_wp2_with fail
  refine (now2_limit h3 _ HLim.out).mono ?_
  clear h3
  rintro e w4 ⟨rfl, h4⟩
  go_wp2_with fail
  refine (now2_late h4 _ _ HLt.out).mono ?_
  clear h4
  rintro e w5 ⟨rfl, h5⟩
  go_wp2
  go_loopw [16] (fun i wr => ∃ k : Nat, k ≤ m ∧ i = .int .i64 k ∧ Now2 w b d b' (plays d (l'.take k)) wr) (fun i _ => m - (intOf i).toNat)
  case atStart => exact ⟨0, Nat.zero_le _, rfl, by simpa [plays] using h5⟩
  case round =>
    obtain ⟨k, hk, rfl, hN⟩ := hrel
    clear h5
    by_cases hlt : k < m
    · obtain ⟨g', off, rfl, hg', hc1, hc2⟩ := HL'.out.2 k hlt
      have hd1 := (hN.old.cell (p := ⟨g', off + k * 2, none⟩) hg').trans hc1
      have hd2 := (hN.old.cell (p := ⟨g', off + k * 2 + 1, none⟩) hg').trans hc2
      have HP := Lib.hid (plays_succ d l' k (by rw [HL'.out.1]; exact hlt))
      generalize l'.getD k (0, 0) = s at HP hd1 hd2
      obtain ⟨s1, s2⟩ := s
      clear hc1 hc2
      simp only at hd1 hd2
      go_wp2_with fail
      refine (do2_any' hN s1 s2).mono ?_
      clear hN
      rintro e w6 ⟨rfl, h6⟩
      go_wp2
      go_roundw
      case rel => exact ⟨k + 1, by omega, by go_num, by rw [HP.out]; exact h6⟩
      case measure => simp [intOf]; omega
    · obtain rfl : k = m := by omega
      have hfull : l'.take k = l' := List.take_of_length_le (by rw [HL'.out.1]; exact Nat.le_refl _)
      rw [hfull] at hN
      clear hfull
      go_wp2_with fail
      refine (now2_limit' hN _ HLim'.out).mono ?_
      clear hN
      rintro e w6 ⟨rfl, h6⟩
      go_wp2_with fail
      refine (now2_limit h6 _ HLim.out).mono ?_
      clear h6
      rintro e w7 ⟨rfl, h7⟩
      go_wp2_with fail
      refine (now2_late h7 _ _ HLt.out).mono ?_
      clear h7
      rintro e w8 ⟨rfl, h8⟩
      go_wp2
      go_loopw [18] (fun i wr => ∃ j : Nat, j ≤ k ∧ i = .int .i64 j ∧ Now2 w b (plays d (l'.take j)) b' (plays d l') wr) (fun i _ => k - (intOf i).toNat)
      case atStart => exact ⟨0, Nat.zero_le _, rfl, by simpa [plays] using h8⟩
      case round =>
        obtain ⟨j, hj, rfl, hN⟩ := hrel
        clear h8
        by_cases hlt : j < k
        · obtain ⟨g', off, rfl, hg', hc1, hc2⟩ := HL'.out.2 j hlt
          have hd1 := (hN.old.cell (p := ⟨g', off + j * 2, none⟩) hg').trans hc1
          have hd2 := (hN.old.cell (p := ⟨g', off + j * 2 + 1, none⟩) hg').trans hc2
          have HP := Lib.hid (plays_succ d l' j (by rw [HL'.out.1]; exact hlt))
          generalize l'.getD j (0, 0) = s at HP hd1 hd2
          obtain ⟨s1, s2⟩ := s
          clear hc1 hc2
          simp only at hd1 hd2
          go_wp2_with fail
          refine (do2_any hN s1 s2).mono ?_
          clear hN
          rintro e w6 ⟨rfl, h6⟩
          go_wp2
          go_roundw
          case rel => exact ⟨j + 1, by omega, by go_num, by rw [HP.out]; exact h6⟩
          case measure => simp [intOf]; omega
        · obtain rfl : j = k := by omega
          have hfull : l'.take j = l' := List.take_of_length_le (by rw [HL'.out.1]; exact Nat.le_refl _)
          rw [hfull] at hN
          clear hfull
          go_wp2_with fail
          refine (now2_limit hN _ HLim'.out).mono ?_
          clear hN
          rintro e w6 ⟨rfl, h6⟩
          go_wp2_with fail
          refine (now2_limit' h6 _ HLim'.out).mono ?_
          clear h6
          rintro e w7 ⟨rfl, h7⟩
          go_wp2_with fail
          refine (now2_late' h7 _ _ HLt'.out).mono ?_
          clear h7
          rintro e w8 ⟨rfl, h8⟩
          go_wp2_with fail
          refine (now2_late h8 _ _ HLt'.out).mono ?_
          clear h8
          rintro e w9 ⟨rfl, h9⟩
          go_wp2
          go_ret
          exact ⟨ret_bool (by simp), h9.old⟩

theorem walkAccrualCopies {w : World} (a0 : Int) (_w0 : (Lit.int .i64 a0).wf = true) (a1 : Int) (_w1 : (Lit.int .i64 a1).wf = true) (a2 : Int) (_w2 : (Lit.int .i64 a2).wf = true) (v3 : Value) (w3 : IsSteps w v3) (v4 : Value) (w4 : IsSteps w v4) :
    Calls Try.prog 9 #[.int .i64 a0, .int .i64 a1, .int .i64 a2, v3, v4] w fun e w' => e = .returned (.bool true) ∧ Below w.heap.size w w' := by
  obtain ⟨A, n, c, l, rfl, h1, h2, hl⟩ := w3
  obtain ⟨A', m, c', l', rfl, h1', h2', hl'⟩ := w4
  by_cases hn : 300 < n ∨ 300 < m
  · exact copies_far a0 a1 a2 A A' n c m c' w hn (by omega) (by omega)
  · by_cases h : MayNew a0 a1 a2
    · exact copies_good a0 a1 a2 A A' n c m c' w l l' (by omega) (by omega) hl hl' h
    · exact copies_bad a0 a1 a2 A A' n c m c' w (by omega) (by omega) h
end Go.Proofs.Ytmlgaikabnbghaa
