/-
  AccrualBounds: the walk of the law.
-/
import Derived.Test.YtmlgaikabnbghaaAccE
namespace Go.Proofs.Ytmlgaikabnbghaa
open Go.RowKit

/-- the greatest time so far -/
def top (l : List (Int × Int)) : Int := l.foldl (fun m s => max m (min s.2 1099511627776)) 0
theorem top_succ (l : List (Int × Int)) (k : Nat) (h : k < l.length) : top (l.take (k + 1)) = max (top (l.take k)) (min (l.getD k (0, 0)).2 1099511627776) := by
  unfold top
  rw [List.take_succ_eq_append_getElem h, List.foldl_append]
  simp [List.getD, h]
theorem foldl_top (l : List (Int × Int)) : ∀ m : Int, 0 ≤ m → m ≤ 1099511627776 → m ≤ l.foldl (fun m s => max m (min s.2 1099511627776)) m ∧ l.foldl (fun m s => max m (min s.2 1099511627776)) m ≤ 1099511627776 := by
  induction l with
  | nil => intro m h1 h2; exact ⟨Int.le_refl _, h2⟩
  | cons s t ih =>
    intro m h1 h2
    have := ih (max m (min s.2 1099511627776)) (by omega) (by omega)
    exact ⟨by simp only [List.foldl_cons]; omega, by simp only [List.foldl_cons]; omega⟩
theorem top_bd (l : List (Int × Int)) : 0 ≤ top l ∧ top l ≤ 1099511627776 := foldl_top l 0 (by decide) (by decide)
theorem plays_same (l : List (Int × Int)) : ∀ d : D, (plays d l).mn = d.mn ∧ (plays d l).mx = d.mx ∧ (plays d l).wd = d.wd := by
  induction l with
  | nil => intro d; exact ⟨rfl, rfl, rfl⟩
  | cons s t ih =>
    intro d
    have := ih (stepD d s)
    have h2 : (stepD d s).mn = d.mn ∧ (stepD d s).mx = d.mx ∧ (stepD d s).wd = d.wd := by
      unfold stepD D.begin_ D.heard
      split
      · split <;> exact ⟨rfl, rfl, rfl⟩
      · exact ⟨rfl, rfl, rfl⟩
    exact ⟨this.1.trans h2.1, this.2.1.trans h2.2.1, this.2.2.trans h2.2.2⟩
theorem plays_last (l : List (Int × Int)) : ∀ (d : D) (m : Int), 0 ≤ m → m ≤ 1099511627776 → d.last ≤ m → (plays d l).last ≤ l.foldl (fun m s => max m (min s.2 1099511627776)) m := by
  induction l with
  | nil => intro d m _ _ h; exact h
  | cons s t ih =>
    intro d m h1 h2 h
    refine ih (stepD d s) (max m (min s.2 1099511627776)) (by omega) (by omega) ?_
    unfold stepD D.begin_ D.heard atv wi
    split
    · split
      · simp only; omega
      · omega
    · simp only; omega

theorem heard_late (d : D) (now t : Int) (h1 : d.last ≤ now) (h2 : 0 ≤ now) (h4 : 0 ≤ t) (h5 : now + t ≤ 1099511627776) :
    (d.heard now).late (now + t) = decide ((d.heard now).limit < t) := by
  have ha : (d.heard now).last = now := by unfold D.heard atv wi; simp only; omega
  unfold D.late
  have hne : ¬ (d.heard now).last = -1 := by rw [ha]; omega
  rw [if_neg hne, ha]
  have hb : atv now (now + t) - now = t := by unfold atv wi; omega
  rw [hb]

set_option maxRecDepth 100000 in
set_option maxHeartbeats 1000000 in
theorem bounds_far (least most window now ticks : Int) (A : Option Addr) (n c : Nat) (w : World) (hn : 500 < n) (hm : n ≤ maxLen) :
    Calls Try.prog 3 #[.int .i64 least, .int .i64 most, .int .i64 window, .slice A n c, .int .i64 now, .int .i64 ticks] w fun e w' => e = .returned (.bool true) ∧ Below w.heap.size w w' := by
  unfold maxLen at hm
  go_enter Try.func3, Try.ntmps3
  go_wp2_with fail
  refine (works_any w).mono ?_
  rintro e w1 ⟨rfl, h1⟩
  go_wp2_with fail
  refine (works_any w1).mono ?_
  rintro e w2 ⟨rfl, h2⟩
  go_wp2
  go_ret
  exact ⟨rfl, h1.trans (h2.mono h1.size)⟩
set_option maxRecDepth 100000 in
set_option maxHeartbeats 1000000 in
theorem bounds_bad (least most window now ticks : Int) (A : Option Addr) (n c : Nat) (w : World) (hn : n ≤ 500) (h : ¬ MayNew least most window) :
    Calls Try.prog 3 #[.int .i64 least, .int .i64 most, .int .i64 window, .slice A n c, .int .i64 now, .int .i64 ticks] w fun e w' => e = .returned (.bool true) ∧ Below w.heap.size w w' := by
  go_enter Try.func3, Try.ntmps3
  go_wp2_with fail
  refine (works_any w).mono ?_
  rintro e w1 ⟨rfl, h1⟩
  go_wp2_with fail
  refine (run_bad A n c _ _ _ _ h).mono ?_
  rintro e w2 ⟨rfl, rfl⟩
  go_wp2
  go_ret
  exact ⟨rfl, h1⟩
set_option maxRecDepth 100000 in
set_option maxHeartbeats 2000000 in
theorem bounds_good (least most window now ticks : Int) (A : Option Addr) (n c : Nat) (w : World) (l : List (Int × Int)) (hn : n ≤ 500) (hl : Steps w A n l) (h : MayNew least most window) :
    Calls Try.prog 3 #[.int .i64 least, .int .i64 most, .int .i64 window, .slice A n c, .int .i64 now, .int .i64 ticks] w fun e w' => e = .returned (.bool true) ∧ Below w.heap.size w w' := by
  have HL := Lib.hid hl
  have HM := Lib.hid h
  obtain ⟨d, hd⟩ : ∃ d, d = plays (newD least most window) l := ⟨_, rfl⟩
  have hs : d.mn = least ∧ d.mx = most := by rw [hd]; exact ⟨(plays_same l _).1, (plays_same l _).2.1⟩
  have hlast : d.last ≤ top l := by rw [hd]; exact plays_last l _ 0 (by decide) (by decide) (by simp [newD])
  have htop := top_bd l
  obtain ⟨g, hg, e1⟩ := mod_u64 ticks 10000 (by decide) (by decide)
  obtain ⟨m1, hm1⟩ : ∃ m1 : Int, (if (1099511627776 : Int) < now then 1099511627776 else now) = m1 := ⟨_, rfl⟩
  obtain ⟨T, hT⟩ : ∃ T, T = top l := ⟨_, rfl⟩
  rw [← hT] at htop hlast
  obtain ⟨q, hq⟩ : ∃ q : Int, (if T < m1 then m1 else T) = q := ⟨_, rfl⟩
  have hq1 : T ≤ q ∧ q ≤ 1099511627776 := by
    rw [← hq, ← hm1]
    split <;> split <;> omega
  have HT := Lib.hid hT
  have HD := Lib.hid hd
  have HS := Lib.hid hs
  clear hl h hd hs hT
  go_enter Try.func3, Try.ntmps3
  go_wp2_with fail
  refine (works_any w).mono ?_
  rintro e w1 ⟨rfl, h1⟩
  go_wp2_with fail
  refine (run_good h1 A n c l HL.out (by omega) _ _ _ HM.out w1.heap.size rfl).mono ?_
  rw [← HD.out]
  rintro e w2 ⟨rfl, h2⟩
  generalize w1.heap.size = b at h2 ⊢
  obtain ⟨L, hL⟩ : ∃ L, d.limit = L := ⟨_, rfl⟩
  have hLb := D.limit_bd h2.ok
  rw [hL, HS.out.1, HS.out.2] at hLb
  have HLim := Lib.hid hL
  clear hL
  go_wp2_with fail
  refine (now_limit h2 _ HLim.out).mono ?_
  clear h2
  rintro e w3 ⟨rfl, h3⟩
  go_wp2_with fail
  refine (now_limit h3 _ HLim.out).mono ?_
  clear h3
  rintro e w4 ⟨rfl, h4⟩
  go_wp2
  go_loop [15, 16] (fun t i => ∃ k : Nat, k ≤ n ∧ i = .int .i64 k ∧ t = .int .i64 (top (l.take k))) (fun _ i => n - (intOf i).toNat)
  case atStart => exact ⟨0, Nat.zero_le _, rfl, by simp [top]⟩
  case round =>
    obtain ⟨k, hk, rfl, rfl⟩ := hrel
    by_cases hlt : k < n
    · obtain ⟨g', off, rfl, hg', hc1, hc2⟩ := HL.out.2 k hlt
      have hd2 := (h4.old.cell (p := ⟨g', off + k * 2 + 1, none⟩) hg').trans hc2
      have HP := Lib.hid (top_succ l k (by rw [HL.out.1]; exact hlt))
      generalize l.getD k (0, 0) = s at HP hd2
      obtain ⟨s1, s2⟩ := s
      clear hc1 hc2
      have htk := top_bd (l.take k)
      generalize top (l.take k) = tk at HP htk ⊢
      simp only at hd2
      go_wp2
      all_goals
        go_round
        case rel => exact ⟨k + 1, by omega, by go_num, by rw [HP.out]; congr 1; simp only; omega⟩
        case measure => simp [intOf]; omega
    · obtain rfl : k = n := by omega
      have hfull : l.take k = l := List.take_of_length_le (by rw [HL.out.1]; exact Nat.le_refl _)
      rw [hfull, ← HT.out]
      clear hfull
      have HLate := Lib.hid (heard_late d q g (by omega) (by omega) (by omega))
      go_wp2_with fail
      refine (now_heard h4 q).mono ?_
      clear h4
      rintro e w5 ⟨rfl, h5⟩
      obtain ⟨M, hM⟩ : ∃ M, (d.heard q).limit = M := ⟨_, rfl⟩
      have hMb := D.limit_bd h5.ok
      have hs2 : (d.heard q).mn = least ∧ (d.heard q).mx = most := HS.out
      rw [hM, hs2.1, hs2.2] at hMb
      rw [hM] at HLate
      have HLM := Lib.hid hM
      clear hM hs2
      generalize d.heard q = d5 at h5 HLate HLM
      by_cases hbig : 1099511627776 < q + g
      · go_wp2
        go_ret
        exact ⟨rfl, h5.old⟩
      · have HLt := Lib.hid (HLate.out (by omega))
        clear HLate
        have hbig2 : q + g ≤ 1099511627776 := by omega
        clear hbig
        by_cases ht1 : (g : Int) ≤ least
        · have hlt0 : decide (M < (g : Int)) = false := decide_eq_false (by omega)
          go_wp2_with fail
          refine (now_late h5 _ _ HLt.out).mono ?_
          clear h5
          rintro e w6 ⟨rfl, h6⟩
          go_wp2_with fail
          refine (now_late h6 _ _ HLt.out).mono ?_
          clear h6
          rintro e w7 ⟨rfl, h7⟩
          go_wp2_with fail
          refine (now_limit h7 _ HLM.out).mono ?_
          clear h7
          rintro e w8 ⟨rfl, h8⟩
          go_wp2
          go_ret
          exact ⟨rfl, h8.old⟩
        · by_cases ht2 : (g : Int) ≤ most
          · go_wp2_with fail
            refine (now_late h5 _ _ HLt.out).mono ?_
            clear h5
            rintro e w6 ⟨rfl, h6⟩
            go_wp2_with fail
            refine (now_limit h6 _ HLM.out).mono ?_
            clear h6
            rintro e w7 ⟨rfl, h7⟩
            go_wp2
            go_ret
            exact ⟨rfl, h7.old⟩
          · have hlt0 : decide (M < (g : Int)) = true := decide_eq_true (by omega)
            go_wp2_with fail
            refine (now_late h5 _ _ HLt.out).mono ?_
            clear h5
            rintro e w6 ⟨rfl, h6⟩
            go_wp2_with fail
            refine (now_late h6 _ _ HLt.out).mono ?_
            clear h6
            rintro e w7 ⟨rfl, h7⟩
            go_wp2_with fail
            refine (now_limit h7 _ HLM.out).mono ?_
            clear h7
            rintro e w8 ⟨rfl, h8⟩
            go_wp2
            go_ret
            exact ⟨rfl, h8.old⟩

theorem walkAccrualBounds {w : World} (a0 : Int) (_w0 : (Lit.int .i64 a0).wf = true) (a1 : Int) (_w1 : (Lit.int .i64 a1).wf = true) (a2 : Int) (_w2 : (Lit.int .i64 a2).wf = true) (v3 : Value) (w3 : IsSteps w v3) (a4 : Int) (_w4 : (Lit.int .i64 a4).wf = true)
    (a5 : Int) (_w5 : (Lit.int .i64 a5).wf = true) : Calls Try.prog 3 #[.int .i64 a0, .int .i64 a1, .int .i64 a2, v3, .int .i64 a4, .int .i64 a5] w fun e w' => e = .returned (.bool true) ∧ Below w.heap.size w w' := by
  obtain ⟨A, n, c, l, rfl, h1, h2, hl⟩ := w3
  by_cases hn : 500 < n
  · exact bounds_far a0 a1 a2 a4 a5 A n c w hn (by omega)
  · by_cases h : MayNew a0 a1 a2
    · exact bounds_good a0 a1 a2 a4 a5 A n c w l (by omega) hl h
    · exact bounds_bad a0 a1 a2 a4 a5 A n c w (by omega) h
end Go.Proofs.Ytmlgaikabnbghaa
