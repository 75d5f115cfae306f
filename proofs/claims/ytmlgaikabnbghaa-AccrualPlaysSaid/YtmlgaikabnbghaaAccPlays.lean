/-
  AccrualPlays: the program's detector plays as the reference's.
-/
import Derived.Test.YtmlgaikabnbghaaAccU
namespace Go.Proofs.Ytmlgaikabnbghaa
open Go.RowKit

theorem below_dd {B : Nat} {w w' : World} (h : Below B w w') (n : Nat) : Below B w (w'.drewN n) := ⟨h.os, h.tape, h.output, h.size, h.block⟩
set_option maxRecDepth 100000 in
set_option maxHeartbeats 1000000 in
theorem plays_far (least most window : Int) (A A' : Option Addr) (n c m c' : Nat) (w : World) (h : 300 < n ∨ 30 < m) (hn : n ≤ 9223372036854775807) (hm : m ≤ 9223372036854775807) :
    Calls Try.prog 8 #[.int .i64 least, .int .i64 most, .int .i64 window, .slice A n c, .slice A' m c'] w fun e w' => e = .returned (.bool true) ∧ Below w.heap.size w w' := by
  by_cases h1 : 300 < n
  · clear h
    go_enter Try.func8, Try.ntmps8
    go_wp2
    go_ret
    exact ⟨rfl, Below.refl _ _⟩
  · have h2 : 30 < m := by omega
    clear h
    go_enter Try.func8, Try.ntmps8
    go_wp2
    go_ret
    exact ⟨rfl, Below.refl _ _⟩
set_option maxRecDepth 100000 in
set_option maxHeartbeats 1000000 in
theorem plays_bad (least most window : Int) (A A' : Option Addr) (n c m c' : Nat) (w : World) (hn : n ≤ 300) (hm : m ≤ 30) (h : ¬ MayNew least most window) :
    Calls Try.prog 8 #[.int .i64 least, .int .i64 most, .int .i64 window, .slice A n c, .slice A' m c'] w fun e w' => e = .returned (.bool true) ∧ Below w.heap.size w w' := by
  have H := Lib.hid h
  clear h
  go_enter Try.func8, Try.ntmps8
  go_wp2_with fail
  refine (new_bad _ _ _ _ H.out).mono ?_
  rintro e w1 ⟨rfl, rfl⟩
  go_wp2_with fail
  refine (rnew_bad _ _ _ _ H.out).mono ?_
  rintro e w1 ⟨rfl, rfl⟩
  go_wp2
  go_ret
  exact ⟨rfl, Below.refl _ _⟩

set_option maxRecDepth 100000 in
set_option maxHeartbeats 2000000 in
theorem plays_good (least most window : Int) (A A' : Option Addr) (n c m c' : Nat) (w : World) (l : List (Int × Int)) (ts : List Int) (hn : n ≤ 300) (hm : m ≤ 30) (hl : Steps w A n l) (ht : Ints w A' m ts) (h : MayNew least most window) :
    Calls Try.prog 8 #[.int .i64 least, .int .i64 most, .int .i64 window, .slice A n c, .slice A' m c'] w fun e w' => e = .returned (.bool true) ∧ Below w.heap.size w w' := by
  have HL := Lib.hid hl
  have HT := Lib.hid ht
  have HM := Lib.hid h
  clear hl ht h
  go_enter Try.func8, Try.ntmps8
  go_wp2_with fail
  refine (now_new (Below.refl _ w) _ _ _ HM.out).mono ?_
  rintro e w1 ⟨rfl, h1⟩
  obtain ⟨row, h1⟩ := h1
  generalize w.heap.size = b at h1 ⊢
  go_wp2_with fail
  refine (both_new h1 _ _ _ HM.out).mono ?_
  clear h1
  rintro e w2 ⟨rfl, h2⟩
  generalize w1.heap.size = b' at h2 ⊢
  have H2 := Lib.hid h2
  clear h2
  have HP := Lib.hid (fun k : Nat => plays_both least most window HM.out (l.take k))
  go_wp2
  go_loopw [15] (fun i wr => ∃ k : Nat, k ≤ n ∧ i = .int .i64 (k : Int) ∧ Hid (Both w b (plays (newD least most window) (l.take k)) b' (playsR ⟨least, most, window, false, 0, []⟩ (l.take k)) wr)) (fun i _ => n - (intOf i).toNat)
  case atStart => exact ⟨0, Nat.zero_le _, rfl, H2⟩
  case round =>
    obtain ⟨k, hk, rfl, HB⟩ := hrel
    by_cases hlt : k < n
    · obtain ⟨g, off, rfl, hg, hc1, hc2⟩ := HL.out.2 k hlt
      have HS1 := Lib.hid (plays_succ (newD least most window) l k (by rw [HL.out.1]; exact hlt))
      have HS2 := Lib.hid (playsR_succ ⟨least, most, window, false, 0, []⟩ l k (by rw [HL.out.1]; exact hlt))
      obtain ⟨hp1, hp2, hp3⟩ := HP.out (k + 1)
      rw [HS1.out, HS2.out] at hp1
      rw [HS2.out] at hp2 hp3
      obtain ⟨-, -, hp4⟩ := HP.out k
      have hp5 : (playsR ⟨least, most, window, false, 0, []⟩ (l.take k)).gaps.length ≤ 300 := by
        have : (l.take k).length ≤ k := List.length_take_le _ _
        omega
      have hp6 : (stepR (playsR ⟨least, most, window, false, 0, []⟩ (l.take k)) (l.getD k (0, 0))).gaps.length ≤ 301 := by
        have : (l.take (k + 1)).length ≤ k + 1 := List.length_take_le _ _
        omega
      clear hp3 hp4
      generalize plays (newD least most window) (l.take k) = d at *
      generalize playsR ⟨least, most, window, false, 0, []⟩ (l.take k) = r at *
      generalize l.getD k (0, 0) = s at *
      obtain ⟨s1, s2⟩ := s
      simp only at hc1 hc2
      have HC1 := Lib.hid hc1
      have HC2 := Lib.hid hc2
      have P1 := Lib.hid hp1
      have P2 := Lib.hid hp2
      have P5 := Lib.hid hp5
      have P6 := Lib.hid hp6
      clear hc1 hc2 hp1 hp2 hp5 hp6
      have q1 := (HB.out.old.cell (p := ⟨g, off + k * 2, none⟩) hg).trans HC1.out
      have q2 := (HB.out.old.cell (p := ⟨g, off + k * 2 + 1, none⟩) hg).trans HC2.out
      go_wp2_with fail
      refine (both_do HB.out s1 s2).mono ?_
      rintro e w3 ⟨rfl, h3⟩
      have H3 := Lib.hid h3
      clear h3 q1 q2 HB
      have q1 := (H3.out.old.cell (p := ⟨g, off + k * 2, none⟩) hg).trans HC1.out
      have q2 := (H3.out.old.cell (p := ⟨g, off + k * 2 + 1, none⟩) hg).trans HC2.out
      by_cases hz : s1 = 0
      · subst hz
        have HR := Lib.hid (show stepR r (0, s2) = r.begin_ s2 from rfl)
        go_wp2_with fail
        refine (both_rbegin H3.out s2).mono ?_
        rintro e w4 ⟨rfl, h4⟩
        rw [← HR.out] at h4
        have H4 := Lib.hid h4
        clear h4 q1 q2 H3
        generalize stepR r (0, s2) = r' at *
        generalize stepD d (0, s2) = d' at *
        have HV := Lib.hid (P1.out.limit P2.out)
        generalize hv : r'.limit = v at *
        have HV2 := Lib.hid hv
        clear hv
        go_wp2_with fail
        refine (both_limit H4.out v HV.out).mono ?_
        rintro e w5 ⟨rfl, kk, rfl⟩
        go_wp2_with fail
        refine (both_rlimit (H4.out.drewN kk) (by have := P6.out; omega) v HV2.out).mono ?_
        rintro e w5 ⟨rfl, kk2, hw5⟩
        have h5 := (H4.out.drewN kk).drewN kk2
        rw [← hw5] at h5
        have H5 := Lib.hid h5
        clear h5 hw5
        go_wp2_with fail
        go_loopw [16] (fun i wq => ∃ j : Nat, j ≤ m ∧ i = .int .i64 (j : Int) ∧ Hid (Both w b d' b' r' wq)) (fun i _ => m - (intOf i).toNat)
        case atStart => exact ⟨0, Nat.zero_le _, rfl, H5⟩
        case round =>
          obtain ⟨j, hj, rfl, HB⟩ := hrel
          by_cases hlt2 : j < m
          · obtain ⟨g2, off2, rfl, hg2, hc3⟩ := HT.out.2 j hlt2
            have q3 := (HB.out.old.cell (p := ⟨g2, off2 + j, none⟩) hg2).trans hc3
            generalize ts.getD j 0 = t at *
            have HU := Lib.hid (P1.out.late P2.out t)
            generalize hu : r'.late t = u at *
            have HU2 := Lib.hid hu
            clear hu hc3
            have hjI : (j : Int) < (m : Int) := by omega
            have hjJ : (0 : Int) ≤ (j : Int) := by omega
            go_wp2_with fail
            go_quiet ((first
              | (go_at_call 14; exact quiet_tells (both_late (HB.out.drewN _) t u HU.out))
              | (go_at_call 23; exact quiet_tells (both_rlate (HB.out.drewN _) (by have := P6.out; omega) t u HU2.out))))
            go_wp2
            go_roundw
            case rel => exact ⟨j + 1, by omega, by go_num, Lib.hid (HB.out.drewN _)⟩
            case measure => simp [intOf]; omega
          · obtain rfl : m = j := by omega
            go_wp2
            go_roundw
            case rel => exact ⟨k + 1, by omega, by go_num, by rw [HS1.out, HS2.out]; exact HB⟩
            case measure => simp [intOf]; omega
      · have hz0 : (s1 == 0) = false := by simpa using hz
        have HR := Lib.hid (show stepR r (s1, s2) = r.heard s2 by simp [stepR, hz])
        clear hz
        go_wp2_with fail
        refine (both_rheard H3.out s2 (by have := P5.out; omega)).mono ?_
        rintro e w4 ⟨rfl, h4⟩
        rw [← HR.out] at h4
        have H4 := Lib.hid h4
        clear h4 q1 q2 H3 hz0
        generalize stepR r (s1, s2) = r' at *
        generalize stepD d (s1, s2) = d' at *
        have HV := Lib.hid (P1.out.limit P2.out)
        generalize hv : r'.limit = v at *
        have HV2 := Lib.hid hv
        clear hv
        go_wp2_with fail
        refine (both_limit H4.out v HV.out).mono ?_
        rintro e w5 ⟨rfl, kk, rfl⟩
        go_wp2_with fail
        refine (both_rlimit (H4.out.drewN kk) (by have := P6.out; omega) v HV2.out).mono ?_
        rintro e w5 ⟨rfl, kk2, hw5⟩
        have h5 := (H4.out.drewN kk).drewN kk2
        rw [← hw5] at h5
        have H5 := Lib.hid h5
        clear h5 hw5
        go_wp2_with fail
        go_loopw [16] (fun i wq => ∃ j : Nat, j ≤ m ∧ i = .int .i64 (j : Int) ∧ Hid (Both w b d' b' r' wq)) (fun i _ => m - (intOf i).toNat)
        case atStart => exact ⟨0, Nat.zero_le _, rfl, H5⟩
        case round =>
          obtain ⟨j, hj, rfl, HB⟩ := hrel
          by_cases hlt2 : j < m
          · obtain ⟨g2, off2, rfl, hg2, hc3⟩ := HT.out.2 j hlt2
            have q3 := (HB.out.old.cell (p := ⟨g2, off2 + j, none⟩) hg2).trans hc3
            generalize ts.getD j 0 = t at *
            have HU := Lib.hid (P1.out.late P2.out t)
            generalize hu : r'.late t = u at *
            have HU2 := Lib.hid hu
            clear hu hc3
            have hjI : (j : Int) < (m : Int) := by omega
            have hjJ : (0 : Int) ≤ (j : Int) := by omega
            go_wp2_with fail
            go_quiet ((first
              | (go_at_call 14; exact quiet_tells (both_late (HB.out.drewN _) t u HU.out))
              | (go_at_call 23; exact quiet_tells (both_rlate (HB.out.drewN _) (by have := P6.out; omega) t u HU2.out))))
            go_wp2
            go_roundw
            case rel => exact ⟨j + 1, by omega, by go_num, Lib.hid (HB.out.drewN _)⟩
            case measure => simp [intOf]; omega
          · obtain rfl : m = j := by omega
            go_wp2
            go_roundw
            case rel => exact ⟨k + 1, by omega, by go_num, by rw [HS1.out, HS2.out]; exact HB⟩
            case measure => simp [intOf]; omega
    · obtain rfl : n = k := by omega
      have hfull : l.take n = l := List.take_of_length_le (by rw [HL.out.1]; exact Nat.le_refl _)
      obtain ⟨hp1, hp2, hp3⟩ := HP.out n
      rw [hfull] at HB hp1 hp2 hp3
      have hp5 : (playsR ⟨least, most, window, false, 0, []⟩ l).gaps.length ≤ 300 := by
        have := HL.out.1
        omega
      clear hp3 hfull
      generalize plays (newD least most window) l = d at *
      generalize playsR ⟨least, most, window, false, 0, []⟩ l = r at *
      have HV := Lib.hid (hp1.limit hp2)
      have HU := Lib.hid (hp1.late hp2 0)
      generalize hv : r.limit = v at *
      generalize hu : r.late 0 = u at *
      have HV2 := Lib.hid hv
      have HU2 := Lib.hid hu
      have P5 := Lib.hid hp5
      clear hv hu hp1 hp2 hp5
      obtain ⟨row, row', b1, b2, -⟩ := HB.out
      have ho := b1.old
      have hok := b1.ok
      have hrok := b2.ok
      have r2 := b2.has
      have HO := Lib.hid ho
      have HK := Lib.hid hok
      have HRK := Lib.hid hrok
      have R2 := Lib.hid r2
      have B1 := Lib.hid b1.has
      clear b1 b2 ho hok hrok r2 HB
      go_wp2_with fail
      refine (copy_any _ B1.out HK.out).mono ?_
      rintro e w3 ⟨b3, row3, rfl, h3, h4, -, -, hk⟩
      have hold := HO.out.trans (hk.below HO.out.size (fun _ h => h.elim))
      have HH := Lib.hid h3
      have HC := Lib.hid h4
      have HRR := Lib.hid (R2.out.keep hk (fun h => h) (fun _ _ h => h))
      have HOO := Lib.hid hold
      clear h3 h4 hk hold R2 B1
      go_wp2_with fail
      have cl := limit_any b3 row3 d w3 HC.out HK.out
      rw [HV.out] at cl
      refine cl.mono ?_
      clear cl
      rintro e w4 ⟨rfl, k1, rfl⟩
      go_wp2_with fail
      have cl := rlimit_any b' row' r (w3.drewN k1) (HRR.out.drewN k1) HRK.out (by have := P5.out; omega)
      rw [HV2.out] at cl
      refine cl.mono ?_
      clear cl
      rintro e w4 ⟨rfl, k2, hw4⟩
      have HC4 := Lib.hid (show Has w4 b row d by rw [hw4]; exact (HH.out.drewN k1).drewN k2)
      have HR4 := Lib.hid (show RHas w4 b' row' r by rw [hw4]; exact (HRR.out.drewN k1).drewN k2)
      have HO4 := Lib.hid (show Below w.heap.size w w4 by rw [hw4]; exact below_dd (below_dd HOO.out k1) k2)
      clear hw4
      go_wp2_with fail
      have cl := late_any b row d 0 w4 HC4.out HK.out
      rw [HU.out] at cl
      refine cl.mono ?_
      clear cl
      rintro e w5 ⟨rfl, k3, rfl⟩
      go_wp2_with fail
      have cl := rlate_any b' row' r 0 (w4.drewN k3) (HR4.out.drewN k3) HRK.out (by have := P5.out; omega)
      rw [HU2.out] at cl
      refine cl.mono ?_
      clear cl
      rintro e w5 ⟨rfl, k4, hw5⟩
      have HO5 := Lib.hid (show Below w.heap.size w w5 by rw [hw5]; exact below_dd (below_dd HO4.out k3) k4)
      clear hw5
      go_wp2
      go_ret
      exact ⟨rfl, HO5.out⟩

theorem walkAccrualPlays {w : World} (a0 : Int) (_w0 : (Lit.int .i64 a0).wf = true) (a1 : Int) (_w1 : (Lit.int .i64 a1).wf = true) (a2 : Int) (_w2 : (Lit.int .i64 a2).wf = true) (v3 : Value) (w3 : IsSteps w v3) (v4 : Value) (w4 : IsInts w v4) :
    Calls Try.prog 8 #[.int .i64 a0, .int .i64 a1, .int .i64 a2, v3, v4] w fun e w' => e = .returned (.bool true) ∧ Below w.heap.size w w' := by
  obtain ⟨A, n, c, l, rfl, h1, h2, hl⟩ := w3
  obtain ⟨A', m, c', l', rfl, h1', h2', hl'⟩ := w4
  unfold maxLen at h2 h2'
  by_cases hn : 300 < n ∨ 30 < m
  · exact plays_far a0 a1 a2 A A' n c m c' w hn (by omega) (by omega)
  · by_cases h : MayNew a0 a1 a2
    · exact plays_good a0 a1 a2 A A' n c m c' w l l' (by omega) (by omega) hl hl' h
    · exact plays_bad a0 a1 a2 A A' n c m c' w (by omega) (by omega) h
end Go.Proofs.Ytmlgaikabnbghaa
