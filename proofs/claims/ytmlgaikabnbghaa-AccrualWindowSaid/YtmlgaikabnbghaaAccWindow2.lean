/-
  AccrualWindow: the walk of the law.
-/
import Derived.Test.YtmlgaikabnbghaaAccWindow
import Derived.Test.YtmlgaikabnbghaaAccBounds
namespace Go.Proofs.Ytmlgaikabnbghaa
open Go.RowKit
set_option maxRecDepth 100000 in
set_option maxHeartbeats 2000000 in
theorem window_far1 (least most window : Int) (A A2 : Option Addr) (n c m c2 : Nat) (w : World) (hn : 300 < n) (hm1 : n ≤ 9223372036854775807) :
    Calls Try.prog 6 #[.int .i64 least, .int .i64 most, .int .i64 window, .slice A n c, .slice A2 m c2] w fun e w' => e = .returned (.bool true) ∧ Below w.heap.size w w' := by
  go_enter Try.func6, Try.ntmps6
  go_wp2_with fail
  refine (works_any w).mono ?_
  rintro e w1 ⟨rfl, h1⟩
  go_wp2_with fail
  refine (works_any w1).mono ?_
  rintro e w2 ⟨rfl, h2⟩
  go_wp2
  go_ret
  exact ⟨rfl, h1.trans (h2.mono h1.size)⟩
set_option maxRecDepth 100000 in
set_option maxHeartbeats 2000000 in
theorem window_far2 (least most window : Int) (A A2 : Option Addr) (n c m c2 : Nat) (w : World) (hn : n ≤ 300) (hm : 300 < m) (hm2 : m ≤ 9223372036854775807) :
    Calls Try.prog 6 #[.int .i64 least, .int .i64 most, .int .i64 window, .slice A n c, .slice A2 m c2] w fun e w' => e = .returned (.bool true) ∧ Below w.heap.size w w' := by
  go_enter Try.func6, Try.ntmps6
  go_wp2_with fail
  refine (works_any w).mono ?_
  rintro e w1 ⟨rfl, h1⟩
  go_wp2_with fail
  refine (works_any w1).mono ?_
  rintro e w2 ⟨rfl, h2⟩
  go_wp2
  go_ret
  exact ⟨rfl, h1.trans (h2.mono h1.size)⟩
set_option maxRecDepth 100000 in
set_option maxHeartbeats 2000000 in
theorem window_far3 (least most window : Int) (A A2 : Option Addr) (n c m c2 : Nat) (w : World) (hn : n ≤ 300) (hm : m ≤ 300) (hw : (m : Int) < window) :
    Calls Try.prog 6 #[.int .i64 least, .int .i64 most, .int .i64 window, .slice A n c, .slice A2 m c2] w fun e w' => e = .returned (.bool true) ∧ Below w.heap.size w w' := by
  go_enter Try.func6, Try.ntmps6
  go_wp2_with fail
  refine (works_any w).mono ?_
  rintro e w1 ⟨rfl, h1⟩
  go_wp2_with fail
  refine (works_any w1).mono ?_
  rintro e w2 ⟨rfl, h2⟩
  go_wp2
  go_ret
  exact ⟨rfl, h1.trans (h2.mono h1.size)⟩
set_option maxRecDepth 100000 in
set_option maxHeartbeats 2000000 in
theorem window_bad (least most window : Int) (A A2 : Option Addr) (n c m c2 : Nat) (w : World) (hn : n ≤ 300) (hm : m ≤ 300) (hw : window ≤ (m : Int)) (h : ¬ MayNew least most window) :
    Calls Try.prog 6 #[.int .i64 least, .int .i64 most, .int .i64 window, .slice A n c, .slice A2 m c2] w fun e w' => e = .returned (.bool true) ∧ Below w.heap.size w w' := by
  go_enter Try.func6, Try.ntmps6
  go_wp2_with fail
  refine (works_any w).mono ?_
  rintro e w1 ⟨rfl, h1⟩
  go_wp2_with fail
  refine (run_bad A n c _ _ _ _ h).mono ?_
  rintro e w2 ⟨rfl, rfl⟩
  go_wp2_with fail
  refine (run_bad none 0 0 _ _ _ _ h).mono ?_
  rintro e w2 ⟨rfl, rfl⟩
  go_wp2
  go_ret
  exact ⟨rfl, h1⟩
set_option maxRecDepth 100000 in
set_option maxHeartbeats 2000000 in
theorem window_good (least most window : Int) (A A2 : Option Addr) (n c m c2 : Nat) (w : World) (l : List (Int × Int)) (zs : List Int) (hl : Steps w A n l) (hz : Ints w A2 m zs) (hn : n ≤ 300) (hm : m ≤ 300) (hw : window ≤ (m : Int)) (h : MayNew least most window) :
    Calls Try.prog 6 #[.int .i64 least, .int .i64 most, .int .i64 window, .slice A n c, .slice A2 m c2] w fun e w' => e = .returned (.bool true) ∧ Below w.heap.size w w' := by
  have HL := Lib.hid hl
  have HZ := Lib.hid hz
  have HM := Lib.hid h
  have hmay := h
  obtain ⟨d, hd⟩ : ∃ d, d = plays (newD least most window) l := ⟨_, rfl⟩
  obtain ⟨c0, hc0⟩ : ∃ c0, c0 = newD least most window := ⟨_, rfl⟩
  have HD := Lib.hid hd
  have HC := Lib.hid hc0
  clear hl hz hd hc0
  obtain ⟨hb1, hb2, hb3, hb4, hb5⟩ := hmay
  clear h
  go_enter Try.func6, Try.ntmps6
  go_wp2_with fail
  refine (works_any w).mono ?_
  rintro e w1 ⟨rfl, h1⟩
  go_wp2_with fail
  refine (run_good h1 A n c l HL.out (by omega) _ _ _ HM.out w1.heap.size rfl).mono ?_
  rw [← HD.out]
  rintro e w2 ⟨rfl, h2⟩
  generalize w1.heap.size = b at h2 ⊢
  go_wp2_with fail
  refine (now2_run_nil h2 _ _ _ HM.out).mono ?_
  rw [← HC.out]
  clear h2
  rintro e w3 ⟨b', rfl, h3⟩
  go_wp2
  go_loop [15, 16] (fun t i => ∃ k : Nat, k ≤ n ∧ i = .int .i64 k ∧ t = .int .i64 (topM (l.take k)) ∧ ∀ s ∈ l.take k, s.2 ≤ 1000000) (fun _ i => n - (intOf i).toNat)
  case atStart => exact ⟨0, Nat.zero_le _, rfl, by simp [topM], by simp⟩
  case round =>
    obtain ⟨k, hk, rfl, rfl, hall⟩ := hrel
    have HA := Lib.hid hall
    clear hall
    by_cases hlt : k < n
    · obtain ⟨g', off, rfl, hg', hc1, hc2⟩ := HL.out.2 k hlt
      have hd2 := (h3.old.cell (p := ⟨g', off + k * 2 + 1, none⟩) hg').trans hc2
      have HP := Lib.hid (topM_succ l k (by rw [HL.out.1]; exact hlt))
      have htake : l.take (k + 1) = l.take k ++ [l.getD k (0, 0)] := by
        rw [List.take_succ_eq_append_getElem (by rw [HL.out.1]; exact hlt)]
        simp [List.getD, show k < l.length by rw [HL.out.1]; exact hlt]
      have HTk := Lib.hid htake
      generalize l.getD k (0, 0) = s at HP hd2 HTk
      obtain ⟨s1, s2⟩ := s
      clear hc1 hc2 htake
      have htk := topM_bd (l.take k)
      generalize topM (l.take k) = tk at HP htk ⊢
      simp only at hd2
      by_cases hbig : 1000000 < s2
      · go_wp2
        all_goals
          go_ret
          exact ⟨rfl, h3.old⟩
      · go_wp2
        all_goals
          go_round
          case rel =>
            refine ⟨k + 1, by omega, by go_num, by rw [HP.out]; congr 1; simp only; omega, ?_⟩
            rw [HTk.out]
            intro s hs
            simp only [List.mem_append, List.mem_singleton] at hs
            rcases hs with hs | rfl
            · exact HA.out s hs
            · simp only; omega
          case measure => simp [intOf]; omega
    · obtain rfl : k = n := by omega
      have hfull : l.take k = l := List.take_of_length_le (by rw [HL.out.1]; exact Nat.le_refl _)
      rw [hfull] at HA ⊢
      clear hfull
      have hN := topM_bd l
      obtain ⟨N, hNe⟩ : ∃ N, N = topM l := ⟨_, rfl⟩
      rw [← hNe] at hN ⊢
      have hdl : d.last ≤ N := by rw [HD.out, hNe]; exact plays_lastM l _ 0 HA.out (by decide) (by decide) (by simp [newD])
      have hcl : c0.last ≤ N := by rw [HC.out]; simp only [newD]; omega
      have hdm : d.mn = least ∧ d.mx = most ∧ d.wd = window := by rw [HD.out]; exact plays_same l _
      have hcm : c0.mn = least ∧ c0.mx = most ∧ c0.wd = window := by rw [HC.out]; exact ⟨rfl, rfl, rfl⟩
      have hokd := h3.fst.ok
      have hokc := h3.snd.ok
      obtain ⟨gs, hgs⟩ : ∃ gs, gs = zs.map gmod := ⟨_, rfl⟩
      have hglen : gs.length = m := by rw [hgs]; simpa using HZ.out.1
      have hgb : ∀ g ∈ gs, 0 ≤ g ∧ g < 5000 := by
        rw [hgs]
        intro g hg
        obtain ⟨z, _, rfl⟩ := List.mem_map.1 hg
        exact gmod_bd z
      have hweq : after (c0.heard N) gs = after (d.heard N) gs := window_eq hokd hokc (by omega) (by omega) (by omega) N hdl hcl (by omega) (by omega) gs (by rw [hglen]; omega)
      have HW := Lib.hid hweq
      have HGB := Lib.hid hgb
      have HGL := Lib.hid hglen
      have HGS := Lib.hid hgs
      have HDM := Lib.hid hdm
      have hdL : (d.heard N).last = N := by unfold D.heard atv wi; simp only; omega
      have hcL : (c0.heard N).last = N := by unfold D.heard atv wi; simp only; omega
      have HDL := Lib.hid hdL
      have HCL := Lib.hid hcL
      have HOD := Lib.hid (hokd.heard N)
      have HOC := Lib.hid (hokc.heard N)
      have hdm' : (d.heard N).mn = least ∧ (d.heard N).mx = most := ⟨hdm.1, hdm.2.1⟩
      have HDM' := Lib.hid hdm'
      clear hNe hdl hcl hdm hcm hokd hokc hgs hglen hgb hweq hdL hcL hdm' HA
      go_wp2_with fail
      refine (now2_heard h3 N).mono ?_
      clear h3
      rintro e w4 ⟨rfl, h4⟩
      go_wp2_with fail
      refine (now2_heard' h4 N).mono ?_
      clear h4
      rintro e w5 ⟨rfl, h5⟩
      generalize d.heard N = dH at h5 HW HDL HOD HDM'
      generalize c0.heard N = cH at h5 HW HCL HOC
      clear HD HC HDM
      go_wp2
      go_loopw [15, 17] (fun t i wr => ∃ j : Nat, j ≤ m ∧ i = .int .i64 j ∧ t = .int .i64 (N + (gs.take j).sum) ∧ Now2 w b (after dH (gs.take j)) b' (after cH (gs.take j)) wr) (fun _ i _ => m - (intOf i).toNat)
      case atStart => exact ⟨0, Nat.zero_le _, rfl, by simp, by rw [List.take_zero, after_zero _ HOD.out, after_zero _ HOC.out]; exact h5⟩
      case round =>
        obtain ⟨j, hj, rfl, rfl, hN2⟩ := hrel
        clear h5
        have hsj := sum_nonneg (gs.take j) (fun g hg => HGB.out g (List.mem_of_mem_take hg))
        have hlj : (gs.take j).length ≤ j := List.length_take_le _ _
        by_cases hjl : j < m
        · obtain ⟨g', off, rfl, hg', hc1⟩ := HZ.out.2 j hjl
          have hd1 := (hN2.old.cell (p := ⟨g', off + j, none⟩) hg').trans hc1
          have hgj : gs.getD j 0 = gmod (zs.getD j 0) := by
            rw [HGS.out]
            have : j < zs.length := by rw [HZ.out.1]; exact hjl
            simp [List.getD, this]
          have htake : gs.take (j + 1) = gs.take j ++ [gs.getD j 0] := by
            have hlt : j < gs.length := by rw [HGL.out]; exact hjl
            rw [List.take_succ_eq_append_getElem hlt]
            simp [List.getD, hlt]
          rw [hgj] at htake
          generalize zs.getD j 0 = z at hd1 htake
          have hgz := gmod_bd z
          have e1 : IntKind.i64.wrap ((IntKind.u64.wrap z).tmod 5000) = gmod z := rfl
          generalize gmod z = gz at hgz e1 htake
          have hsucc : ∀ d : D, d.last = N → (after d (gs.take j)).heard (N + (gs.take j).sum + gz) = after d (gs.take (j + 1)) := by
            intro d hd
            rw [htake, ← hd]
            exact after_succ d _ gz (by omega) hsj.1 hgz.1 (by omega)
          have hsum : N + (gs.take (j + 1)).sum = N + (gs.take j).sum + gz := by rw [htake, List.sum_append]; simp; omega
          have HS1 := Lib.hid (hsucc dH HDL.out)
          have HS2 := Lib.hid (hsucc cH HCL.out)
          have HSum := Lib.hid hsum
          clear hsucc hgj htake hc1 hsum
          generalize hD1 : after dH (gs.take j) = d1 at hN2 HS1
          generalize hD2 : after cH (gs.take j) = d2 at hN2 HS2
          generalize (gs.take j).sum = sj at *
          clear hD1 hD2
          go_wp2_with fail
          refine (now2_heard hN2 _).mono ?_
          clear hN2
          rintro e w6 ⟨rfl, h6⟩
          go_wp2_with fail
          refine (now2_heard' h6 _).mono ?_
          clear h6
          rintro e w7 ⟨rfl, h7⟩
          go_wp2
          go_roundw
          case rel => exact ⟨j + 1, by omega, by go_num, by rw [HSum.out], by rw [← HS1.out, ← HS2.out]; exact h7⟩
          case measure => simp [intOf]; omega
        · obtain rfl : j = m := by omega
          have hfull : gs.take j = gs := List.take_of_length_le (by rw [HGL.out]; exact Nat.le_refl _)
          rw [hfull, HW.out] at hN2
          rw [hfull] at hsj ⊢
          have hlg := HGL.out
          have hlast5 : (after dH gs).last = N + gs.sum := by show dH.last + gs.sum = _; rw [HDL.out]
          obtain ⟨L, hL⟩ : ∃ L, (after dH gs).limit = L := ⟨_, rfl⟩
          have hLb := D.limit_bd hN2.fst.ok
          have hmn5 : (after dH gs).mn = least := HDM'.out.1
          have hmx5 : (after dH gs).mx = most := HDM'.out.2
          rw [hL, hmn5, hmx5] at hLb
          obtain ⟨T, hT⟩ : ∃ T, (after dH gs).late (N + gs.sum + least) = T := ⟨_, rfl⟩
          have hT2 : (after dH gs).late (N + gs.sum + L + 1) = true := by
            have := late_at (after dH gs) (L + 1) (by omega) (by omega) (by omega)
            rw [hlast5, hL] at this
            rw [show N + gs.sum + L + 1 = N + gs.sum + (L + 1) by omega, this]
            exact decide_eq_true (by omega)
          have hlen : ((gs.length : Nat) : Int) ≤ 300 := by omega
          have HL5 := Lib.hid hL
          have HT5 := Lib.hid hT
          have HT6 := Lib.hid hT2
          clear hfull hL hT hT2 hlast5 hlg hmn5 hmx5
          generalize after dH gs = d5 at hN2 HL5 HT5 HT6
          generalize gs.sum = S at *
          go_wp2_with fail
          refine (now2_limit hN2 _ HL5.out).mono ?_
          clear hN2
          rintro e w6 ⟨rfl, h6⟩
          go_wp2_with fail
          refine (now2_limit' h6 _ HL5.out).mono ?_
          clear h6
          rintro e w7 ⟨rfl, h7⟩
          go_wp2_with fail
          refine (now2_late h7 _ _ HT5.out).mono ?_
          clear h7
          rintro e w8 ⟨rfl, h8⟩
          go_wp2_with fail
          refine (now2_late' h8 _ _ HT5.out).mono ?_
          clear h8
          rintro e w9 ⟨rfl, h9⟩
          go_wp2_with fail
          refine (now2_limit h9 _ HL5.out).mono ?_
          clear h9
          rintro e w10 ⟨rfl, h10⟩
          go_wp2_with fail
          refine (now2_late h10 _ _ HT6.out).mono ?_
          clear h10
          rintro e w11 ⟨rfl, h11⟩
          go_wp2_with fail
          refine (now2_limit' h11 _ HL5.out).mono ?_
          clear h11
          rintro e w12 ⟨rfl, h12⟩
          go_wp2_with fail
          refine (now2_late' h12 _ _ HT6.out).mono ?_
          clear h12
          rintro e w13 ⟨rfl, h13⟩
          go_wp2
          go_ret
          exact ⟨rfl, h13.old⟩

theorem walkAccrualWindow {w : World} (a0 : Int) (_w0 : (Lit.int .i64 a0).wf = true) (a1 : Int) (_w1 : (Lit.int .i64 a1).wf = true) (a2 : Int) (_w2 : (Lit.int .i64 a2).wf = true) (v3 : Value) (w3 : IsSteps w v3) (v4 : Value) (w4 : IsInts w v4) :
    Calls Try.prog 6 #[.int .i64 a0, .int .i64 a1, .int .i64 a2, v3, v4] w fun e w' => e = .returned (.bool true) ∧ Below w.heap.size w w' := by
  obtain ⟨A, n, c, l, rfl, h1, h2, hl⟩ := w3
  obtain ⟨A', m, c', l', rfl, h1', h2', hl'⟩ := w4
  unfold maxLen at h2 h2'
  by_cases hn : 300 < n
  · exact window_far1 a0 a1 a2 A A' n c m c' w hn (by omega)
  · by_cases hm : 300 < m
    · exact window_far2 a0 a1 a2 A A' n c m c' w (by omega) hm (by omega)
    · by_cases hw : (m : Int) < a2
      · exact window_far3 a0 a1 a2 A A' n c m c' w (by omega) (by omega) hw
      · by_cases h : MayNew a0 a1 a2
        · exact window_good a0 a1 a2 A A' n c m c' w l l' hl hl' (by omega) (by omega) (by omega) h
        · exact window_bad a0 a1 a2 A A' n c m c' w (by omega) (by omega) (by omega) h
end Go.Proofs.Ytmlgaikabnbghaa
