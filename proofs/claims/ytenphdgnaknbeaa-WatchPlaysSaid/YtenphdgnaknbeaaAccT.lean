/-
  Contracts of coveyref15's Limit, Late.
-/
import Derived.Test.YtenphdgnaknbeaaAccR
namespace Go.Proofs.Ytenphdgnaknbeaa
open Go.RowKit

theorem RHas.drewN {w : World} {b : Nat} {row : Option Nat} {r : R} (h : RHas w b row r) (k : Nat) : RHas (w.drewN k) b row r := h
theorem drop_take_succ (l : List Int) (k j : Nat) (h : k + j < l.length) : (((l.drop k).take (j + 1)).sum : Int) = ((l.drop k).take j).sum + l.getD (k + j) 0 := by
  have hj : j < (l.drop k).length := by simp; omega
  rw [sum_take_succ (l.drop k) j hj]
  congr 1
  simp [List.getD]
theorem drop_take_bd (l : List Int) (k j : Nat) (h : ∀ g ∈ l, 0 ≤ g ∧ g ≤ 1099511627776) (hj : j ≤ 4096) : 0 ≤ ((l.drop k).take j).sum ∧ ((l.drop k).take j).sum ≤ 4503599627370496 :=
  sum_take_bd (l.drop k) j (fun g hg => h g (List.mem_of_mem_drop hg)) hj
/-- what the sum comes to, within the bounds -/
def clampL (mn mx t : Int) : Int := if t < mn then mn else if mx < t then mx else t
theorem twice_bd (s m : Int) (h0 : 0 ≤ s) (h1 : s ≤ 4503599627370496) (hm : 0 < m) : 0 ≤ 2 * s / m ∧ 2 * s / m ≤ 9007199254740992 := by
  constructor
  · exact Int.ediv_nonneg (by omega) (by omega)
  · have := Int.ediv_le_self m (show 0 ≤ 2 * s by omega)
    omega
set_option maxHeartbeats 2000000 in
theorem rlimit_A (b : Nat) (A : Option Addr) (c : Nat) (row : Option Nat) (r : R) (w : World) (m : Nat) (hw : (m : Int) ≤ r.wd) (hb : Blk w b 79 #[.int .i64 r.mn, .int .i64 r.mx, .int .i64 r.wd, .bool r.yes, .int .i64 r.last, .slice A m c]) (hs : SlK w 3 1 row A m c (r.gaps.map (.int .i64)))
    (hg : ∀ g ∈ r.gaps, 0 ≤ g ∧ g ≤ 1099511627776) (hm1 : 0 < m) (hn : m ≤ 4000) (hwd : r.wd ≤ 4096) (hx1 : r.mn ≤ r.mx) :
    Calls Try.prog 50 #[.pointer (some ⟨b, 0, none⟩)] w (Tells (.int .i64 (clampL r.mn r.mx (R.twice (r.gaps.drop 0).sum (m : Int)))) w) := by
  have HN := Lib.hid (show r.gaps.length = m by have := hs.1; simp at this; omega)
  obtain ⟨mn, mx, wd, yes, last, gaps⟩ := r
  simp only at hb hs hg hw HN hwd hx1
  have e0 : IntKind.i64.wrap ((m : Int) - wd) = (m : Int) - wd := IntWalk.i64_in _ (by omega)
  have hng : decide ((0 : Int) < (m : Int) - wd) = false := by simp; omega
  have c0 := hb.cell 0
  have c1 := hb.cell 1
  have c2 := hb.cell 2
  have c5 := hb.cell 5
  simp at c0 c1 c2 c5
  have hm0 : ((m : Int) == 0) = false := by simp; omega
  have HG := Lib.hid hg
  have HS := Lib.hid hs.toSl
  clear hg hs hb
  go_enter Try.func50, Try.ntmps50
  go_wp2
  go_quiet (fail)
  go_wp2
  generalize hW : w.drewN nq = W at *
  have C0 : W.cell? ⟨b, 0, none⟩ = some (.int .i64 mn) := by rw [← hW]; simpa using c0
  have C1 : W.cell? ⟨b, 1, none⟩ = some (.int .i64 mx) := by rw [← hW]; simpa using c1
  have C5 : W.cell? ⟨b, 5, none⟩ = some (.slice A m c) := by rw [← hW]; simpa using c5
  have HSW : Hid (Sl W 3 row A m c (gaps.map (.int .i64))) := Lib.hid (by rw [← hW]; exact HS.out)
  have HWW := Lib.hid hW
  clear hW c0 c1 c2 c5
  go_loop [5, 6] (fun s i => ∃ j : Nat, j ≤ m ∧ i = .int .i64 (j : Int) ∧ s = .int .i64 (((gaps.drop 0).take j).sum)) (fun _ i => m - (intOf i).toNat)
  case atStart => exact ⟨0, Nat.zero_le _, by simp, by simp⟩
  case round =>
    obtain ⟨j, hj, rfl, rfl⟩ := hrel
    by_cases hlt : j < m
    · obtain ⟨g, off, v, rfl, _, hv, hcell⟩ := HSW.out.at_ (k := j) (by omega)
      have hx : v = .int .i64 (gaps.getD j 0) := by
        have : j < gaps.length := by rw [HN.out]; omega
        simp [this] at hv
        simp [List.getD, this, hv]
      subst hx
      have HT := Lib.hid (drop_take_succ gaps 0 j (by rw [HN.out]; omega))
      have hb1 := getD_bd gaps j HG.out (by rw [HN.out]; omega)
      have hb2 := drop_take_bd gaps 0 j HG.out (by omega)
      have hiN : (0 : Int) ≤ (j : Int) := by omega
      have hiM : (j : Int) < ((m : Nat) : Int) := by omega
      try simp only [Nat.zero_add] at HT
      clear hv
      generalize gaps.getD j 0 = x at *
      generalize ((gaps.drop 0).take j).sum = s at *
      go_wp2
      go_round
      case rel => exact ⟨j + 1, by omega, by go_num, by rw [HT.out]⟩
      case measure => simp [intOf]; omega
    · obtain rfl : m = j := by omega
      have hfull : (gaps.drop 0).take m = gaps.drop 0 := List.take_of_length_le (by rw [List.length_drop, HN.out]; omega)
      have hb2 := drop_take_bd gaps 0 m HG.out (by omega)
      rw [hfull] at hb2 ⊢
      clear hfull
      have hq := twice_bd (gaps.drop 0).sum (m : Int) hb2.1 hb2.2 (by omega)
      generalize (gaps.drop 0).sum = s at *
      have HT := Lib.hid (show R.twice s (m : Int) = if 2 * s % (m : Int) = 0 then 2 * s / (m : Int) else 2 * s / (m : Int) + 1 from rfl)
      have e1 : (2 * s).tdiv (m : Int) = 2 * s / (m : Int) := Int.tdiv_eq_ediv_of_nonneg (by omega)
      have e2 : (2 * s).tmod (m : Int) = 2 * s % (m : Int) := Int.tmod_eq_emod_of_nonneg (by omega)
      have hr1 := Int.emod_nonneg (2 * s) (b := (m : Int)) (by omega)
      have hr2 := Int.emod_lt_of_pos (2 * s) (b := (m : Int)) (by omega)
      generalize 2 * s / (m : Int) = q at *
      generalize 2 * s % (m : Int) = z at *
      by_cases hz : z = 0
      · subst hz
        have HT2 := Lib.hid (HT.out.trans (if_pos rfl))
        clear HT
        go_wp2
        all_goals
          go_ret
          refine ⟨ret_int ?_, nq, HWW.out.symm⟩
          rw [HT2.out]; unfold clampL
          repeat' split
          all_goals omega
      · have HT2 := Lib.hid (HT.out.trans (if_neg hz))
        have hz1 : (z != 0) = true := by simpa using hz
        have hz2 : (z == 0) = false := by simpa using hz
        clear HT hz
        go_wp2
        all_goals
          go_ret
          refine ⟨ret_int ?_, nq, HWW.out.symm⟩
          rw [HT2.out]; unfold clampL
          repeat' split
          all_goals omega
set_option maxHeartbeats 2000000 in
theorem rlimit_B (b : Nat) (A : Option Addr) (c : Nat) (row : Option Nat) (r : R) (w : World) (k0 m : Nat) (h0 : 0 < k0) (hw : r.wd = (m : Int)) (hb : Blk w b 79 #[.int .i64 r.mn, .int .i64 r.mx, .int .i64 r.wd, .bool r.yes, .int .i64 r.last, .slice A (k0 + m) c]) (hs : SlK w 3 1 row A (k0 + m) c (r.gaps.map (.int .i64)))
    (hg : ∀ g ∈ r.gaps, 0 ≤ g ∧ g ≤ 1099511627776) (hm1 : 0 < m) (hn : (k0 + m) ≤ 4000) (hwd : r.wd ≤ 4096) (hx1 : r.mn ≤ r.mx) :
    Calls Try.prog 50 #[.pointer (some ⟨b, 0, none⟩)] w (Tells (.int .i64 (clampL r.mn r.mx (R.twice (r.gaps.drop k0).sum (m : Int)))) w) := by
  have HN := Lib.hid (show r.gaps.length = (k0 + m) by have := hs.1; simp at this; omega)
  obtain ⟨mn, mx, wd, yes, last, gaps⟩ := r
  simp only at hb hs hg hw HN hwd hx1
  subst hw
  have hpo : (0 : Int) < (k0 : Int) := by omega
  have e9 : ((k0 : Int) + (m : Int) - (k0 : Int)) = (m : Int) := by omega
  have c0 := hb.cell 0
  have c1 := hb.cell 1
  have c2 := hb.cell 2
  have c5 := hb.cell 5
  simp at c0 c1 c2 c5
  have hm0 : ((m : Int) == 0) = false := by simp; omega
  have HG := Lib.hid hg
  have HS := Lib.hid hs.toSl
  clear hg hs hb
  go_enter Try.func50, Try.ntmps50
  go_wp2
  go_quiet (fail)
  go_wp2
  generalize hW : w.drewN nq = W at *
  have C0 : W.cell? ⟨b, 0, none⟩ = some (.int .i64 mn) := by rw [← hW]; simpa using c0
  have C1 : W.cell? ⟨b, 1, none⟩ = some (.int .i64 mx) := by rw [← hW]; simpa using c1
  have C5 : W.cell? ⟨b, 5, none⟩ = some (.slice A (k0 + m) c) := by rw [← hW]; simpa using c5
  have HSW : Hid (Sl W 3 row A (k0 + m) c (gaps.map (.int .i64))) := Lib.hid (by rw [← hW]; exact HS.out)
  have HWW := Lib.hid hW
  clear hW c0 c1 c2 c5
  go_loop [5, 6] (fun s i => ∃ j : Nat, j ≤ m ∧ i = .int .i64 ((k0 : Int) + (j : Int)) ∧ s = .int .i64 (((gaps.drop k0).take j).sum)) (fun _ i => (k0 + m) - (intOf i).toNat)
  case atStart => exact ⟨0, Nat.zero_le _, by simp, by simp⟩
  case round =>
    obtain ⟨j, hj, rfl, rfl⟩ := hrel
    by_cases hlt : j < m
    · obtain ⟨g, off, v, rfl, _, hv, hcell⟩ := HSW.out.at_ (k := (k0 + j)) (by omega)
      have hx : v = .int .i64 (gaps.getD (k0 + j) 0) := by
        have : (k0 + j) < gaps.length := by rw [HN.out]; omega
        simp [this] at hv
        simp [List.getD, this, hv]
      subst hx
      have HT := Lib.hid (drop_take_succ gaps k0 j (by rw [HN.out]; omega))
      have hb1 := getD_bd gaps (k0 + j) HG.out (by rw [HN.out]; omega)
      have hb2 := drop_take_bd gaps k0 j HG.out (by omega)
      have hiN : (0 : Int) ≤ ((k0 : Int) + (j : Int)) := by omega
      have hiM : ((k0 : Int) + (j : Int)) < (((k0 + m) : Nat) : Int) := by omega
      try simp only [Nat.zero_add] at HT
      clear hv
      generalize gaps.getD (k0 + j) 0 = x at *
      generalize ((gaps.drop k0).take j).sum = s at *
      go_wp2
      go_round
      case rel => exact ⟨j + 1, by omega, by go_num, by rw [HT.out]⟩
      case measure => simp [intOf]; omega
    · obtain rfl : m = j := by omega
      have hfull : (gaps.drop k0).take m = gaps.drop k0 := List.take_of_length_le (by rw [List.length_drop, HN.out]; omega)
      have hb2 := drop_take_bd gaps k0 m HG.out (by omega)
      rw [hfull] at hb2 ⊢
      clear hfull
      have hq := twice_bd (gaps.drop k0).sum (m : Int) hb2.1 hb2.2 (by omega)
      generalize (gaps.drop k0).sum = s at *
      have HT := Lib.hid (show R.twice s (m : Int) = if 2 * s % (m : Int) = 0 then 2 * s / (m : Int) else 2 * s / (m : Int) + 1 from rfl)
      have e1 : (2 * s).tdiv (m : Int) = 2 * s / (m : Int) := Int.tdiv_eq_ediv_of_nonneg (by omega)
      have e2 : (2 * s).tmod (m : Int) = 2 * s % (m : Int) := Int.tmod_eq_emod_of_nonneg (by omega)
      have hr1 := Int.emod_nonneg (2 * s) (b := (m : Int)) (by omega)
      have hr2 := Int.emod_lt_of_pos (2 * s) (b := (m : Int)) (by omega)
      generalize 2 * s / (m : Int) = q at *
      generalize 2 * s % (m : Int) = z at *
      by_cases hz : z = 0
      · subst hz
        have HT2 := Lib.hid (HT.out.trans (if_pos rfl))
        clear HT
        go_wp2
        all_goals
          go_ret
          refine ⟨ret_int ?_, nq, HWW.out.symm⟩
          rw [HT2.out]; unfold clampL
          repeat' split
          all_goals omega
      · have HT2 := Lib.hid (HT.out.trans (if_neg hz))
        have hz1 : (z != 0) = true := by simpa using hz
        have hz2 : (z == 0) = false := by simpa using hz
        clear HT hz
        go_wp2
        all_goals
          go_ret
          refine ⟨ret_int ?_, nq, HWW.out.symm⟩
          rw [HT2.out]; unfold clampL
          repeat' split
          all_goals omega
set_option maxHeartbeats 1000000 in
theorem rlimit_none (b : Nat) (A : Option Addr) (n c : Nat) (r : R) (w : World) (hb : Blk w b 79 #[.int .i64 r.mn, .int .i64 r.mx, .int .i64 r.wd, .bool r.yes, .int .i64 r.last, .slice A n c])
    (h0 : n = 0) (hwd : r.wd ≤ 4096) (hwd1 : 1 ≤ r.wd) :
    Calls Try.prog 50 #[.pointer (some ⟨b, 0, none⟩)] w (Tells (.int .i64 r.mx) w) := by
  obtain ⟨mn, mx, wd, yes, last, gaps⟩ := r
  subst h0
  simp only at hb hwd hwd1
  have c1 := hb.cell 1
  have c2 := hb.cell 2
  have c5 := hb.cell 5
  simp at c1 c2 c5
  have hng : decide ((0 : Int) < 0 - wd) = false := by simp; omega
  have hng2 : decide ((0 : Int) < -wd) = false := by simp; omega
  clear hb
  go_enter Try.func50, Try.ntmps50
  go_wp2
  go_quiet (fail)
  go_wp2
  go_ret
  exact ⟨rfl, nq, rfl⟩
theorem rlimit_any (b : Nat) (row : Option Nat) (r : R) (w : World) (h : RHas w b row r) (ok : r.Ok) (hlen : r.gaps.length ≤ 4000) :
    Calls Try.prog 50 #[.pointer (some ⟨b, 0, none⟩)] w (Tells (.int .i64 r.limit) w) := by
  obtain ⟨A, n, c, hb, hs⟩ := h
  have hn1 : r.gaps.length = n := by have := hs.1; simp at this; omega
  have hw1 := ok.wd1
  have hw2 := ok.wd2
  have hL : r.limit = if n - (n - r.wd.toNat) = 0 then r.mx else clampL r.mn r.mx (R.twice (r.gaps.drop (n - r.wd.toNat)).sum ((n - (n - r.wd.toNat) : Nat) : Int)) := by rw [R.limit, R.fromT, hn1]; rfl
  by_cases h0 : n = 0
  · rw [hL, if_pos (by omega)]
    exact rlimit_none b A n c r w hb h0 hw2 hw1
  · rw [hL, if_neg (by omega)]
    by_cases h1 : (n : Int) ≤ r.wd
    · have e : n - r.wd.toNat = 0 := by omega
      rw [e]
      exact rlimit_A b A c row r w n h1 hb hs ok.gap (by omega) (by omega) hw2 ok.mx1
    · obtain ⟨m, hm⟩ := Int.eq_ofNat_of_zero_le (show 0 ≤ r.wd by omega)
      obtain ⟨k, rfl⟩ : ∃ k, n = k + m := ⟨n - m, by omega⟩
      have e : k + m - r.wd.toNat = k := by omega
      rw [e, show k + m - k = m by omega]
      exact rlimit_B b A c row r w k m (by omega) hm hb hs ok.gap (by omega) (by omega) hw2 ok.mx1

set_option maxHeartbeats 1000000 in
theorem rlate_any (b : Nat) (row : Option Nat) (r : R) (now : Int) (w : World) (h : RHas w b row r) (ok : r.Ok) (hlen : r.gaps.length ≤ 4000) :
    Calls Try.prog 40 #[.pointer (some ⟨b, 0, none⟩), .int .i64 now] w (Tells (.bool (r.late now)) w) := by
  have HH := Lib.hid h
  have HO := Lib.hid ok
  obtain ⟨mn, mx, wd, yes, last, gaps⟩ := r
  obtain ⟨A, n, c, hb, hs⟩ := h
  have ha := ratT_bd (yes := yes) now ok.last1 ok.last2
  have hl1 := ok.last1
  have hl2 := ok.last2
  simp only at hb hl1 hl2 ha
  have c3 := hb.cell 3
  have c4 := hb.cell 4
  simp at c3 c4
  clear hb hs ok
  cases yes
  · have HT := Lib.hid (show R.late ⟨mn, mx, wd, false, last, gaps⟩ now = false from rfl)
    clear ha
    go_enter Try.func40, Try.ntmps40
    go_wp2
    go_quiet (fail)
    go_wp2
    go_ret
    exact ⟨ret_bool HT.out.symm, _, rfl⟩
  · have HT := Lib.hid (show R.late ⟨mn, mx, wd, true, last, gaps⟩ now = decide ((R.limit ⟨mn, mx, wd, true, last, gaps⟩) < ratT true last now - last) by simp [R.late])
    have HLm := Lib.hid (fun n : Nat => rlimit_any b row _ (w.drewN n) (HH.out.drewN n) HO.out hlen)
    have cAt := Lib.hid (fun n : Nat => rat_any b true last now (w.drewN n) (by simpa using c3) (by simpa using c4))
    generalize ratT true last now = t at *
    generalize R.limit ⟨mn, mx, wd, true, last, gaps⟩ = L at *
    have e1 : IntKind.i64.wrap (t - last) = t - last := IntWalk.i64_in _ (by omega)
    clear hlen
    go_enter Try.func40, Try.ntmps40
    go_wp2
    go_quiet ((first
      | (go_at_call 49; exact quiet_same (cAt.out _))
      | (go_at_call 50; exact quiet_tells (HLm.out _))))
    go_wp2
    go_ret
    exact ⟨ret_bool HT.out.symm, _, rfl⟩
end Go.Proofs.Ytenphdgnaknbeaa
