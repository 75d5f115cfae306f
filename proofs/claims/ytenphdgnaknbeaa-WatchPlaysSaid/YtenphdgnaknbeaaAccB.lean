/-
  Contracts of accrual's Limit and Late.
-/
import Derived.Test.YtenphdgnaknbeaaAccA
namespace Go.Proofs.Ytenphdgnaknbeaa
open Go.RowKit

/-- The detector d lies in block b, its gaps in the block 'row'. -/
def Has (w : World) (b : Nat) (row : Option Nat) (d : D) : Prop :=
  ∃ A n c, Blk w b 74 #[.int .i64 d.mn, .int .i64 d.mx, .int .i64 d.wd, .int .i64 d.last, .slice A n c] ∧ Sl w 3 row A n c (d.gaps.map (.int .i64))

theorem sum_take_succ (l : List Int) (k : Nat) (h : k < l.length) : (l.take (k + 1)).sum = (l.take k).sum + l.getD k 0 := by
  rw [List.take_succ_eq_append_getElem h, List.sum_append]
  simp [List.getD, h]
theorem sum_take_bd (l : List Int) (k : Nat) (h : ∀ g ∈ l, 0 ≤ g ∧ g ≤ 1099511627776) (hk : k ≤ 4096) : 0 ≤ (l.take k).sum ∧ (l.take k).sum ≤ 4503599627370496 := by
  have h1 := sum_bd (l.take k) 1099511627776 (fun g hg => h g (List.mem_of_mem_take hg))
  have h2 : (l.take k).length ≤ k := List.length_take_le _ _
  constructor
  · exact h1.1
  · have : ((l.take k).length : Int) ≤ 4096 := by omega
    omega
theorem getD_bd (l : List Int) (k : Nat) (h : ∀ g ∈ l, 0 ≤ g ∧ g ≤ 1099511627776) (hk : k < l.length) : 0 ≤ l.getD k 0 ∧ l.getD k 0 ≤ 1099511627776 := by
  have : l.getD k 0 = l[k] := by simp [List.getD, hk]
  rw [this]; exact h _ (List.getElem_mem hk)

set_option maxHeartbeats 400000 in
theorem limit_none (b : Nat) (row : Option Nat) (d : D) (w : World) (h : Has w b row d) (h0 : d.gaps = []) :
    Calls Try.prog 46 #[.pointer (some ⟨b, 0, none⟩)] w (Tells (.int .i64 d.limit) w) := by
  obtain ⟨A, n, c, hb, hs⟩ := h
  have hn : n = 0 := by have := hs.1; simp [h0] at this; omega
  subst hn
  have hc4 := hb.cell 4
  have hc1 := hb.cell 1
  simp at hc4 hc1
  have hlim : d.limit = d.mx := by simp [D.limit, h0]
  have H := Lib.hid hlim
  clear hlim h0 hb hs
  go_enter Try.func46, Try.ntmps46
  go_wp2
  go_ret
  exact ⟨ret_int H.out.symm, 0, rfl⟩

set_option maxHeartbeats 400000 in
theorem limit_some (b : Nat) (row : Option Nat) (d : D) (w : World) (h : Has w b row d) (h0 : d.gaps ≠ []) (ok : d.Ok) :
    Calls Try.prog 46 #[.pointer (some ⟨b, 0, none⟩)] w (Tells (.int .i64 d.limit) w) := by
  obtain ⟨A, n, c, hb, hs⟩ := h
  have hn1 : d.gaps.length = n := by simpa using hs.1
  have hnpos : 0 < n := by rw [← hn1]; exact List.length_pos_iff.2 h0
  obtain ⟨g, off, _, rfl, _, _, _⟩ := hs.at_ hnpos
  have hcell : ∀ k, k < n → w.cell? ⟨g, off + k, none⟩ = some (.int .i64 (d.gaps.getD k 0)) := by
    intro k hk
    obtain ⟨g', off', v, hA, _, hv, hc⟩ := hs.at_ hk
    injection hA with hA; injection hA with h1 h2; subst h1 h2
    rw [hc, ← hv]
    simp [List.getD, hn1, hk]
  have hn4 : n ≤ 4096 := by have := ok.len; have := ok.wd2; omega
  have hc0 := hb.cell 0
  have hc4 := hb.cell 4
  have hc1 := hb.cell 1
  simp at hc4 hc1 hc0
  have hbd := fun k (hk : k < n) => getD_bd d.gaps k ok.gap (by omega)
  have hsb := fun k (hk : k ≤ n) => sum_take_bd d.gaps k ok.gap (by omega)
  have HC := Lib.hid hcell
  have HB := Lib.hid hbd
  have HS := Lib.hid hsb
  have HL := Lib.hid hn1
  have hpos : ((n : Int) == 0) = false := by simp; omega
  have hlim : d.limit = wi ((2 * d.gaps.sum + n - 1) / n) d.mn d.mx := by simp [D.limit, h0, hn1]
  have HLim := Lib.hid hlim
  clear hcell hbd hsb hn1 hlim hb hs h0
  go_enter Try.func46, Try.ntmps46
  go_wp2
  go_loop [4, 25] (fun s i => ∃ k : Nat, k ≤ n ∧ i = .int .i64 k ∧ s = .int .i64 (d.gaps.take k).sum) (fun _ i => n - (intOf i).toNat)
  case atStart => exact ⟨0, Nat.zero_le _, rfl, by simp⟩
  case round =>
    obtain ⟨k, hk, rfl, rfl⟩ := hrel
    by_cases hlt : k < n
    · have hc := HC.out k hlt
      have hb1 := HB.out k hlt
      have hs1 := HS.out k hk
      have hs2 := HS.out (k + 1) hlt
      have HT := Lib.hid (sum_take_succ d.gaps k (by have := HL.out; omega))
      obtain ⟨x, hx⟩ : ∃ x, x = d.gaps.getD k 0 := ⟨_, rfl⟩
      rw [← hx] at hc hb1
      rw [← hx] at HT
      clear hx
      obtain ⟨s, hs⟩ : ∃ s, s = (d.gaps.take k).sum := ⟨_, rfl⟩
      rw [← hs] at hs1 HT ⊢
      have HX := Lib.hid hs
      clear hs
      go_wp2
      go_round
      case rel => exact ⟨k + 1, by omega, by go_num, by rw [HT.out]⟩
      case measure => simp [intOf]; omega
    · obtain rfl : k = n := by omega
      have hfull : (d.gaps.take k).sum = d.gaps.sum := by rw [List.take_of_length_le (by have := HL.out; omega)]
      have hs1 := HS.out k hk
      rw [hfull] at hs1 ⊢
      obtain ⟨s, hs⟩ : ∃ s, s = d.gaps.sum := ⟨_, rfl⟩
      rw [← hs] at hs1 ⊢
      have HX := Lib.hid hs
      clear hs hfull
      have e1 : IntKind.i64.wrap (2 * s) = 2 * s := IntWalk.i64_in _ (by omega)
      have e2 : IntKind.i64.wrap (2 * s + k) = 2 * s + k := IntWalk.i64_in _ (by omega)
      have e3 : IntKind.i64.wrap (2 * s + k - 1) = 2 * s + k - 1 := IntWalk.i64_in _ (by omega)
      have e4 : IntKind.i64.wrap ((2 * s + k - 1).tdiv k) = (2 * s + k - 1) / k := IntWalk.i64_quo _ _ (by omega)
      have hk0 : ¬ k = 0 := by omega
      go_wp2
      go_quiet ((go_at_call 51; exact quiet_same (within_any _ _ _ _)))
      go_wp2
      go_ret
      exact ⟨ret_int (by rw [HLim.out, ← HX.out]), _, rfl⟩

theorem limit_any (b : Nat) (row : Option Nat) (d : D) (w : World) (h : Has w b row d) (ok : d.Ok) :
    Calls Try.prog 46 #[.pointer (some ⟨b, 0, none⟩)] w (Tells (.int .i64 d.limit) w) := by
  by_cases h0 : d.gaps = []
  · exact limit_none b row d w h h0
  · exact limit_some b row d w h h0 ok

theorem Has.drewN {w : World} {b : Nat} {row : Option Nat} {d : D} (h : Has w b row d) (k : Nat) : Has (w.drewN k) b row d := h

set_option maxHeartbeats 400000 in
theorem late_none (b : Nat) (row : Option Nat) (d : D) (now : Int) (w : World) (h : Has w b row d) (h0 : d.last = -1) :
    Calls Try.prog 30 #[.pointer (some ⟨b, 0, none⟩), .int .i64 now] w (Tells (.bool (d.late now)) w) := by
  obtain ⟨A, n, c, hb, hs⟩ := h
  have hc3 := hb.cell 3
  simp [h0] at hc3
  have hl : d.late now = false := by simp [D.late, h0]
  have H := Lib.hid hl
  clear hl h0 hb hs
  go_enter Try.func30, Try.ntmps30
  go_wp2
  go_quiet (fail)
  go_wp2
  go_ret
  exact ⟨ret_bool H.out.symm, _, rfl⟩

set_option maxHeartbeats 400000 in
theorem late_some (b : Nat) (row : Option Nat) (d : D) (now : Int) (w : World) (h : Has w b row d) (h0 : ¬ d.last = -1) (ok : d.Ok) :
    Calls Try.prog 30 #[.pointer (some ⟨b, 0, none⟩), .int .i64 now] w (Tells (.bool (d.late now)) w) := by
  have hh := h
  obtain ⟨A, n, c, hb, hs⟩ := h
  have hc3 := hb.cell 3
  simp at hc3
  have hl : d.late now = decide (d.limit < atv d.last now - d.last) := by simp [D.late, h0]
  have H := Lib.hid hl
  have ha := atv_bd (now := now) ok.last1 ok.last2
  have hl1 := ok.last1
  have hne : (d.last != -1) = true := by simpa using h0
  have HH := Lib.hid hh
  have HO := Lib.hid ok
  obtain ⟨t, ht⟩ : ∃ t, t = atv d.last now := ⟨_, rfl⟩
  have e1 : IntKind.i64.wrap (t - d.last) = t - d.last := IntWalk.i64_in _ (by omega)
  have HT := Lib.hid ht
  have cAt := Lib.hid (fun n : Nat => at_any b d.last now (w.drewN n) (by simpa using hc3))
  rw [← ht] at cAt
  clear hl hb hs hh ok h0 ht
  go_enter Try.func30, Try.ntmps30
  go_wp2
  go_quiet ((first
    | (go_at_call 44; exact quiet_same (cAt.out _))
    | (go_at_call 46; exact quiet_tells (limit_any b row d _ (HH.out.drewN _) HO.out))))
  go_wp2
  go_ret
  exact ⟨ret_bool (by rw [H.out, ← HT.out]), _, rfl⟩

theorem late_any (b : Nat) (row : Option Nat) (d : D) (now : Int) (w : World) (h : Has w b row d) (ok : d.Ok) :
    Calls Try.prog 30 #[.pointer (some ⟨b, 0, none⟩), .int .i64 now] w (Tells (.bool (d.late now)) w) := by
  by_cases h0 : d.last = -1
  · exact late_none b row d now w h h0
  · exact late_some b row d now w h h0 ok
end Go.Proofs.Ytenphdgnaknbeaa
