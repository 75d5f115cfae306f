/-
  Tick.
-/
import Derived.Test.YtlnflbobcbnhhaaEntB
import Derived.Shelf.Abstract
namespace Go.Proofs.Ytlnflbobcbnhhaa
open Go.RowKit

def E.next (x : E) : Int := min (x.ticks + 1) 1099511627776
def E.tick (x : E) : E := { x with ticks := x.next }
def E.asks (x : E) : List Int := if (x.next - 1) % x.retry = 0 then asked x.own x.seeds else []
def E.first (x : E) : Bool := match x.seeds with
  | [] => false
  | s :: _ => decide (s = x.own)
def E.alone (x : E) : Bool := x.first && !x.ans && decide (2 * x.retry ≤ x.next)
structure E.Ok (x : E) : Prop where
  r1 : 1 ≤ x.retry
  r2 : x.retry ≤ 4096
  t1 : 0 ≤ x.ticks
  t2 : x.ticks ≤ 1099511627776
  len : x.seeds.length ≤ 1000
theorem E.Ok.tick {x : E} (h : x.Ok) : x.tick.Ok := ⟨h.r1, h.r2, by have := h.t1; simp only [E.tick, E.next]; omega, by simp only [E.tick, E.next]; omega, h.len⟩

/-- A tick: whom it asks, in new memory; whether it stands alone. -/
def Ticked (b : Nat) (row : Option Nat) (x : E) (w : World) (e : Ending) (w' : World) : Prop :=
  ∃ row' A c, e = .returned (.tuple #[.slice A x.asks.length c, .bool x.alone]) ∧ Sl w' 3 row' A x.asks.length c (x.asks.map (.int .i64)) ∧ (∀ g, row' = some g → w.heap.size ≤ g) ∧
    EHas w' b row x.tick ∧ Keep (fun k => k = b) w w'

theorem keepD2 {w : World} {a b : Nat} : Keep (fun _ => False) w ((w.drewN a).drewN b) := ((Keep.refl (fun _ => False) w).drewN a).drewN b
theorem keepD3 {w : World} {a b c : Nat} : Keep (fun _ => False) w (((w.drewN a).drewN b).drewN c) := (((Keep.refl (fun _ => False) w).drewN a).drewN b).drewN c
theorem first_nil {x : E} (h : x.seeds = []) : x.first = false := by simp [E.first, h]
theorem first_cons {x : E} {s : Int} {t : List Int} (h : x.seeds = s :: t) : x.first = decide (s = x.own) := by simp [E.first, h]

set_option maxRecDepth 100000 in
set_option maxHeartbeats 4000000 in
theorem tick_quiet {b : Nat} {row : Option Nat} {x : E} (w : World) (h : EHas w b row x) (ok : x.Ok) (hr : ¬ (x.next - 1) % x.retry = 0) (ge : Bool) (hge : decide (2 * x.retry ≤ x.next) = ge) (ans : Bool) (han : x.ans = ans) :
    Calls Try.prog 10 #[.pointer (some ⟨b, 0, none⟩)] w (Ticked b row x w) := by
  have hne := h.row_ne
  obtain ⟨A, n, c, hb, hs⟩ := h
  have hc0 := hb.cell 0
  have hc1 := hb.cell 1
  have hc2 := hb.cell 2
  have hc3 := hb.cell 3
  have hc4 := hb.cell 4
  have hf3 := hb.frozen 3
  simp at hc0 hc1 hc2 hc3 hc4
  have hasks : x.asks = [] := by simp [E.asks, hr]
  have halone : x.alone = (x.first && !ans && ge) := by simp only [E.alone, hge, han]
  obtain ⟨t, ht⟩ : ∃ t, t = x.next := ⟨_, rfl⟩
  have ht1 : 0 ≤ t ∧ t ≤ 1099511627776 ∧ 1 ≤ t := by have := ok.t1; rw [ht]; simp only [E.next]; omega
  have hmin : (if (1099511627776 : Int) < x.ticks + 1 then 1099511627776 else x.ticks + 1) = t := by rw [ht]; simp only [E.next]; omega
  have k1 := ok.r1
  have k2 := ok.r2
  have k3 := ok.t1
  have k4 := ok.t2
  have e1 : IntKind.i64.wrap (t - 1) = t - 1 := IntWalk.i64_in _ (by omega)
  have e2 : IntKind.i64.wrap (2 * x.retry) = 2 * x.retry := IntWalk.i64_in _ (by omega)
  have e3 : ((t - 1).tmod x.retry == 0) = false := by rw [Int.tmod_eq_emod_of_nonneg (by omega), ht]; simpa using hr
  have e4 : ((t - 1) % x.retry == 0) = false := by rw [ht]; simpa using hr
  have hr0 : ¬ x.retry = 0 := by omega
  have hlen : x.seeds.length = n := by simpa using hs.1
  have hn : n ≤ 1000 := by have := ok.len; omega
  rw [← ht] at hge
  have HB := Lib.hid hb
  have HS := Lib.hid hs
  have HLen := Lib.hid hlen
  have HT := Lib.hid ht
  have HA := Lib.hid hasks
  have HAl := Lib.hid halone
  have HNe := Lib.hid hne
  have HO := Lib.hid ok
  have HAn := Lib.hid han
  clear hb hs ht hasks halone hne hr ok hlen han
  go_enter Try.func10, Try.ntmps10
  go_wp2
  have hB1 := HB.out.set_ 3 (.int .i64 t)
  have hK1 : Keep (fun k => k = b) w (w.setCell ⟨b, 3, none⟩ (.int .i64 t)) := (Keep.refl (fun k => k = b) w).setCell (fun _ => rfl) _
  have hS1 := HS.out.keep hK1 HNe.out
  simp at hB1
  generalize w.setCell ⟨b, 3, none⟩ (.int .i64 t) = w1 at hB1 hK1 hS1 ⊢
  clear hc0 hc1 hc2 hc3 hc4 hf3
  have hc0 := hB1.cell 0
  have hc1 := hB1.cell 1
  have hc2 := hB1.cell 2
  have hc3 := hB1.cell 3
  have hc4 := hB1.cell 4
  simp at hc0 hc1 hc2 hc3 hc4
  rw [HAn.out] at hc4
  have HB1 := Lib.hid hB1
  have HK1 := Lib.hid hK1
  have HS1 := Lib.hid hS1
  clear hB1 hK1 hS1
  go_quiet (fail)
  have HK2 := Lib.hid (Keep.refl (fun _ => False) w1)
  have HS2 := Lib.hid HS1.out
  have HB2 := Lib.hid HB1.out
  have HSs := Lib.hid (Sl.nil_ w1 3)
  by_cases hn0 : n = 0
  · subst hn0
    have hfirst := Lib.hid (first_nil (List.eq_nil_of_length_eq_zero HLen.out))
    go_wp2
    go_quiet (fail)
    go_wp2
    go_quiet (fail)
    go_wp2
    go_ret2
    refine ⟨none, none, 0, by rw [HA.out, HAl.out, hfirst.out]; rfl, by rw [HA.out]; exact HSs.out.keep keepD3 (fun _ _ h => h), (fun g hg => by cases hg), ⟨_, _, _, by simpa [E.tick, HT.out] using HB2.out.keep keepD3 (fun h => h), HS2.out.keep keepD3 (fun _ _ h => h)⟩, HK1.out.trans ((HK2.out.trans (keepD3.mono fun _ _ h => .inl h)).mono fun _ _ h => h.elim)⟩
  · have hpos : 0 < n := by omega
    have hposI : (0 : Int) < (n : Int) := by omega
    obtain ⟨g, off, v, rfl, _, hv, hcs⟩ := HS2.out.at_ hpos
    obtain ⟨s0, rest, hse⟩ : ∃ s0 rest, x.seeds = s0 :: rest := by
      cases hx : x.seeds with
      | nil => have h9 := HLen.out; rw [hx] at h9; simp at h9; omega
      | cons a t => exact ⟨a, t, rfl⟩
    have hv0 : v = .int .i64 s0 := by rw [hse] at hv; simp at hv; exact hv.symm
    rw [hv0] at hcs
    have hcs0 : w1.cell? ⟨g, off, none⟩ = some (.int .i64 s0) := by simpa using hcs
    have hfirst0 := first_cons hse
    clear hv hv0 hcs
    cases hfst : decide (s0 = x.own) with
    | false =>
      have hfirst := Lib.hid (hfirst0.trans hfst)
      have hq : (s0 == x.own) = false := by simpa using hfst
      clear hfst hfirst0 hse
      go_wp2
      go_quiet (fail)
      go_wp2
      go_quiet (fail)
      go_wp2
      go_ret2
      refine ⟨none, none, 0, by rw [HA.out, HAl.out, hfirst.out]; rfl, by rw [HA.out]; exact HSs.out.keep keepD3 (fun _ _ h => h), (fun g hg => by cases hg), ⟨_, _, _, by simpa [E.tick, HT.out] using HB2.out.keep keepD3 (fun h => h), HS2.out.keep keepD3 (fun _ _ h => h)⟩, HK1.out.trans ((HK2.out.trans (keepD3.mono fun _ _ h => .inl h)).mono fun _ _ h => h.elim)⟩
    | true =>
      have hfirst := Lib.hid (hfirst0.trans hfst)
      have hq : (s0 == x.own) = true := by simpa using hfst
      clear hfst hfirst0 hse
      cases ans with
      | true =>
        go_wp2
        go_quiet (fail)
        go_wp2
        go_quiet (fail)
        go_wp2
        go_ret2
        refine ⟨none, none, 0, by rw [HA.out, HAl.out, hfirst.out]; rfl, by rw [HA.out]; exact HSs.out.keep keepD3 (fun _ _ h => h), (fun g hg => by cases hg), ⟨_, _, _, by simpa [E.tick, HT.out] using HB2.out.keep keepD3 (fun h => h), HS2.out.keep keepD3 (fun _ _ h => h)⟩, HK1.out.trans ((HK2.out.trans (keepD3.mono fun _ _ h => .inl h)).mono fun _ _ h => h.elim)⟩
      | false =>
        cases ge with
        | true =>
          have hge2 : 2 * x.retry ≤ t := of_decide_eq_true hge
          go_wp2
          go_quiet (fail)
          go_wp2
          go_quiet (fail)
          go_wp2
          go_ret2
          refine ⟨none, none, 0, by rw [HA.out, HAl.out, hfirst.out]; rfl, by rw [HA.out]; exact HSs.out.keep keepD3 (fun _ _ h => h), (fun g hg => by cases hg), ⟨_, _, _, by simpa [E.tick, HT.out] using HB2.out.keep keepD3 (fun h => h), HS2.out.keep keepD3 (fun _ _ h => h)⟩, HK1.out.trans ((HK2.out.trans (keepD3.mono fun _ _ h => .inl h)).mono fun _ _ h => h.elim)⟩
        | false =>
          have hge2 : t < 2 * x.retry := by have := of_decide_eq_false hge; omega
          go_wp2
          go_quiet (fail)
          go_wp2
          go_quiet (fail)
          go_wp2
          go_ret2
          refine ⟨none, none, 0, by rw [HA.out, HAl.out, hfirst.out]; rfl, by rw [HA.out]; exact HSs.out.keep keepD3 (fun _ _ h => h), (fun g hg => by cases hg), ⟨_, _, _, by simpa [E.tick, HT.out] using HB2.out.keep keepD3 (fun h => h), HS2.out.keep keepD3 (fun _ _ h => h)⟩, HK1.out.trans ((HK2.out.trans (keepD3.mono fun _ _ h => .inl h)).mono fun _ _ h => h.elim)⟩

set_option maxRecDepth 100000 in
set_option maxHeartbeats 4000000 in
theorem tick_ask {b : Nat} {row : Option Nat} {x : E} (w : World) (h : EHas w b row x) (ok : x.Ok) (hr : (x.next - 1) % x.retry = 0) (ge : Bool) (hge : decide (2 * x.retry ≤ x.next) = ge) (ans : Bool) (han : x.ans = ans) :
    Calls Try.prog 10 #[.pointer (some ⟨b, 0, none⟩)] w (Ticked b row x w) := by
  have hne := h.row_ne
  obtain ⟨A, n, c, hb, hs⟩ := h
  have hc0 := hb.cell 0
  have hc1 := hb.cell 1
  have hc2 := hb.cell 2
  have hc3 := hb.cell 3
  have hc4 := hb.cell 4
  have hf3 := hb.frozen 3
  simp at hc0 hc1 hc2 hc3 hc4
  have hasks : x.asks = asked x.own x.seeds := by simp [E.asks, hr]
  have halone : x.alone = (x.first && !ans && ge) := by simp only [E.alone, hge, han]
  obtain ⟨t, ht⟩ : ∃ t, t = x.next := ⟨_, rfl⟩
  have ht1 : 0 ≤ t ∧ t ≤ 1099511627776 ∧ 1 ≤ t := by have := ok.t1; rw [ht]; simp only [E.next]; omega
  have hmin : (if (1099511627776 : Int) < x.ticks + 1 then 1099511627776 else x.ticks + 1) = t := by rw [ht]; simp only [E.next]; omega
  have k1 := ok.r1
  have k2 := ok.r2
  have k3 := ok.t1
  have k4 := ok.t2
  have e1 : IntKind.i64.wrap (t - 1) = t - 1 := IntWalk.i64_in _ (by omega)
  have e2 : IntKind.i64.wrap (2 * x.retry) = 2 * x.retry := IntWalk.i64_in _ (by omega)
  have e3 : ((t - 1).tmod x.retry == 0) = true := by rw [Int.tmod_eq_emod_of_nonneg (by omega), ht]; simpa using hr
  have e4 : ((t - 1) % x.retry == 0) = true := by rw [ht]; simpa using hr
  have hr0 : ¬ x.retry = 0 := by omega
  have hlen : x.seeds.length = n := by simpa using hs.1
  have hn : n ≤ 1000 := by have := ok.len; omega
  rw [← ht] at hge
  have HB := Lib.hid hb
  have HS := Lib.hid hs
  have HLen := Lib.hid hlen
  have HT := Lib.hid ht
  have HA := Lib.hid hasks
  have HAl := Lib.hid halone
  have HNe := Lib.hid hne
  have HO := Lib.hid ok
  have HAn := Lib.hid han
  clear hb hs ht hasks halone hne hr ok hlen han
  go_enter Try.func10, Try.ntmps10
  go_wp2
  have hB1 := HB.out.set_ 3 (.int .i64 t)
  have hK1 : Keep (fun k => k = b) w (w.setCell ⟨b, 3, none⟩ (.int .i64 t)) := (Keep.refl (fun k => k = b) w).setCell (fun _ => rfl) _
  have hS1 := HS.out.keep hK1 HNe.out
  simp at hB1
  generalize w.setCell ⟨b, 3, none⟩ (.int .i64 t) = w1 at hB1 hK1 hS1 ⊢
  clear hc0 hc1 hc2 hc3 hc4 hf3
  have hc0 := hB1.cell 0
  have hc1 := hB1.cell 1
  have hc2 := hB1.cell 2
  have hc3 := hB1.cell 3
  have hc4 := hB1.cell 4
  simp at hc0 hc1 hc2 hc3 hc4
  rw [HAn.out] at hc4
  have HB1 := Lib.hid hB1
  have HK1 := Lib.hid hK1
  have HS1 := Lib.hid hS1
  clear hB1 hK1 hS1
  go_quiet (fail)
  go_wp2_with fail
  refine (others_any _ _).mono ?_
  rintro en w2 ⟨rfl, rfl⟩
  go_wp2_with fail
  have hkB : Keep (fun _ => False) w1 ((w1.drewN nq).alloc (.cells #[.pointer (some ⟨b, 0, none⟩)] 28)) := ((Keep.refl (fun _ => False) w1).drewN nq).alloc _
  have hbox : Blk ((w1.drewN nq).alloc (.cells #[.pointer (some ⟨b, 0, none⟩)] 28)) w1.heap.size 28 #[.pointer (some ⟨b, 0, none⟩)] := Blk.new (w1.drewN nq) _ _
  refine (collect_any 3 (by omega) 22 #[.pointer (some ⟨w1.heap.size, 0, none⟩)] (enters_of Try.func22 (by kernel_rfl) rfl) (fun xs => xs = asked x.own x.seeds) n (by unfold maxLen; omega) (by omega) _
    (others1_in 1 (by omega) _ w1.heap.size b A n c row x.seeds x.own hn (by simpa using hbox.cell 0) (hkB.cell hc0 (fun h => h)) (hkB.cell hc2 (fun h => h)) (HS1.out.keep hkB (fun _ _ h => h)))).mono ?_
  rintro en w2 ⟨v, ss, rfl, hss, hrow, _, hbel⟩
  obtain ⟨row2, A2, c2, rfl, hs2, hr2⟩ := Sl.of_own hrow
  have hkk : Keep (fun _ => False) w1 w2 := hkB.trans ((Keep.of_below hbel).mono fun k _ h => .inr (by simp at h; omega))
  subst hss
  have HSs := Lib.hid hs2
  have HR2 := Lib.hid hr2
  have HK2 := Lib.hid hkk
  clear hrow hbel hs2 hr2 hkB hbox
  replace hc0 := hkk.cell hc0 (fun h => h)
  replace hc1 := hkk.cell hc1 (fun h => h)
  replace hc2 := hkk.cell hc2 (fun h => h)
  replace hc3 := hkk.cell hc3 (fun h => h)
  replace hc4 := hkk.cell hc4 (fun h => h)
  clear hkk
  have HS2 := Lib.hid (HS1.out.keep HK2.out (fun _ _ h => h))
  have HB2 := Lib.hid (HB1.out.keep HK2.out (fun h => h))
  by_cases hn0 : n = 0
  · subst hn0
    have hfirst := Lib.hid (first_nil (List.eq_nil_of_length_eq_zero HLen.out))
    go_wp2
    go_quiet (fail)
    go_wp2
    go_quiet (fail)
    go_wp2
    go_ret2
    refine ⟨row2, A2, c2, by rw [HA.out, HAl.out, hfirst.out]; rfl, by rw [HA.out]; exact HSs.out.keep keepD2 (fun _ _ h => h), fun g hg => ?_, ⟨_, _, _, by simpa [E.tick, HT.out] using HB2.out.keep keepD2 (fun h => h), HS2.out.keep keepD2 (fun _ _ h => h)⟩, HK1.out.trans ((HK2.out.trans (keepD2.mono fun _ _ h => .inl h)).mono fun _ _ h => h.elim)⟩
    have h9 := HR2.out g hg
    have h8 := HK1.out.size
    simp at h9
    omega
  · have hpos : 0 < n := by omega
    have hposI : (0 : Int) < (n : Int) := by omega
    obtain ⟨g, off, v, rfl, _, hv, hcs⟩ := HS2.out.at_ hpos
    obtain ⟨s0, rest, hse⟩ : ∃ s0 rest, x.seeds = s0 :: rest := by
      cases hx : x.seeds with
      | nil => have h9 := HLen.out; rw [hx] at h9; simp at h9; omega
      | cons a t => exact ⟨a, t, rfl⟩
    have hv0 : v = .int .i64 s0 := by rw [hse] at hv; simp at hv; exact hv.symm
    rw [hv0] at hcs
    have hcs0 : w2.cell? ⟨g, off, none⟩ = some (.int .i64 s0) := by simpa using hcs
    have hfirst0 := first_cons hse
    clear hv hv0 hcs
    cases hfst : decide (s0 = x.own) with
    | false =>
      have hfirst := Lib.hid (hfirst0.trans hfst)
      have hq : (s0 == x.own) = false := by simpa using hfst
      clear hfst hfirst0 hse
      go_wp2
      go_quiet (fail)
      go_wp2
      go_quiet (fail)
      go_wp2
      go_ret2
      refine ⟨row2, A2, c2, by rw [HA.out, HAl.out, hfirst.out]; rfl, by rw [HA.out]; exact HSs.out.keep keepD2 (fun _ _ h => h), fun g hg => ?_, ⟨_, _, _, by simpa [E.tick, HT.out] using HB2.out.keep keepD2 (fun h => h), HS2.out.keep keepD2 (fun _ _ h => h)⟩, HK1.out.trans ((HK2.out.trans (keepD2.mono fun _ _ h => .inl h)).mono fun _ _ h => h.elim)⟩
      have h9 := HR2.out g hg
      have h8 := HK1.out.size
      simp at h9
      omega
    | true =>
      have hfirst := Lib.hid (hfirst0.trans hfst)
      have hq : (s0 == x.own) = true := by simpa using hfst
      clear hfst hfirst0 hse
      cases ans with
      | true =>
        go_wp2
        go_quiet (fail)
        go_wp2
        go_quiet (fail)
        go_wp2
        go_ret2
        refine ⟨row2, A2, c2, by rw [HA.out, HAl.out, hfirst.out]; rfl, by rw [HA.out]; exact HSs.out.keep keepD2 (fun _ _ h => h), fun g hg => ?_, ⟨_, _, _, by simpa [E.tick, HT.out] using HB2.out.keep keepD2 (fun h => h), HS2.out.keep keepD2 (fun _ _ h => h)⟩, HK1.out.trans ((HK2.out.trans (keepD2.mono fun _ _ h => .inl h)).mono fun _ _ h => h.elim)⟩
        have h9 := HR2.out g hg
        have h8 := HK1.out.size
        simp at h9
        omega
      | false =>
        cases ge with
        | true =>
          have hge2 : 2 * x.retry ≤ t := of_decide_eq_true hge
          go_wp2
          go_quiet (fail)
          go_wp2
          go_quiet (fail)
          go_wp2
          go_ret2
          refine ⟨row2, A2, c2, by rw [HA.out, HAl.out, hfirst.out]; rfl, by rw [HA.out]; exact HSs.out.keep keepD2 (fun _ _ h => h), fun g hg => ?_, ⟨_, _, _, by simpa [E.tick, HT.out] using HB2.out.keep keepD2 (fun h => h), HS2.out.keep keepD2 (fun _ _ h => h)⟩, HK1.out.trans ((HK2.out.trans (keepD2.mono fun _ _ h => .inl h)).mono fun _ _ h => h.elim)⟩
          have h9 := HR2.out g hg
          have h8 := HK1.out.size
          simp at h9
          omega
        | false =>
          have hge2 : t < 2 * x.retry := by have := of_decide_eq_false hge; omega
          go_wp2
          go_quiet (fail)
          go_wp2
          go_quiet (fail)
          go_wp2
          go_ret2
          refine ⟨row2, A2, c2, by rw [HA.out, HAl.out, hfirst.out]; rfl, by rw [HA.out]; exact HSs.out.keep keepD2 (fun _ _ h => h), fun g hg => ?_, ⟨_, _, _, by simpa [E.tick, HT.out] using HB2.out.keep keepD2 (fun h => h), HS2.out.keep keepD2 (fun _ _ h => h)⟩, HK1.out.trans ((HK2.out.trans (keepD2.mono fun _ _ h => .inl h)).mono fun _ _ h => h.elim)⟩
          have h9 := HR2.out g hg
          have h8 := HK1.out.size
          simp at h9
          omega

theorem tick_any {b : Nat} {row : Option Nat} {x : E} (w : World) (h : EHas w b row x) (ok : x.Ok) :
    Calls Try.prog 10 #[.pointer (some ⟨b, 0, none⟩)] w (Ticked b row x w) := by
  by_cases hr : (x.next - 1) % x.retry = 0
  · exact tick_ask w h ok hr _ rfl _ rfl
  · exact tick_quiet w h ok hr _ rfl _ rfl
end Go.Proofs.Ytlnflbobcbnhhaa
