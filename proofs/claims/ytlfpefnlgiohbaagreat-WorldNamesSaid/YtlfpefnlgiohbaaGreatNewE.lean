/-
  A node made new: New (a configuration without Lease). Written by gen_newe.py.
-/
import Derived.Test.YtlfpefnlgiohbaaGreatNewD
namespace Go.Proofs.YtlfpefnlgiohbaaGreat
open Go.RowKit Go
set_option maxRecDepth 100000
attribute [local irreducible] kAll kAllP
attribute [local go_sem] kQuiet kQuietUpon

structure Times (c : NC) : Prop where
  mn : 1 ≤ c.mn
  le : c.mn ≤ c.mx
  mx : c.mx ≤ 4096
  w1 : 1 ≤ c.window
  w2 : c.window ≤ 4096
  r1 : 1 ≤ c.retry
  r2 : c.retry ≤ 4096
  q1 : 1 ≤ c.queue
  q2 : c.queue ≤ 4096
  e1 : 1 ≤ c.events
  e2 : c.events ≤ 4096
  len : 0 < c.seeds.length
theorem mayNC_times {c : NC} (h : mayNC c = true) : Times c := by
  unfold mayNC mayX riseM timesM at h
  simp only [Bool.and_eq_true, inB, List.all_cons, List.all_nil, decide_eq_true_eq] at h
  obtain ⟨⟨⟨⟨h1, h2⟩, _⟩, _⟩, _⟩ := h
  obtain ⟨⟨⟨hl, _⟩, _⟩, _⟩ := h1
  obtain ⟨⟨⟨a1, a2, a3, a4, a5, a6, a7, _⟩, b⟩, _⟩ := h2
  exact ⟨a1.1, b, a2.2, a3.1, a3.2, a4.1, a4.2, a6.1, a6.2, a7.1, a7.2, hl⟩
abbrev nodeA (s : Value) (c : NC) (me : ID) (bl : Nat) (bx : Nat → Value) (wt : Value) (bw : Nat) (en : Value) (bt : Nat) (ev ho : Value) : Array Value :=
  #[s, .int .i64 c.watch, .int .i64 c.mn, .int .i64 c.mx, .int .i64 c.window, .int .i64 c.retry, .int .i64 c.stable, .int .i64 c.unstable, .int .u8 c.strategy, .int .i64 c.quorum, .bool c.alone, .bool c.weak, .int .i64 c.delay, .int .i64 c.term, .int .i64 c.hold, .int .i64 c.queue, .int .i64 c.events,
    .int .i64 me.1, .int .i64 me.2, .slice none 0 0, .slice none 0 0, .slice none 0 0, .slice none 0 0, .slice none 0 0, .int .i64 0, .pointer (some ⟨bl, 0, none⟩), bx 0, bx 1, bx 2, bx 3, bx 4, bx 5, bx 6, bx 7, bx 8, bx 9, bx 10, bx 11, bx 12, wt, .pointer (some ⟨bw, 0, none⟩), en, .pointer (some ⟨bt, 0, none⟩), ev, ho,
    .bool false, .bool false, .slice none 0 0, .bool false, .slice none 0 0, .slice none 0 0, .slice none 0 0, .slice none 0 0, .slice none 0 0, .slice none 0 0]
abbrev pN (b : Nat) : Value := .pointer (some ⟨b, 0, none⟩)
def csK (A0 : Array Value) (wt en ev : Nat) (bx : Nat → Nat) (k : Nat) : Array Value :=
  match k with
  | 0 => A0
  | 1 => A0.setIfInBounds 39 (pN wt)
  | 2 => (A0.setIfInBounds 39 (pN wt)).setIfInBounds 41 (pN en)
  | 3 => ((A0.setIfInBounds 39 (pN wt)).setIfInBounds 41 (pN en)).setIfInBounds 43 (pN ev)
  | _ => setB (((A0.setIfInBounds 39 (pN wt)).setIfInBounds 41 (pN en)).setIfInBounds 43 (pN ev)) bx 13
/-- behind the k-th of what New does -/
structure NSt (k : Nat) (A0 : Array Value) (c : NC) (me : ID) (b base : Nat) (wt mw en : Nat) (rowE : Option Nat) (AE : Option Addr) (cE ev : Nat) (bx : Nat → Nat) (w : World) : Prop where
  blk : Blk w b 115 (csK A0 wt en ev bx k)
  wat : 1 ≤ k → Blk w wt 190 #[.int .i64 c.mn, .int .i64 c.mx, .int .i64 c.window, .map (some mw)] ∧ w.heap[mw]? = some (.map #[] 0) ∧ base ≤ wt ∧ base ≤ mw
  ent : 2 ≤ k → Blk w en 196 #[.slice AE c.seeds.length cE, .int .i64 c.retry, .int .i64 me.1, .int .i64 0, .bool false] ∧ SlK w 3 1 rowE AE c.seeds.length cE (c.seeds.map (Value.int .i64)) ∧ base ≤ en ∧ ∀ q, rowE = some q → base ≤ q
  evs : 3 ≤ k → Blk w ev 203 #[.int .i64 c.events, .slice none 0 0] ∧ base ≤ ev
  box : 4 ≤ k → Boxes w base c.queue bx 13
theorem map_ne {w : World} {m b : Nat} {t : TypeId} {cs : Array Value} (h : w.heap[m]? = some (.map #[] 0)) (hb : Blk w b t cs) : ¬ m = b := by
  rintro rfl; unfold Blk at hb; rw [h] at hb; cases hb
/-- what was there lasts while b alone is written -/
theorem NSt.step {k : Nat} {A0 : Array Value} {c : NC} {me : ID} {b base wt mw en : Nat} {rowE : Option Nat} {AE : Option Addr} {cE ev : Nat} {bx : Nat → Nat} {w w' : World} (h : NSt k A0 c me b base wt mw en rowE AE cE ev bx w) (hk : Keep (fun g => g = b) w w') :
    (1 ≤ k → Blk w' wt 190 #[.int .i64 c.mn, .int .i64 c.mx, .int .i64 c.window, .map (some mw)] ∧ w'.heap[mw]? = some (.map #[] 0) ∧ base ≤ wt ∧ base ≤ mw) ∧
    (2 ≤ k → Blk w' en 196 #[.slice AE c.seeds.length cE, .int .i64 c.retry, .int .i64 me.1, .int .i64 0, .bool false] ∧ SlK w' 3 1 rowE AE c.seeds.length cE (c.seeds.map (Value.int .i64)) ∧ base ≤ en ∧ ∀ q, rowE = some q → base ≤ q) ∧
    (3 ≤ k → Blk w' ev 203 #[.int .i64 c.events, .slice none 0 0] ∧ base ≤ ev) ∧
    (4 ≤ k → Boxes w' base c.queue bx 13) := by
  refine ⟨fun h1 => ?_, fun h2 => ?_, fun h3 => ?_, fun h4 => ?_⟩
  · obtain ⟨a1, a2, a3, a4⟩ := h.wat h1
    exact ⟨a1.keep hk (fun e => (Blk.ne_ a1 h.blk (by decide)) e), hk.heap a2 (map_ne a2 h.blk), a3, a4⟩
  · obtain ⟨a1, a2, a3, a4⟩ := h.ent h2
    exact ⟨a1.keep hk (fun e => (Blk.ne_ a1 h.blk (by decide)) e), a2.keep hk (fun q hq e => a2.row_ne h.blk (by decide) (by rw [hq, e])), a3, a4⟩
  · obtain ⟨a1, a2⟩ := h.evs h3
    exact ⟨a1.keep hk (fun e => (Blk.ne_ a1 h.blk (by decide)) e), a2⟩
  · exact (h.box h4).keep hk (fun i hi e => (Blk.ne_ ((h.box h4).blk i hi) h.blk (by decide)) e)
theorem csK_size (A0 : Array Value) (wt en ev : Nat) (bx : Nat → Nat) (k : Nat) : (csK A0 wt en ev bx k).size = A0.size := by
  unfold csK
  split
  · rfl
  · rw [Array.size_setIfInBounds]
  · rw [Array.size_setIfInBounds, Array.size_setIfInBounds]
  · rw [Array.size_setIfInBounds, Array.size_setIfInBounds, Array.size_setIfInBounds]
  · rw [setB_size, Array.size_setIfInBounds, Array.size_setIfInBounds, Array.size_setIfInBounds]
theorem csK_far (A0 : Array Value) (wt en ev : Nat) (bx : Nat → Nat) (k : Nat) {j : Nat} (hj : j < 26) : (csK A0 wt en ev bx k)[j]? = A0[j]? := by
  have e : ∀ (A : Array Value) (i : Nat) (v : Value), 26 ≤ i → (A.setIfInBounds i v)[j]? = A[j]? := fun A i v hi => Array.getElem?_setIfInBounds_ne (by omega)
  match k with
  | 0 => rfl
  | 1 => exact e _ _ _ (by omega)
  | 2 => exact (e _ _ _ (by omega)).trans (e _ _ _ (by omega))
  | 3 => exact (e _ _ _ (by omega)).trans ((e _ _ _ (by omega)).trans (e _ _ _ (by omega)))
  | k + 4 => exact (setB_far _ bx (by omega) 13 (by omega)).trans ((e _ _ _ (by omega)).trans ((e _ _ _ (by omega)).trans (e _ _ _ (by omega))))
theorem NSt.at0 {k : Nat} {A0 : Array Value} {c : NC} {me : ID} {b base wt mw en : Nat} {rowE : Option Nat} {AE : Option Addr} {cE ev : Nat} {bx : Nat → Nat} {w w' : World} (h : NSt k A0 c me b base wt mw en rowE AE cE ev bx w) (hk0 : k = 0) (_ : Keep (fun g => g = b) w w') (hz : base ≤ w.heap.size) {g m : Nat} (z1 : Blk w' b 115 ((csK A0 wt en ev bx k).setIfInBounds 39 (.pointer (some ⟨g, 0, none⟩))))
    (z2 : Blk w' g 190 #[.int .i64 c.mn, .int .i64 c.mx, .int .i64 c.window, .map (some m)]) (z3 : w'.heap[m]? = some (.map #[] 0)) (z4 : w.heap.size ≤ g) (z5 : w.heap.size ≤ m) : NSt (k + 1) A0 c me b base g m en rowE AE cE ev bx w' := by
  subst hk0
  exact ⟨z1, fun _ => ⟨z2, z3, Nat.le_trans hz z4, Nat.le_trans hz z5⟩, fun h => by omega, fun h => by omega, fun h => by omega⟩
theorem NSt.at1 {k : Nat} {A0 : Array Value} {c : NC} {me : ID} {b base wt mw en : Nat} {rowE : Option Nat} {AE : Option Addr} {cE ev : Nat} {bx : Nat → Nat} {w w' : World} (h : NSt k A0 c me b base wt mw en rowE AE cE ev bx w) (hk0 : k = 1) (hk : Keep (fun g => g = b) w w') (hz : base ≤ w.heap.size) {g : Nat} {r1 : Option Nat} {Ae : Option Addr} {ce : Nat} (z1 : Blk w' b 115 ((csK A0 wt en ev bx k).setIfInBounds 41 (.pointer (some ⟨g, 0, none⟩))))
    (z2 : Blk w' g 196 #[.slice Ae c.seeds.length ce, .int .i64 c.retry, .int .i64 me.1, .int .i64 0, .bool false]) (z3 : SlK w' 3 1 r1 Ae c.seeds.length ce (c.seeds.map (Value.int .i64))) (z4 : w.heap.size ≤ g) (z5 : ∀ q, r1 = some q → w.heap.size ≤ q) : NSt (k + 1) A0 c me b base wt mw g r1 Ae ce ev bx w' := by
  subst hk0
  obtain ⟨s1, s2, s3, s4⟩ := h.step hk
  exact ⟨z1, fun _ => s1 (by omega), fun _ => ⟨z2, z3, Nat.le_trans hz z4, fun q hq => Nat.le_trans hz (z5 q hq)⟩, fun h => by omega, fun h => by omega⟩
theorem NSt.at2 {k : Nat} {A0 : Array Value} {c : NC} {me : ID} {b base wt mw en : Nat} {rowE : Option Nat} {AE : Option Addr} {cE ev : Nat} {bx : Nat → Nat} {w w' : World} (h : NSt k A0 c me b base wt mw en rowE AE cE ev bx w) (hk0 : k = 2) (hk : Keep (fun g => g = b) w w') (hz : base ≤ w.heap.size) {g : Nat} (z1 : Blk w' b 115 ((csK A0 wt en ev bx k).setIfInBounds 43 (.pointer (some ⟨g, 0, none⟩))))
    (z2 : Blk w' g 203 #[.int .i64 c.events, .slice none 0 0]) (z3 : w.heap.size ≤ g) : NSt (k + 1) A0 c me b base wt mw en rowE AE cE g bx w' := by
  subst hk0
  obtain ⟨s1, s2, s3, s4⟩ := h.step hk
  exact ⟨z1, fun _ => s1 (by omega), fun _ => s2 (by omega), fun _ => ⟨z2, Nat.le_trans hz z3⟩, fun h => by omega⟩
theorem NSt.at3 {k : Nat} {A0 : Array Value} {c : NC} {me : ID} {b base wt mw en : Nat} {rowE : Option Nat} {AE : Option Addr} {cE ev : Nat} {bx : Nat → Nat} {w w' : World} (h : NSt k A0 c me b base wt mw en rowE AE cE ev bx w) (hk0 : k = 3) (hk : Keep (fun g => g = b) w w') (hz : base ≤ w.heap.size) {bx2 : Nat → Nat} (z1 : Blk w' b 115 (setB (csK A0 wt en ev bx k) bx2 13)) (z2 : Boxes w' w.heap.size c.queue bx2 13) : NSt (k + 1) A0 c me b base wt mw en rowE AE cE ev bx2 w' := by
  subst hk0
  obtain ⟨s1, s2, s3, s4⟩ := h.step hk
  exact ⟨z1, fun _ => s1 (by omega), fun _ => s2 (by omega), fun _ => s3 (by omega), fun _ => ⟨z2.blk, fun i hi => Nat.le_trans hz (z2.low i hi), z2.ne⟩⟩
theorem NSt.at4 {k : Nat} {A0 : Array Value} {c : NC} {me : ID} {b base wt mw en : Nat} {rowE : Option Nat} {AE : Option Addr} {cE ev : Nat} {bx : Nat → Nat} {w : World} (h : NSt k A0 c me b base wt mw en rowE AE cE ev bx w) (hk0 : k = 4) : NSt (k + 1) A0 c me b base wt mw en rowE AE cE ev bx w := by
  subst hk0
  exact ⟨h.blk, fun _ => h.wat (by omega), fun _ => h.ent (by omega), fun _ => h.evs (by omega), fun _ => h.box (by omega)⟩
/-- a node made new -/
def MadeN (c : NC) (me : ID) (w : World) (e : Ending) (w' : World) : Prop :=
  ∃ (b : Nat) (row1 : Option Nat) (A1 : Option Addr) (c1 bl ml bw bt wt mw en : Nat) (rowE : Option Nat) (AE : Option Addr) (cE ev : Nat) (bx : Nat → Nat),
    e = .returned (.tuple #[.pointer (some ⟨b, 0, none⟩), .int .i64 0]) ∧
    Blk w' b 115 (nodeA (.slice A1 c.seeds.length c1) c me bl (fun i => pN (bx i)) (pN wt) bw (pN en) bt (pN ev) (.pointer none)) ∧ w.heap.size ≤ b ∧
    (SlK w' 3 1 row1 A1 c.seeds.length c1 (c.seeds.map (Value.int .i64)) ∧ ∀ q, row1 = some q → w.heap.size ≤ q) ∧
    (Blk w' bl 187 #[.map (some ml)] ∧ w'.heap[ml]? = some (.map #[] 0) ∧ w.heap.size ≤ ml ∧ w.heap.size ≤ bl) ∧
    (Blk w' bw 194 #[.slice none 0 0] ∧ w.heap.size ≤ bw) ∧ (Blk w' bt 200 timer0 ∧ w.heap.size ≤ bt) ∧
    (Blk w' wt 190 #[.int .i64 c.mn, .int .i64 c.mx, .int .i64 c.window, .map (some mw)] ∧ w'.heap[mw]? = some (.map #[] 0) ∧ w.heap.size ≤ wt ∧ w.heap.size ≤ mw) ∧
    (Blk w' en 196 #[.slice AE c.seeds.length cE, .int .i64 c.retry, .int .i64 me.1, .int .i64 0, .bool false] ∧ SlK w' 3 1 rowE AE c.seeds.length cE (c.seeds.map (Value.int .i64)) ∧ w.heap.size ≤ en ∧ ∀ q, rowE = some q → w.heap.size ≤ q) ∧
    (Blk w' ev 203 #[.int .i64 c.events, .slice none 0 0] ∧ w.heap.size ≤ ev) ∧ Boxes w' w.heap.size c.queue bx 13 ∧ Keep (fun _ => False) w w'
theorem madeN_fin {k : Nat} {A0 : Array Value} {c : NC} {me : ID} {b wt mw en : Nat} {rowE : Option Nat} {AE : Option Addr} {cE ev : Nat} {bx : Nat → Nat} {w w8 w' : World} {row1 : Option Nat} {A1 : Option Addr} {c1 bl ml bw bt : Nat} (h : NSt k A0 c me b w.heap.size wt mw en rowE AE cE ev bx w') (hk5 : k = 5)
    (hA0 : nodeA (.slice A1 c.seeds.length c1) c me bl (fun _ => .pointer none) (.pointer none) bw (.pointer none) bt (.pointer none) (.pointer none) = A0) (hb8 : Blk w8 b 115 A0) (hbw : w.heap.size ≤ b) (hs : SlK w' 3 1 row1 A1 c.seeds.length c1 (c.seeds.map (Value.int .i64))) (hsr : ∀ q, row1 = some q → w.heap.size ≤ q)
    (g1 : Blk w8 bl 187 #[.map (some ml)]) (g2 : w8.heap[ml]? = some (.map #[] 0)) (f3 : w.heap.size ≤ ml) (f4 : w.heap.size ≤ bl) (g3 : Blk w8 bw 194 #[.slice none 0 0]) (f6 : w.heap.size ≤ bw) (g4 : Blk w8 bt 200 timer0) (f8 : w.heap.size ≤ bt)
    (hk : Keep (fun _ => False) w w8) (hkk : Keep (fun g => g = b) w8 w') : MadeN c me w (.returned (.tuple #[.pointer (some ⟨b, 0, none⟩), .int .i64 0])) w' := by
  subst hk5
  refine ⟨b, row1, A1, c1, bl, ml, bw, bt, wt, mw, en, rowE, AE, cE, ev, bx, rfl, ?_, hbw, ⟨hs, hsr⟩, ⟨g1.keep hkk (fun e => (Blk.ne_ g1 hb8 (by decide)) e), hkk.heap g2 (map_ne g2 hb8), f3, f4⟩, ⟨g3.keep hkk (fun e => (Blk.ne_ g3 hb8 (by decide)) e), f6⟩, ⟨g4.keep hkk (fun e => (Blk.ne_ g4 hb8 (by decide)) e), f8⟩, h.wat (by omega), h.ent (by omega), h.evs (by omega), h.box (by omega), hk.trans (hkk.mono fun g _ e => .inr (by rw [e]; exact hbw))⟩
  have hB := h.blk
  subst hA0
  have e : csK (nodeA (.slice A1 c.seeds.length c1) c me bl (fun _ => .pointer none) (.pointer none) bw (.pointer none) bt (.pointer none) (.pointer none)) wt en ev bx 5 = nodeA (.slice A1 c.seeds.length c1) c me bl (fun i => pN (bx i)) (pN wt) bw (pN en) bt (pN ev) (.pointer none) := by kernel_rfl
  rw [e] at hB
  exact hB
set_option maxHeartbeats 4000000 in
theorem nodeNew_ok (c : NC) (me : ID) (A : Option Addr) (n cap : Nat) (w : World) (hr : RdN w A n c.seeds) (hn : n ≤ 1000000) (hm : mayID me = true) (hc : mayNC c = true) (h4 : c.strategy ≠ 4) :
    Calls Tryz.prog 35 #[.agg (cca (.slice A n cap) c), .agg #[.int .i64 me.1, .int .i64 me.2]] w (MadeN c me w) := by
  obtain rfl : n = c.seeds.length := (RdN.len hr).symm
  have HR := Lib.hid hr
  have HM := Lib.hid hm
  have HMc := Lib.hid hc
  have HT := Lib.hid (mayNC_times hc)
  have H4 := Lib.hid h4
  have HN := Lib.hid hn
  clear hr hm hc h4 hn
  go_enter Tryz.func35, Tryz.ntmps35
  obtain ⟨W0, hW0⟩ : ∃ V, w.alloc (.cells (cca (.slice A c.seeds.length cap) c) 45) = V := ⟨_, rfl⟩
  have hb := Blk.new w 45 (cca (.slice A c.seeds.length cap) c)
  have hk : Keep (fun _ => False) w W0 := by rw [← hW0]; exact (Keep.refl _ _).alloc _
  rw [hW0] at hb
  obtain ⟨W1, hW1⟩ : ∃ V, W0.alloc (.cells #[.int .i64 me.1, .int .i64 me.2] 30) = V := ⟨_, rfl⟩
  have hb1 : Blk W1 W0.heap.size 30 #[.int .i64 me.1, .int .i64 me.2] := by rw [← hW1]; exact Blk.new _ _ _
  have hk1 : Keep (fun _ => False) W0 W1 := by rw [← hW1]; exact (Keep.refl _ _).alloc _
  have HC := Lib.hid (hb.keep hk1 (fun h => h))
  have HI := Lib.hid hb1
  have HK := Lib.hid (keep0_trans _ _ _ hk hk1)
  have hcl : w.heap.size ≤ W0.heap.size := hk.size
  have HCL := Lib.hid hcl
  clear hb hb1 hk hk1 hcl
  have d0 := HI.out.cell 0
  have d1 := HI.out.cell 1
  simp at d0 d1
  go_wp2_with fail
  refine (may_any me _).mono ?_
  rintro e W2 ⟨rfl, hk2⟩
  rw [HM.out]
  replace HC := Lib.hid (HC.out.keep hk2 (fun h => h))
  replace HI := Lib.hid (HI.out.keep hk2 (fun h => h))
  replace HK := Lib.hid (keep0_trans _ _ _ HK.out hk2)
  clear hk2 d0 d1
  generalize hbc : w.heap.size = bc at *
  have HBC := Lib.hid hbc
  clear hbc
  generalize W0.heap.size = bi at *
  go_upto_region 3 with (fail)
  go_wp2_with (first | (refine wpList_load_row rfl 45 _ rfl bc rfl 45 _ (0, 0) _ HC.out Tryz.underlying45 rfl (by kernel_rfl) ?_) | fail)
  refine (mayNC_any c A _ cap _ (HR.out.keep0 HK.out) (by have := HN.out; omega)).mono ?_
  rintro e W3 ⟨rfl, hk2⟩
  rw [HMc.out]
  replace HC := Lib.hid (HC.out.keep hk2 (fun h => h))
  replace HI := Lib.hid (HI.out.keep hk2 (fun h => h))
  replace HK := Lib.hid (keep0_trans _ _ _ HK.out hk2)
  clear hk2
  have c0 := HC.out.cell 0
  simp at c0
  go_wp2_with fail
  refine (clone_any A _ cap c.seeds _ (HR.out.keep0 HK.out) HT.out.len (by have := HN.out; omega)).mono ?_
  rintro e W4 ⟨row1, A1, c1, rfl, hs, hr, hk2⟩
  have HZ4 : Hid (w.heap.size ≤ W3.heap.size) := Lib.hid HK.out.size
  have HSl := Lib.hid hs
  have HSr := Lib.hid (show ∀ q, row1 = some q → w.heap.size ≤ q from fun q hq => Nat.le_trans HZ4.out (hr q hq))
  replace HC := Lib.hid (HC.out.keep hk2 (fun h => h))
  replace HI := Lib.hid (HI.out.keep hk2 (fun h => h))
  replace HK := Lib.hid (keep0_trans _ _ _ HK.out hk2)
  clear hs hr hk2 c0
  have c0 := HC.out.cell 0
  simp at c0
  have f0 := HC.out.frozen 0
  go_upto_region 6 with (fail)
  have hc5 : Blk (W4.setCell ⟨bc, 0, none⟩ (.slice A1 c.seeds.length c1)) bc 45 (cca (.slice A1 c.seeds.length c1) c) := by have := HC.out.set_ 0 (.slice A1 c.seeds.length c1); simpa using this
  have hi5 := far_set (b := bc) (j := 0) HI.out (fun e => (Blk.ne_ HI.out HC.out (by decide)) e) (.slice A1 c.seeds.length c1)
  have hs5 := HSl.out.keep ((Keep.refl (fun g => g = bc) W4).setCell (p := ⟨bc, 0, none⟩) (fun _ => rfl) (.slice A1 c.seeds.length c1)) (fun q hq e => HSl.out.row_ne HC.out (by decide) (by rw [hq, e]))
  have hk5 := HK.out.new (p := ⟨bc, 0, none⟩) (by show w.heap.size ≤ bc; rw [HBC.out]; exact Nat.le_refl _) (.slice A1 c.seeds.length c1)
  generalize W4.setCell ⟨bc, 0, none⟩ (.slice A1 c.seeds.length c1) = W5 at *
  replace HC := Lib.hid hc5
  replace HI := Lib.hid hi5
  replace HSl := Lib.hid hs5
  replace HK := Lib.hid hk5
  clear hc5 hi5 hs5 hk5 c0 f0
  refine wp_region_krip (Keep (fun _ => False)) (Keep.refl _) keep0_trans 8 (by kernel_rfl) (by kernel_rfl) (Ts := [some (.inl (.agg #[.slice A1 c.seeds.length c1, .int .i64 c.watch, .int .i64 c.mn, .int .i64 c.mx, .int .i64 c.window, .int .i64 c.retry, .int .i64 c.stable, .int .i64 c.unstable, .int .u8 c.strategy, .int .i64 c.quorum, .bool c.alone, .bool c.weak, .int .i64 c.delay, .int .i64 c.term, .int .i64 c.hold, .int .i64 c.queue, .int .i64 c.events])), some (.inl (.agg #[.int .i64 me.1, .int .i64 me.2])), some (.inr (fun v W => ∃ g_0 m_0, v = .pointer (some ⟨g_0, 0, none⟩) ∧ Blk W g_0 187 #[.map (some m_0)] ∧ W.heap[m_0]? = some (.map #[] 0) ∧ W5.heap.size ≤ m_0 ∧ W5.heap.size ≤ g_0)), some (.inr (fun v W => ∃ g_1, v = .pointer (some ⟨g_1, 0, none⟩) ∧ Blk W g_1 194 #[.slice none 0 0] ∧ W5.heap.size ≤ g_1)), some (.inr (fun v W => ∃ g_2, v = .pointer (some ⟨g_2, 0, none⟩) ∧ Blk W g_2 200 timer0 ∧ W5.heap.size ≤ g_2)), some (.inr (fun v W => ∃ g_0 m_0 g_1 g_2, v = .agg #[.slice A1 c.seeds.length c1, .int .i64 c.watch, .int .i64 c.mn, .int .i64 c.mx, .int .i64 c.window, .int .i64 c.retry, .int .i64 c.stable, .int .i64 c.unstable, .int .u8 c.strategy, .int .i64 c.quorum, .bool c.alone, .bool c.weak, .int .i64 c.delay, .int .i64 c.term, .int .i64 c.hold, .int .i64 c.queue, .int .i64 c.events, .int .i64 me.1, .int .i64 me.2, .slice none 0 0, .slice none 0 0, .slice none 0 0, .slice none 0 0, .slice none 0 0, .int .i64 0, .pointer (some ⟨g_0, 0, none⟩), .pointer none, .pointer none, .pointer none, .pointer none, .pointer none, .pointer none, .pointer none, .pointer none, .pointer none, .pointer none, .pointer none, .pointer none, .pointer none, .pointer none, .pointer (some ⟨g_1, 0, none⟩), .pointer none, .pointer (some ⟨g_2, 0, none⟩), .pointer none, .pointer none, .bool false, .bool false, .slice none 0 0, .bool false, .slice none 0 0, .slice none 0 0, .slice none 0 0, .slice none 0 0, .slice none 0 0, .slice none 0 0] ∧ Blk W g_0 187 #[.map (some m_0)] ∧ W.heap[m_0]? = some (.map #[] 0) ∧ W5.heap.size ≤ m_0 ∧ W5.heap.size ≤ g_0 ∧ Blk W g_1 194 #[.slice none 0 0] ∧ W5.heap.size ≤ g_1 ∧ Blk W g_2 200 timer0 ∧ W5.heap.size ≤ g_2)), some (.inr (fun v W => ∃ g_4 g_0 m_0 g_1 g_2, v = .pointer (some ⟨g_4, 0, none⟩) ∧ Blk W g_4 115 #[.slice A1 c.seeds.length c1, .int .i64 c.watch, .int .i64 c.mn, .int .i64 c.mx, .int .i64 c.window, .int .i64 c.retry, .int .i64 c.stable, .int .i64 c.unstable, .int .u8 c.strategy, .int .i64 c.quorum, .bool c.alone, .bool c.weak, .int .i64 c.delay, .int .i64 c.term, .int .i64 c.hold, .int .i64 c.queue, .int .i64 c.events, .int .i64 me.1, .int .i64 me.2, .slice none 0 0, .slice none 0 0, .slice none 0 0, .slice none 0 0, .slice none 0 0, .int .i64 0, .pointer (some ⟨g_0, 0, none⟩), .pointer none, .pointer none, .pointer none, .pointer none, .pointer none, .pointer none, .pointer none, .pointer none, .pointer none, .pointer none, .pointer none, .pointer none, .pointer none, .pointer none, .pointer (some ⟨g_1, 0, none⟩), .pointer none, .pointer (some ⟨g_2, 0, none⟩), .pointer none, .pointer none, .bool false, .bool false, .slice none 0 0, .bool false, .slice none 0 0, .slice none 0 0, .slice none 0 0, .slice none 0 0, .slice none 0 0, .slice none 0 0] ∧ W5.heap.size ≤ g_4 ∧ Blk W g_0 187 #[.map (some m_0)] ∧ W.heap[m_0]? = some (.map #[] 0) ∧ W5.heap.size ≤ m_0 ∧ W5.heap.size ≤ g_0 ∧ Blk W g_1 194 #[.slice none 0 0] ∧ W5.heap.size ≤ g_1 ∧ Blk W g_2 200 timer0 ∧ W5.heap.size ≤ g_2)), some (.inr (fun v W => ∃ g_5, v = .pointer (some ⟨g_5, 0, none⟩) ∧ Blk W g_5 49 #[.pointer none] ∧ W5.heap.size ≤ g_5))]) ?_
  simp only [List.take, List.drop]
  refine kAll_dn _ (fun W hW hF => kStep_of fun K Q hK => ?_) (fun K hK => ?_)
  · exact wp_load_row 45 _ rfl _ rfl 45 _ (0, 0) _ (HC.out.keep (keepD (Keep.refl _ _) hW) (fun h => h)) Tryz.underlying45 rfl (by kernel_rfl) (hK _ _ (Keep.refl _ _) rfl)
  go_simp
  generalize hZ : (Act.mk _ _) = Z
  refine hK Z ?_
  subst hZ
  clear hK K
  refine kAll_dn _ (fun W hW hF => kStep_of fun K Q hK => ?_) (fun K hK => ?_)
  · have c0 := (HI.out.keep (keepD (Keep.refl _ _) hW) (fun h => h)).cell 0
    have c1 := (HI.out.keep (keepD (Keep.refl _ _) hW) (fun h => h)).cell 1
    simp at c0 c1
    go_simp
    exact hK _ _ (Keep.refl _ _) rfl
  go_simp
  generalize hZ : (Act.mk _ _) = Z
  refine hK Z ?_
  subst hZ
  clear hK K
  refine kAll_tn _ (fun v W W' hk h => by obtain ⟨g_0, m_0, e, h0, h1, h2, h3⟩ := h; exact ⟨_, _, e, (h0.keep hk (fun h => h)), (hk.heap h1 (fun h => h)), (h2), (h3)⟩) (fun W hW hF => kStep_of fun K Q hK => ?_) (fun u0 K hK => ?_)
  · go_simp
    refine (linkNew_any W).mono ?_
    rintro e w' ⟨g, m, rfl, hb, hm, h1, h2, hk⟩
    have hz := (keepD (Keep.refl _ _) hW).size
    exact hK _ _ hk ⟨g, m, rfl, hb, hm, by omega, by omega⟩
  go_simp
  generalize hZ : (Act.mk _ _) = Z
  refine hK Z ?_
  subst hZ
  clear hK K
  refine kAll_tn _ (fun v W W' hk h => by obtain ⟨g_1, e, h0, h1⟩ := h; exact ⟨_, e, (h0.keep hk (fun h => h)), (h1)⟩) (fun W hW hF => kStep_of fun K Q hK => ?_) (fun u1 K hK => ?_)
  · go_simp
    refine (walkNew_any W).mono ?_
    rintro e w' ⟨g, rfl, hb, h1, hk⟩
    have hz := (keepD (Keep.refl _ _) hW).size
    exact hK _ _ hk ⟨g, rfl, hb, by omega⟩
  go_simp
  generalize hZ : (Act.mk _ _) = Z
  refine hK Z ?_
  subst hZ
  clear hK K
  refine kAll_tn _ (fun v W W' hk h => by obtain ⟨g_2, e, h0, h1⟩ := h; exact ⟨_, e, (h0.keep hk (fun h => h)), (h1)⟩) (fun W hW hF => kStep_of fun K Q hK => ?_) (fun u2 K hK => ?_)
  · go_simp
    refine (stableNew_any W).mono ?_
    rintro e w' ⟨g, rfl, hb, h1, hk⟩
    have hz := (keepD (Keep.refl _ _) hW).size
    exact hK _ _ hk ⟨g, rfl, hb, by omega⟩
  go_simp
  generalize hZ : (Act.mk _ _) = Z
  refine hK Z ?_
  subst hZ
  clear hK K
  refine kAll_tn _ (fun v W W' hk h => by obtain ⟨g_0, m_0, g_1, g_2, e, h0, h1, h2, h3, h4, h5, h6, h7⟩ := h; exact ⟨_, _, _, _, e, (h0.keep hk (fun h => h)), (hk.heap h1 (fun h => h)), (h2), (h3), (h4.keep hk (fun h => h)), (h5), (h6.keep hk (fun h => h)), (h7)⟩) (fun W hW hF => kStep_of fun K Q hK => ?_) (fun u3 K hK => ?_)
  · obtain ⟨g_0, m_0, rfl, k0_0, k0_1, k0_2, k0_3⟩ := (kHas_at hF 2 rfl (by kernel_rfl) : (fun v W => ∃ g_0 m_0, v = .pointer (some ⟨g_0, 0, none⟩) ∧ Blk W g_0 187 #[.map (some m_0)] ∧ W.heap[m_0]? = some (.map #[] 0) ∧ W5.heap.size ≤ m_0 ∧ W5.heap.size ≤ g_0) u0 W)
    obtain ⟨g_1, rfl, k1_0, k1_1⟩ := (kHas_at hF 1 rfl (by kernel_rfl) : (fun v W => ∃ g_1, v = .pointer (some ⟨g_1, 0, none⟩) ∧ Blk W g_1 194 #[.slice none 0 0] ∧ W5.heap.size ≤ g_1) u1 W)
    obtain ⟨g_2, rfl, k2_0, k2_1⟩ := (kHas_at hF 0 rfl (by kernel_rfl) : (fun v W => ∃ g_2, v = .pointer (some ⟨g_2, 0, none⟩) ∧ Blk W g_2 200 timer0 ∧ W5.heap.size ≤ g_2) u2 W)
    exact wp_build_is 115 _ rfl (l := [(0, .agg #[.slice A1 c.seeds.length c1, .int .i64 c.watch, .int .i64 c.mn, .int .i64 c.mx, .int .i64 c.window, .int .i64 c.retry, .int .i64 c.stable, .int .i64 c.unstable, .int .u8 c.strategy, .int .i64 c.quorum, .bool c.alone, .bool c.weak, .int .i64 c.delay, .int .i64 c.term, .int .i64 c.hold, .int .i64 c.queue, .int .i64 c.events]), (1, .agg #[.int .i64 me.1, .int .i64 me.2]), (4, .pointer (some ⟨g_0, 0, none⟩)), (7, .pointer (some ⟨g_1, 0, none⟩)), (9, .pointer (some ⟨g_2, 0, none⟩))]) (by kernel_rfl) (cells := #[.slice A1 c.seeds.length c1, .int .i64 c.watch, .int .i64 c.mn, .int .i64 c.mx, .int .i64 c.window, .int .i64 c.retry, .int .i64 c.stable, .int .i64 c.unstable, .int .u8 c.strategy, .int .i64 c.quorum, .bool c.alone, .bool c.weak, .int .i64 c.delay, .int .i64 c.term, .int .i64 c.hold, .int .i64 c.queue, .int .i64 c.events, .int .i64 me.1, .int .i64 me.2, .slice none 0 0, .slice none 0 0, .slice none 0 0, .slice none 0 0, .slice none 0 0, .int .i64 0, .pointer (some ⟨g_0, 0, none⟩), .pointer none, .pointer none, .pointer none, .pointer none, .pointer none, .pointer none, .pointer none, .pointer none, .pointer none, .pointer none, .pointer none, .pointer none, .pointer none, .pointer none, .pointer (some ⟨g_1, 0, none⟩), .pointer none, .pointer (some ⟨g_2, 0, none⟩), .pointer none, .pointer none, .bool false, .bool false, .slice none 0 0, .bool false, .slice none 0 0, .slice none 0 0, .slice none 0 0, .slice none 0 0, .slice none 0 0, .slice none 0 0]) (by kernel_rfl) (hK _ _ (Keep.refl _ _) ⟨_, _, _, _, rfl, k0_0, k0_1, k0_2, k0_3, k1_0, k1_1, k2_0, k2_1⟩)
  go_simp
  generalize hZ : (Act.mk _ _) = Z
  refine hK Z ?_
  subst hZ
  clear hK K
  refine kAll_tn _ (fun v W W' hk h => by obtain ⟨g_4, g_0, m_0, g_1, g_2, e, h0, h1, h2, h3, h4, h5, h6, h7, h8, h9⟩ := h; exact ⟨_, _, _, _, _, e, (h0.keep hk (fun h => h)), (h1), (h2.keep hk (fun h => h)), (hk.heap h3 (fun h => h)), (h4), (h5), (h6.keep hk (fun h => h)), (h7), (h8.keep hk (fun h => h)), (h9)⟩) (fun W hW hF => kStep_of fun K Q hK => ?_) (fun u4 K hK => ?_)
  · obtain ⟨g_0, m_0, g_1, g_2, rfl, k3_0, k3_1, k3_2, k3_3, k3_4, k3_5, k3_6, k3_7⟩ := (kHas_at hF 0 rfl (by kernel_rfl) : (fun v W => ∃ g_0 m_0 g_1 g_2, v = .agg #[.slice A1 c.seeds.length c1, .int .i64 c.watch, .int .i64 c.mn, .int .i64 c.mx, .int .i64 c.window, .int .i64 c.retry, .int .i64 c.stable, .int .i64 c.unstable, .int .u8 c.strategy, .int .i64 c.quorum, .bool c.alone, .bool c.weak, .int .i64 c.delay, .int .i64 c.term, .int .i64 c.hold, .int .i64 c.queue, .int .i64 c.events, .int .i64 me.1, .int .i64 me.2, .slice none 0 0, .slice none 0 0, .slice none 0 0, .slice none 0 0, .slice none 0 0, .int .i64 0, .pointer (some ⟨g_0, 0, none⟩), .pointer none, .pointer none, .pointer none, .pointer none, .pointer none, .pointer none, .pointer none, .pointer none, .pointer none, .pointer none, .pointer none, .pointer none, .pointer none, .pointer none, .pointer (some ⟨g_1, 0, none⟩), .pointer none, .pointer (some ⟨g_2, 0, none⟩), .pointer none, .pointer none, .bool false, .bool false, .slice none 0 0, .bool false, .slice none 0 0, .slice none 0 0, .slice none 0 0, .slice none 0 0, .slice none 0 0, .slice none 0 0] ∧ Blk W g_0 187 #[.map (some m_0)] ∧ W.heap[m_0]? = some (.map #[] 0) ∧ W5.heap.size ≤ m_0 ∧ W5.heap.size ≤ g_0 ∧ Blk W g_1 194 #[.slice none 0 0] ∧ W5.heap.size ≤ g_1 ∧ Blk W g_2 200 timer0 ∧ W5.heap.size ≤ g_2) u3 W)
    go_simp
    exact hK _ _ ((Keep.refl _ _).alloc _) ⟨_, _, _, _, _, rfl, Blk.new _ _ _, (keepD (Keep.refl _ _) hW).size, k3_0.keep ((Keep.refl (fun _ => False) _).alloc _) (fun h => h), ((Keep.refl (fun _ => False) _).alloc _).heap k3_1 (fun h => h), k3_2, k3_3, k3_4.keep ((Keep.refl (fun _ => False) _).alloc _) (fun h => h), k3_5, k3_6.keep ((Keep.refl (fun _ => False) _).alloc _) (fun h => h), k3_7⟩
  go_simp
  generalize hZ : (Act.mk _ _) = Z
  refine hK Z ?_
  subst hZ
  clear hK K
  refine kAll_tn _ (fun v W W' hk h => by obtain ⟨g_5, e, h0, h1⟩ := h; exact ⟨_, e, (h0.keep hk (fun h => h)), (h1)⟩) (fun W hW hF => kStep_of fun K Q hK => ?_) (fun u5 K hK => ?_)
  · go_simp
    exact hK _ _ ((Keep.refl _ _).alloc _) ⟨_, rfl, Blk.new _ _ _, (keepD (Keep.refl _ _) hW).size⟩
  go_simp
  generalize hZ : (Act.mk _ _) = Z
  refine hK Z ?_
  subst hZ
  clear hK K
  refine kAll_nil (fun W6 hW hF => ?_)
  obtain ⟨gn, rfl, hn, hn1⟩ := (kAllHas_at hF 0 rfl : (fun v W => ∃ g_5, v = .pointer (some ⟨g_5, 0, none⟩) ∧ Blk W g_5 49 #[.pointer none] ∧ W5.heap.size ≤ g_5) u5 W6)
  obtain ⟨b, bl, ml, bw, bt, rfl, hb, hb1, q1, q2, q3, q4, q5, q6, q7, q8⟩ := (kAllHas_at hF 1 rfl : (fun v W => ∃ g_4 g_0 m_0 g_1 g_2, v = .pointer (some ⟨g_4, 0, none⟩) ∧ Blk W g_4 115 #[.slice A1 c.seeds.length c1, .int .i64 c.watch, .int .i64 c.mn, .int .i64 c.mx, .int .i64 c.window, .int .i64 c.retry, .int .i64 c.stable, .int .i64 c.unstable, .int .u8 c.strategy, .int .i64 c.quorum, .bool c.alone, .bool c.weak, .int .i64 c.delay, .int .i64 c.term, .int .i64 c.hold, .int .i64 c.queue, .int .i64 c.events, .int .i64 me.1, .int .i64 me.2, .slice none 0 0, .slice none 0 0, .slice none 0 0, .slice none 0 0, .slice none 0 0, .int .i64 0, .pointer (some ⟨g_0, 0, none⟩), .pointer none, .pointer none, .pointer none, .pointer none, .pointer none, .pointer none, .pointer none, .pointer none, .pointer none, .pointer none, .pointer none, .pointer none, .pointer none, .pointer none, .pointer (some ⟨g_1, 0, none⟩), .pointer none, .pointer (some ⟨g_2, 0, none⟩), .pointer none, .pointer none, .bool false, .bool false, .slice none 0 0, .bool false, .slice none 0 0, .slice none 0 0, .slice none 0 0, .slice none 0 0, .slice none 0 0, .slice none 0 0] ∧ W5.heap.size ≤ g_4 ∧ Blk W g_0 187 #[.map (some m_0)] ∧ W.heap[m_0]? = some (.map #[] 0) ∧ W5.heap.size ≤ m_0 ∧ W5.heap.size ≤ g_0 ∧ Blk W g_1 194 #[.slice none 0 0] ∧ W5.heap.size ≤ g_1 ∧ Blk W g_2 200 timer0 ∧ W5.heap.size ≤ g_2) u4 W6)
  have hc6 := HC.out.keep (keepD (Keep.refl _ _) hW) (fun h => h)
  have hi6 := HI.out.keep (keepD (Keep.refl _ _) hW) (fun h => h)
  have hs6 := HSl.out.keep (keepD (Keep.refl _ _) hW) (fun _ _ h => h)
  have hk6 := keep0_trans _ _ _ HK.out (keepD (Keep.refl _ _) hW)
  have hz5 : w.heap.size ≤ W5.heap.size := HK.out.size
  have n0 := hn.cell 0
  have f0 := hn.frozen 0
  simp at n0
  go_upto_region 7 with (fail)
  have kN := (Keep.refl (fun g => g = gn) W6).setCell (p := ⟨gn, 0, none⟩) (fun _ => rfl) (.pointer (some ⟨b, 0, none⟩))
  have hn7 : Blk (W6.setCell ⟨gn, 0, none⟩ (.pointer (some ⟨b, 0, none⟩))) gn 49 #[.pointer (some ⟨b, 0, none⟩)] := by have := hn.set_ 0 (.pointer (some ⟨b, 0, none⟩)); simpa using this
  have hb7 := hb.keep kN (fun e => (Blk.ne_ hb hn (by decide)) e)
  have hc7 := hc6.keep kN (fun e => (Blk.ne_ hc6 hn (by decide)) e)
  have hi7 := hi6.keep kN (fun e => (Blk.ne_ hi6 hn (by decide)) e)
  have hs7 := hs6.keep kN (fun q hq e => hs6.row_ne hn (by decide) (by rw [hq, e]))
  have hl7 := q1.keep kN (fun e => (Blk.ne_ q1 hn (by decide)) e)
  have hm7 := kN.heap q2 (map_ne q2 hn)
  have hw7 := q5.keep kN (fun e => (Blk.ne_ q5 hn (by decide)) e)
  have ht7 := q7.keep kN (fun e => (Blk.ne_ q7 hn (by decide)) e)
  have hk7 := hk6.new (p := ⟨gn, 0, none⟩) (by show w.heap.size ≤ gn; omega) (.pointer (some ⟨b, 0, none⟩))
  generalize W6.setCell ⟨gn, 0, none⟩ (.pointer (some ⟨b, 0, none⟩)) = W7 at *
  have HNv := Lib.hid hn7
  have HBk := Lib.hid hb7
  have HFix := Lib.hid (show (Blk W7 bl 187 #[.map (some ml)] ∧ W7.heap[ml]? = some (.map #[] 0) ∧ w.heap.size ≤ ml ∧ w.heap.size ≤ bl) ∧ (Blk W7 bw 194 #[.slice none 0 0] ∧ w.heap.size ≤ bw) ∧ (Blk W7 bt 200 timer0 ∧ w.heap.size ≤ bt) ∧ w.heap.size ≤ b from
    ⟨⟨hl7, hm7, by omega, by omega⟩, ⟨hw7, by omega⟩, ⟨ht7, by omega⟩, by omega⟩)
  replace HC := Lib.hid hc7
  replace HI := Lib.hid hi7
  replace HSl := Lib.hid hs7
  replace HK := Lib.hid hk7
  clear kN hn7 hb7 hc7 hi7 hs7 hl7 hm7 hw7 ht7 hk7 hn hn1 hb hb1 q1 q2 q3 q4 q5 q6 q7 q8 hc6 hi6 hs6 hk6 hz5 n0 f0 hF hW
  obtain ⟨W8, hW8⟩ : ∃ V, W7.alloc (.cells #[.func (.func 71) #[] #[.pointer (some ⟨bc, 0, none⟩), .pointer (some ⟨gn, 0, none⟩)], .func (.func 73) #[] #[.pointer (some ⟨bc, 0, none⟩), .pointer (some ⟨bi, 0, none⟩), .pointer (some ⟨gn, 0, none⟩)], .func (.func 75) #[] #[.pointer (some ⟨bc, 0, none⟩), .pointer (some ⟨gn, 0, none⟩)], .func (.func 77) #[.pointer (some ⟨b, 0, none⟩)] #[], .func (.func 78) #[.pointer (some ⟨b, 0, none⟩)] #[]] 84) = V := ⟨_, rfl⟩
  have hf8 : Blk W8 W7.heap.size 84 #[.func (.func 71) #[] #[.pointer (some ⟨bc, 0, none⟩), .pointer (some ⟨gn, 0, none⟩)], .func (.func 73) #[] #[.pointer (some ⟨bc, 0, none⟩), .pointer (some ⟨bi, 0, none⟩), .pointer (some ⟨gn, 0, none⟩)], .func (.func 75) #[] #[.pointer (some ⟨bc, 0, none⟩), .pointer (some ⟨gn, 0, none⟩)], .func (.func 77) #[.pointer (some ⟨b, 0, none⟩)] #[], .func (.func 78) #[.pointer (some ⟨b, 0, none⟩)] #[]] := by rw [← hW8]; exact Blk.new _ _ _
  have hk8 : Keep (fun _ => False) W7 W8 := by rw [← hW8]; exact (Keep.refl _ _).alloc _
  have HF8 := Lib.hid hf8
  have HK8 := Lib.hid hk8
  clear hf8 hk8
  have n0 := HNv.out.cell 0
  simp at n0
  go_wp2_with fail
  clear n0 hW8
  replace HC := Lib.hid (HC.out.keep HK8.out (fun h => h))
  replace HI := Lib.hid (HI.out.keep HK8.out (fun h => h))
  replace HNv := Lib.hid (HNv.out.keep HK8.out (fun h => h))
  replace HBk := Lib.hid (HBk.out.keep HK8.out (fun h => h))
  replace HSl := Lib.hid (HSl.out.keep HK8.out (fun _ _ h => h))
  replace HK := Lib.hid (keep0_trans _ _ _ HK.out HK8.out)
  have HBl := Lib.hid HBk.out.lt
  generalize W7.heap.size = G8 at *
  obtain ⟨A0, hA0⟩ : ∃ A, nodeA (.slice A1 c.seeds.length c1) c me bl (fun _ => .pointer none) (.pointer none) bw (.pointer none) bt (.pointer none) (.pointer none) = A := ⟨_, rfl⟩
  replace HBk : Hid (Blk W8 b 115 A0) := Lib.hid (by rw [← hA0]; exact HBk.out)
  have HA0 := Lib.hid hA0
  clear hA0
  go_loopw [39] (fun iv wr => ∃ k : Nat, k ≤ 5 ∧ iv = .int .i64 (k : Int) ∧ Hid (∃ wt mw en rowE AE cE ev bx, NSt k A0 c me b w.heap.size wt mw en rowE AE cE ev bx wr ∧ Keep (fun g => g = b) W8 wr)) (fun iv _ => 5 - (intOf iv).toNat)
  case atStart => exact ⟨0, by omega, rfl, Lib.hid ⟨0, 0, 0, none, none, 0, 0, fun _ => 0, ⟨HBk.out, fun h => by omega, fun h => by omega, fun h => by omega, fun h => by omega⟩, Keep.refl _ _⟩⟩
  case round =>
    obtain ⟨k, hk, rfl, HR⟩ := hrel
    obtain ⟨wt, mw, en, rowE, AE, cE, ev, bx, hst, hkr⟩ := HR.out
    have HSt := Lib.hid hst
    have HKr := Lib.hid hkr
    have HCr := Lib.hid (HC.out.keep hkr (fun e => (Blk.ne_ HC.out HBk.out (by decide)) e))
    have HIr := Lib.hid (HI.out.keep hkr (fun e => (Blk.ne_ HI.out HBk.out (by decide)) e))
    have HNr := Lib.hid (HNv.out.keep hkr (fun e => (Blk.ne_ HNv.out HBk.out (by decide)) e))
    have HSr2 := Lib.hid (HSl.out.keep hkr (fun q hq e => HSl.out.row_ne HBk.out (by decide) (by rw [hq, e])))
    have HFr := Lib.hid (HF8.out.keep hkr (fun e => (Blk.ne_ HF8.out HBk.out (by decide)) e))
    have HZw : Hid (w.heap.size ≤ wr.heap.size) := Lib.hid (Nat.le_trans HK.out.size hkr.size)
    have HA55 : Hid (A0.size = 55) := Lib.hid (by rw [← HA0.out]; rfl)
    have e1 : IntKind.i64.wrap ((k : Int) + 1) = (k : Int) + 1 := IntWalk.i64_in _ (by omega)
    have q2 : (0 : Int) ≤ (k : Int) := by omega
    clear hst hkr HR
    by_cases hlt : k < 5
    · have q1 : (k : Int) < 5 := by omega
      rcases (by omega : k = 0 ∨ k = 1 ∨ k = 2 ∨ k = 3 ∨ k = 4) with h0 | h0 | h0 | h0 | h0
      · have HK0 := Lib.hid h0
        have e0 : wr.cell? ⟨G8, k, none⟩ = some (.func (.func 71) #[] #[.pointer (some ⟨bc, 0, none⟩), .pointer (some ⟨gn, 0, none⟩)]) := by rw [h0]; have := HFr.out.cell 0; simpa using this
        clear h0
        go_wp2_with fail
        refine (new1_ok bc gn b (csK A0 wt en ev bx k) _ c _ HCr.out HNr.out HSt.out.blk (by rw [csK_size]; exact HA55.out) HT.out.mn HT.out.le HT.out.mx HT.out.w1 HT.out.w2).mono ?_
        rintro e wz ⟨rfl, ⟨g, m, z1, z2, z3, z4, z5⟩, hkz⟩
        have HS : Hid (∃ wt mw en rowE AE cE ev bx, NSt (k + 1) A0 c me b w.heap.size wt mw en rowE AE cE ev bx wz ∧ Keep (fun g => g = b) W8 wz) := Lib.hid ⟨g, m, en, rowE, AE, cE, ev, bx, HSt.out.at0 HK0.out hkz HZw.out z1 z2 z3 z4 z5, HKr.out.trans (hkz.mono fun _ _ e => .inl e)⟩
        clear hkz e0
        go_wp2
        go_roundw
        case rel => exact ⟨k + 1, by omega, by go_num, HS⟩
        case measure => simp [intOf]; omega
      · have HK0 := Lib.hid h0
        have e0 : wr.cell? ⟨G8, k, none⟩ = some (.func (.func 73) #[] #[.pointer (some ⟨bc, 0, none⟩), .pointer (some ⟨bi, 0, none⟩), .pointer (some ⟨gn, 0, none⟩)]) := by rw [h0]; have := HFr.out.cell 1; simpa using this
        clear h0
        go_wp2_with fail
        refine (new2_ok bc gn bi b (csK A0 wt en ev bx k) c me A1 c1 _ HCr.out HNr.out HIr.out HSt.out.blk (by rw [csK_size]; exact HA55.out) row1 HSr2.out HT.out.len HN.out HM.out HT.out.r1 HT.out.r2).mono ?_
        rintro e wz ⟨rfl, ⟨g, r1, Ae, ce, z1, z2, z3, z4, z5⟩, hkz⟩
        have HS : Hid (∃ wt mw en rowE AE cE ev bx, NSt (k + 1) A0 c me b w.heap.size wt mw en rowE AE cE ev bx wz ∧ Keep (fun g => g = b) W8 wz) := Lib.hid ⟨wt, mw, g, r1, Ae, ce, ev, bx, HSt.out.at1 HK0.out hkz HZw.out z1 z2 z3 z4 z5, HKr.out.trans (hkz.mono fun _ _ e => .inl e)⟩
        clear hkz e0
        go_wp2
        go_roundw
        case rel => exact ⟨k + 1, by omega, by go_num, HS⟩
        case measure => simp [intOf]; omega
      · have HK0 := Lib.hid h0
        have e0 : wr.cell? ⟨G8, k, none⟩ = some (.func (.func 75) #[] #[.pointer (some ⟨bc, 0, none⟩), .pointer (some ⟨gn, 0, none⟩)]) := by rw [h0]; have := HFr.out.cell 2; simpa using this
        clear h0
        go_wp2_with fail
        refine (new3_ok bc gn b (csK A0 wt en ev bx k) _ c _ HCr.out HNr.out HSt.out.blk (by rw [csK_size]; exact HA55.out) HT.out.e1 HT.out.e2).mono ?_
        rintro e wz ⟨rfl, ⟨g, z1, z2, z3⟩, hkz⟩
        have HS : Hid (∃ wt mw en rowE AE cE ev bx, NSt (k + 1) A0 c me b w.heap.size wt mw en rowE AE cE ev bx wz ∧ Keep (fun g => g = b) W8 wz) := Lib.hid ⟨wt, mw, en, rowE, AE, cE, g, bx, HSt.out.at2 HK0.out hkz HZw.out z1 z2 z3, HKr.out.trans (hkz.mono fun _ _ e => .inl e)⟩
        clear hkz e0
        go_wp2
        go_roundw
        case rel => exact ⟨k + 1, by omega, by go_num, HS⟩
        case measure => simp [intOf]; omega
      · have HK0 := Lib.hid h0
        have e0 : wr.cell? ⟨G8, k, none⟩ = some (.func (.func 77) #[.pointer (some ⟨b, 0, none⟩)] #[]) := by rw [h0]; have := HFr.out.cell 3; simpa using this
        clear h0
        go_wp2_with fail
        refine (makeBoxes_ok b (csK A0 wt en ev bx k) c.queue _ HSt.out.blk (by rw [csK_size]; exact HA55.out) ((csK_far _ _ _ _ _ _ (by omega)).trans (by rw [← HA0.out]; rfl)) HT.out.q1 HT.out.q2 (fun j hj => ⟨_, Array.getElem?_eq_getElem (by rw [csK_size, HA55.out]; omega)⟩)).mono ?_
        rintro e wz ⟨rfl, bx2, z1, z2, hkz⟩
        have HS : Hid (∃ wt mw en rowE AE cE ev bx, NSt (k + 1) A0 c me b w.heap.size wt mw en rowE AE cE ev bx wz ∧ Keep (fun g => g = b) W8 wz) := Lib.hid ⟨wt, mw, en, rowE, AE, cE, ev, bx2, HSt.out.at3 HK0.out hkz HZw.out z1 z2, HKr.out.trans (hkz.mono fun _ _ e => .inl e)⟩
        clear hkz e0
        go_wp2
        go_roundw
        case rel => exact ⟨k + 1, by omega, by go_num, HS⟩
        case measure => simp [intOf]; omega
      · have HK0 := Lib.hid h0
        have e0 : wr.cell? ⟨G8, k, none⟩ = some (.func (.func 78) #[.pointer (some ⟨b, 0, none⟩)] #[]) := by rw [h0]; have := HFr.out.cell 4; simpa using this
        clear h0
        go_wp2_with fail
        refine (makeHolder_none b (csK A0 wt en ev bx k) c.strategy _ HSt.out.blk ((csK_far _ _ _ _ _ _ (by omega)).trans (by rw [← HA0.out]; rfl)) H4.out).mono ?_
        rintro e wz ⟨rfl, rfl⟩
        have hkz := Keep.refl (fun g => g = b) wz
        have HS : Hid (∃ wt mw en rowE AE cE ev bx, NSt (k + 1) A0 c me b w.heap.size wt mw en rowE AE cE ev bx wz ∧ Keep (fun g => g = b) W8 wz) := Lib.hid ⟨wt, mw, en, rowE, AE, cE, ev, bx, HSt.out.at4 HK0.out, HKr.out.trans (hkz.mono fun _ _ e => .inl e)⟩
        clear hkz e0
        go_wp2
        go_roundw
        case rel => exact ⟨k + 1, by omega, by go_num, HS⟩
        case measure => simp [intOf]; omega
    · have q1 : ¬ (k : Int) < 5 := by omega
      have h5 : k = 5 := by omega
      have H5 := Lib.hid h5
      clear h5
      have n0 := HNr.out.cell 0
      simp at n0
      go_wp2
      go_ret2
      obtain ⟨⟨f1, f2, f3, f4⟩, ⟨f5, f6⟩, ⟨f7, f8⟩, f9⟩ := HFix.out
      exact madeN_fin HSt.out H5.out HA0.out HBk.out f9 HSr2.out HSr.out (f1.keep HK8.out (fun h => h)) (HK8.out.heap f2 (fun h => h)) f3 f4 (f5.keep HK8.out (fun h => h)) f6 (f7.keep HK8.out (fun h => h)) f8 HK.out HKr.out
end Go.Proofs.YtlfpefnlgiohbaaGreat
