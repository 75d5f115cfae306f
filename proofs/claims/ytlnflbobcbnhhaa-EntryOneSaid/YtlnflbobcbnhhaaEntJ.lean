/-
  EntryOne.
-/
import Derived.Test.YtlnflbobcbnhhaaEntG
namespace Go.Proofs.Ytlnflbobcbnhhaa
open Go.RowKit

theorem boxes4 {w W : World} {cs ds es fs : Array Value} {t u x y : TypeId} (hW : (((w.alloc (.cells cs t)).alloc (.cells ds u)).alloc (.cells es x)).alloc (.cells fs y) = W) :
    Blk W w.heap.size t cs ∧ Blk W (w.heap.size + 1) u ds ∧ Blk W (w.heap.size + 2) x es ∧ Blk W (w.heap.size + 3) y fs ∧ Below w.heap.size w W ∧ W.heap.size = w.heap.size + 4 := by
  subst hW
  obtain ⟨h1, h2, h3, h4⟩ := boxes (w := w) (cs := cs) (ds := ds) (t := t) (u := u) rfl
  obtain ⟨k1, k2, k3, k4⟩ := boxes (w := (w.alloc (.cells cs t)).alloc (.cells ds u)) (cs := es) (ds := fs) (t := x) (u := y) rfl
  rw [h4] at k1 k2 k3 k4
  exact ⟨(h1.alloc _).alloc _, (h2.alloc _).alloc _, k1, k2, h3.trans (k3.mono (by omega)), k4⟩
theorem EN.blk {w0 w : World} {b : Nat} {x : E} (h : EN w0 b x w) : ∃ cs, Blk w b 47 cs := by
  obtain ⟨row, h⟩ := h
  obtain ⟨A, n, c, hb, _⟩ := h.has
  exact ⟨_, hb⟩
theorem ESt.keepS {w0 w w' : World} {b s : Nat} {row : Option Nat} {x : E} {t : TypeId} {cs : Array Value} (h : ESt w0 w b row x) (hs : Blk w s t cs) (h1 : t ≠ 47) (h2 : t ≠ 3) (h0 : w0.heap.size ≤ s) (hk : Keep (fun k => k = s) w w') : ESt w0 w' b row x := by
  refine ⟨h.old.trans (hk.below h.old.size (fun k e => by omega)), ?_, h.own, h.rown, h.ok⟩
  obtain ⟨A, n, c, hb, hsl⟩ := h.has
  refine ⟨A, n, c, hb.keep hk (fun e => Blk.ne_ hs hb h1 e.symm), hsl.keep hk ?_⟩
  intro g hg e
  rcases hsl.2.2.2 with ⟨q1, _⟩ | ⟨g', off, cur, q1, _, hbb, _⟩
  · rw [q1] at hg; cases hg
  · rw [hg] at q1; injection q1 with q1; subst q1
    exact Blk.ne_ hs hbb h2 e.symm
theorem EN2.keepS {w0 w w' : World} {b b' s : Nat} {x x' : E} {t : TypeId} {cs : Array Value} (h : EN2 w0 b x b' x' w) (hs : Blk w s t cs) (h1 : t ≠ 47) (h2 : t ≠ 3) (h0 : w0.heap.size ≤ s) (hk : Keep (fun k => k = s) w w') : EN2 w0 b x b' x' w' := by
  obtain ⟨r, r', k1, k2, hne⟩ := h
  exact ⟨r, r', k1.keepS hs h1 h2 h0 hk, k2.keepS hs h1 h2 h0 hk, hne⟩
theorem en2_tickK {w0 w : World} {b b' : Nat} {x x' : E} (h : EN2 w0 b x b' x' w) :
    Calls Try.prog 10 #[.pointer (some ⟨b, 0, none⟩)] w fun e w' => ∃ A c, e = .returned (.tuple #[.slice A x.asks.length c, .bool x.alone]) ∧ EN2 w0 b x.tick b' x' w' ∧ Keep (fun k => k = b) w w' := by
  obtain ⟨row, row', h, h', hne⟩ := h
  refine (tick_any w h.has h.ok).mono ?_
  rintro e w' ⟨_, A, c, rfl, hs, _, hE, hK⟩
  exact ⟨A, c, rfl, EN2.turn h h' hne h.ok.tick hE hK, hK⟩
def oS (seeds : List Int) (retry a : Int) (k : Nat) : E := ⟨seeds, retry, a, (k : Int), false⟩
theorem oS_zero (seeds : List Int) (retry a : Int) : oS seeds retry a 0 = newE seeds retry a := by simp [oS, newE]
theorem oS_tick (seeds : List Int) (retry a : Int) (k : Nat) (h : k < 10000) : (oS seeds retry a k).tick = oS seeds retry a (k + 1) := by
  have h1 : (min ((k : Int) + 1) 1099511627776 : Int) = ((k + 1 : Nat) : Int) := by omega
  show (⟨seeds, retry, a, min ((k : Int) + 1) 1099511627776, false⟩ : E) = ⟨seeds, retry, a, ((k + 1 : Nat) : Int), false⟩
  rw [h1]
theorem oS_alone (seeds : List Int) (retry a : Int) (k : Nat) : (oS seeds retry a k).alone = true → (newE seeds retry a).first = true := by
  intro h
  unfold E.alone at h
  simp only [Bool.and_eq_true] at h
  exact h.1.1
theorem first_one {seeds : List Int} {r1 r2 a b : Int} (h1 : (newE seeds r1 a).first = true) (h2 : (newE seeds r2 b).first = true) : a = b := by
  cases seeds with
  | nil => cases h1
  | cons s t =>
    have e1 : s = a := of_decide_eq_true h1
    have e2 : s = b := of_decide_eq_true h2
    exact e1.symm.trans e2
theorem new_any {A : Option Addr} {n c : Nat} (seeds : List Int) (v1 v2 v3 v4 : Value) (retry : Int) (v6 v7 v8 v9 v10 v11 v12 v13 v14 v15 v16 : Value) (a i : Int) (w : World)
    (hs : Rd w A n (seeds.map (.int .i64))) (hn : n ≤ 1000000) :
    Calls Try.prog 9 #[cfgV (.slice A n c) v1 v2 v3 v4 retry v6 v7 v8 v9 v10 v11 v12 v13 v14 v15 v16, .agg #[.int .i64 a, .int .i64 i]] w fun e w' => ∃ P er, e = .returned (.tuple #[.pointer P, .int .i64 er]) ∧ Below w.heap.size w w' := by
  by_cases hx : 1 ≤ retry ∧ retry ≤ 4096 ∧ mayID a i = true
  · refine (new_ok seeds _ _ _ _ retry _ _ _ _ _ _ _ _ _ _ _ a i w hx.1 hx.2.1 hx.2.2 hs hn).mono ?_
    rintro e w2 ⟨b, row, rfl, _, _, _, hk⟩
    exact ⟨_, _, rfl, hk.below (Nat.le_refl _) (fun _ h => h.elim)⟩
  · refine (new_bad _ _ _ _ _ retry _ _ _ _ _ _ _ _ _ _ _ a i w hx).mono ?_
    rintro e w2 ⟨rfl, hb⟩
    exact ⟨_, _, rfl, hb⟩

set_option maxRecDepth 100000 in
set_option maxHeartbeats 4000000 in
theorem one_far (A : Option Addr) (n c : Nat) (v1 v2 v3 v4 : Value) (retry : Int) (v6 v7 v8 v9 v10 v11 v12 v13 v14 v15 v16 : Value) (z0 z1 z2 z3 z4 : Value) (retry2 : Int) (z6 z7 z8 z9 z10 z11 z12 z13 z14 z15 z16 : Value) (a i bb j nn mm : Int) (w : World) (hn : 200 < n) (hm : n ≤ maxLen) :
    Calls Try.prog 4 #[cfgV (.slice A n c) v1 v2 v3 v4 retry v6 v7 v8 v9 v10 v11 v12 v13 v14 v15 v16, cfgV z0 z1 z2 z3 z4 retry2 z6 z7 z8 z9 z10 z11 z12 z13 z14 z15 z16, .agg #[.int .i64 a, .int .i64 i], .agg #[.int .i64 bb, .int .i64 j], .int .i64 nn, .int .i64 mm] w fun e w' => e = .returned (.bool true) ∧ Below w.heap.size w w' := by
  have hm' : (n : Int) ≤ 9223372036854775807 := by simp [maxLen] at hm; omega
  go_enter Try.func4, Try.ntmps4
  go_wp2_with fail
  generalize hW : (((w.alloc _).alloc _).alloc _).alloc _ = W
  obtain ⟨hC, hD, hI, hJ, hO, hsz⟩ := boxes4 hW
  clear hW
  refine (works_any W).mono ?_
  rintro e w1 ⟨rfl, hb⟩
  have p0 := (hC.below hb).cell 0
  have q0 := (hI.below hb).cell 0
  have r0 := (hJ.below hb).cell 0
  simp at p0 q0 r0
  have HB := Lib.hid (hO.trans (hb.mono (by omega)))
  clear hC hD hI hJ hO hb hsz
  go_wp2_with fail
  refine (works_any w1).mono ?_
  rintro e w2 ⟨rfl, hb⟩
  go_wp2
  go_ret
  exact ⟨rfl, HB.out.trans (hb.mono HB.out.size)⟩

set_option maxRecDepth 100000 in
set_option maxHeartbeats 4000000 in
theorem one_same (A : Option Addr) (n c : Nat) (v1 v2 v3 v4 : Value) (retry : Int) (v6 v7 v8 v9 v10 v11 v12 v13 v14 v15 v16 : Value) (z0 z1 z2 z3 z4 : Value) (retry2 : Int) (z6 z7 z8 z9 z10 z11 z12 z13 z14 z15 z16 : Value) (a i bb j nn mm : Int) (w : World) (hn : n ≤ 200) (hab : a = bb) :
    Calls Try.prog 4 #[cfgV (.slice A n c) v1 v2 v3 v4 retry v6 v7 v8 v9 v10 v11 v12 v13 v14 v15 v16, cfgV z0 z1 z2 z3 z4 retry2 z6 z7 z8 z9 z10 z11 z12 z13 z14 z15 z16, .agg #[.int .i64 a, .int .i64 i], .agg #[.int .i64 bb, .int .i64 j], .int .i64 nn, .int .i64 mm] w fun e w' => e = .returned (.bool true) ∧ Below w.heap.size w w' := by
  subst hab
  go_enter Try.func4, Try.ntmps4
  go_wp2_with fail
  generalize hW : (((w.alloc _).alloc _).alloc _).alloc _ = W
  obtain ⟨hC, hD, hI, hJ, hO, hsz⟩ := boxes4 hW
  clear hW
  refine (works_any W).mono ?_
  rintro e w1 ⟨rfl, hb⟩
  have p0 := (hC.below hb).cell 0
  have q0 := (hI.below hb).cell 0
  have r0 := (hJ.below hb).cell 0
  simp at p0 q0 r0
  have HB := Lib.hid (hO.trans (hb.mono (by omega)))
  clear hC hD hI hJ hO hb hsz
  go_wp2_with fail
  refine (works_any w1).mono ?_
  rintro e w2 ⟨rfl, hb⟩
  go_wp2
  go_ret
  exact ⟨rfl, HB.out.trans (hb.mono HB.out.size)⟩

set_option maxRecDepth 100000 in
set_option maxHeartbeats 4000000 in
theorem one_badC (A : Option Addr) (n c : Nat) (v1 v2 v3 v4 : Value) (retry : Int) (v6 v7 v8 v9 v10 v11 v12 v13 v14 v15 v16 : Value) (z0 z1 z2 z3 z4 : Value) (retry2 : Int) (z6 z7 z8 z9 z10 z11 z12 z13 z14 z15 z16 : Value) (a i bb j nn mm : Int) (w : World) (seeds : List Int) (hn : n ≤ 200) (hr : Rd w A n (seeds.map (.int .i64))) (hl : seeds.length = n) (hab : ¬ a = bb) (hx : ¬ (1 ≤ retry ∧ retry ≤ 4096 ∧ mayID a i = true)) :
    Calls Try.prog 4 #[cfgV (.slice A n c) v1 v2 v3 v4 retry v6 v7 v8 v9 v10 v11 v12 v13 v14 v15 v16, cfgV z0 z1 z2 z3 z4 retry2 z6 z7 z8 z9 z10 z11 z12 z13 z14 z15 z16, .agg #[.int .i64 a, .int .i64 i], .agg #[.int .i64 bb, .int .i64 j], .int .i64 nn, .int .i64 mm] w fun e w' => e = .returned (.bool true) ∧ Below w.heap.size w w' := by
  go_enter Try.func4, Try.ntmps4
  go_wp2_with fail
  generalize hW : (((w.alloc _).alloc _).alloc _).alloc _ = W
  obtain ⟨hC, hD, hI, hJ, hO, hsz⟩ := boxes4 hW
  clear hW
  refine (works_any W).mono ?_
  rintro e w1 ⟨rfl, hb⟩
  have hC1 := hC.below hb
  have hD1 := hD.below hb
  have hI1 := hI.below hb
  have hJ1 := hJ.below hb
  have p0 := hC1.cell 0
  have d0 := hD1.cell 0
  have p1 := hC1.cell 1
  have d1 := hD1.cell 1
  have p2 := hC1.cell 2
  have d2 := hD1.cell 2
  have p3 := hC1.cell 3
  have d3 := hD1.cell 3
  have p4 := hC1.cell 4
  have d4 := hD1.cell 4
  have p5 := hC1.cell 5
  have d5 := hD1.cell 5
  have p6 := hC1.cell 6
  have d6 := hD1.cell 6
  have p7 := hC1.cell 7
  have d7 := hD1.cell 7
  have p8 := hC1.cell 8
  have d8 := hD1.cell 8
  have p9 := hC1.cell 9
  have d9 := hD1.cell 9
  have p10 := hC1.cell 10
  have d10 := hD1.cell 10
  have p11 := hC1.cell 11
  have d11 := hD1.cell 11
  have p12 := hC1.cell 12
  have d12 := hD1.cell 12
  have p13 := hC1.cell 13
  have d13 := hD1.cell 13
  have p14 := hC1.cell 14
  have d14 := hD1.cell 14
  have p15 := hC1.cell 15
  have d15 := hD1.cell 15
  have p16 := hC1.cell 16
  have d16 := hD1.cell 16
  have q0 := hI1.cell 0
  have q1 := hI1.cell 1
  have r0 := hJ1.cell 0
  have r1 := hJ1.cell 1
  have f0 := hD1.frozen 0
  simp at p0 d0 p1 d1 p2 d2 p3 d3 p4 d4 p5 d5 p6 d6 p7 d7 p8 d8 p9 d9 p10 d10 p11 d11 p12 d12 p13 d13 p14 d14 p15 d15 p16 d16 q0 q1 r0 r1
  have HB := Lib.hid (hO.trans (hb.mono (by omega)))
  have hlt1 : w.heap.size + 3 < w1.heap.size := hJ1.lt
  have HR := Lib.hid (hr.below HB.out)
  have HC1 := Lib.hid hC1
  have HD1 := Lib.hid hD1
  have HI1 := Lib.hid hI1
  have HJ1 := Lib.hid hJ1
  have HR0 := Lib.hid hr
  clear hC hD hI hJ hO hb hC1 hD1 hI1 hJ1 hr hsz
  have hne : (a == bb) = false := by simpa using hab
  go_wp2_with fail
  generalize hW : w1.setCell _ _ = W1
  have kW : Keep (fun k => k = w.heap.size + 1) w1 W1 := by subst hW; exact (Keep.refl (fun k => k = w.heap.size + 1) w1).setCell (fun _ => rfl) _
  have hC2 : Blk W1 w.heap.size 24 _ := HC1.out.keep kW (by omega)
  have hI2 : Blk W1 (w.heap.size + 2) 26 _ := HI1.out.keep kW (by omega)
  have hJ2 : Blk W1 (w.heap.size + 3) 26 _ := HJ1.out.keep kW (by omega)
  have hD2 : Blk W1 (w.heap.size + 1) 24 #[.slice A n c, z1, z2, z3, z4, .int .i64 retry2, z6, z7, z8, z9, z10, z11, z12, z13, z14, z15, z16] := by subst hW; simpa using HD1.out.set_ 0 (.slice A n c)
  have hB2 : Below w.heap.size w W1 := HB.out.trans (kW.below (by omega) (fun k e => by omega))
  have hR2 : Rd W1 A n (seeds.map (.int .i64)) := HR0.out.below hB2
  have hlt2 : w.heap.size + 3 < W1.heap.size := hJ2.lt
  clear HC1 HD1 HI1 HJ1 HB HR hW kW hlt1 f0 p0 d0 p1 d1 p2 d2 p3 d3 p4 d4 p5 d5 p6 d6 p7 d7 p8 d8 p9 d9 p10 d10 p11 d11 p12 d12 p13 d13 p14 d14 p15 d15 p16 d16 q0 q1 r0 r1
  have p0 := hC2.cell 0
  have p1 := hC2.cell 1
  have p2 := hC2.cell 2
  have p3 := hC2.cell 3
  have p4 := hC2.cell 4
  have p5 := hC2.cell 5
  have p6 := hC2.cell 6
  have p7 := hC2.cell 7
  have p8 := hC2.cell 8
  have p9 := hC2.cell 9
  have p10 := hC2.cell 10
  have p11 := hC2.cell 11
  have p12 := hC2.cell 12
  have p13 := hC2.cell 13
  have p14 := hC2.cell 14
  have p15 := hC2.cell 15
  have p16 := hC2.cell 16
  have q0 := hI2.cell 0
  have q1 := hI2.cell 1
  simp at p0 p1 p2 p3 p4 p5 p6 p7 p8 p9 p10 p11 p12 p13 p14 p15 p16 q0 q1
  have HC2 := Lib.hid hC2
  have HD2 := Lib.hid hD2
  have HI2 := Lib.hid hI2
  have HJ2 := Lib.hid hJ2
  have HB2 := Lib.hid hB2
  have HR2 := Lib.hid hR2
  clear hC2 hD2 hI2 hJ2 hB2 hR2
  go_wp2_with fail
  refine (new_bad _ _ _ _ _ retry _ _ _ _ _ _ _ _ _ _ _ a i W1 hx).mono ?_
  rintro e w2 ⟨rfl, hb2⟩
  clear p0 p1 p2 p3 p4 p5 p6 p7 p8 p9 p10 p11 p12 p13 p14 p15 p16 q0 q1
  have HB3 := Lib.hid hb2
  clear hb2
  have hD3 := HD2.out.below (HB3.out)
  have hJ3 := HJ2.out.below (HB3.out)
  have d0 := hD3.cell 0
  have d1 := hD3.cell 1
  have d2 := hD3.cell 2
  have d3 := hD3.cell 3
  have d4 := hD3.cell 4
  have d5 := hD3.cell 5
  have d6 := hD3.cell 6
  have d7 := hD3.cell 7
  have d8 := hD3.cell 8
  have d9 := hD3.cell 9
  have d10 := hD3.cell 10
  have d11 := hD3.cell 11
  have d12 := hD3.cell 12
  have d13 := hD3.cell 13
  have d14 := hD3.cell 14
  have d15 := hD3.cell 15
  have d16 := hD3.cell 16
  have r0 := hJ3.cell 0
  have r1 := hJ3.cell 1
  simp at d0 d1 d2 d3 d4 d5 d6 d7 d8 d9 d10 d11 d12 d13 d14 d15 d16 r0 r1
  clear hD3 hJ3
  have hc3 := HC2.out.below HB3.out
  have hi3 := HI2.out.below HB3.out
  go_wp2_with fail
  refine (new_any seeds _ _ _ _ retry2 _ _ _ _ _ _ _ _ _ _ _ bb j w2 (HR2.out.below HB3.out) (by omega)).mono ?_
  rintro e w3 ⟨P, er, rfl, hb3⟩
  clear d0 d1 d2 d3 d4 d5 d6 d7 d8 d9 d10 d11 d12 d13 d14 d15 d16 r0 r1
  have hc4 := hc3.below hb3
  have hi4 := hi3.below hb3
  have p5 := hc4.cell 5
  have q0 := hi4.cell 0
  have q1 := hi4.cell 1
  simp at p5 q0 q1
  have HB5 := Lib.hid (HB2.out.trans ((HB3.out.mono HB2.out.size).trans (hb3.mono (Nat.le_trans HB2.out.size HB3.out.size))))
  clear hc3 hi3 hc4 hi4 hb3
  go_wp2_with fail
  refine (may_any a i _).mono ?_
  rintro e w4 ⟨rfl, rfl⟩
  have p5' : (w3.alloc (.cells #[.int .i64 a, .int .i64 i] 26)).cell? ⟨w.heap.size, 5, none⟩ = some (.int .i64 retry) := by
    rw [← p5]; exact ((Below.refl w3.heap.size w3).alloc (Nat.le_refl _) _).cell (World.block_lt_of_cell? w3 _ p5)
  have hB6 := Lib.hid (HB5.out.alloc HB5.out.size (.cells #[.int .i64 a, .int .i64 i] 26))
  clear p5 q0 q1
  generalize w3.alloc _ = w5 at p5' hB6 ⊢
  cases hm : mayID a i with
  | false =>
    go_wp2
    go_ret
    exact ⟨rfl, hB6.out⟩
  | true =>
    rcases (show retry < 1 ∨ (1 ≤ retry ∧ 4096 < retry) by rw [hm] at hx; simp at hx; omega) with g1 | ⟨g1, g2⟩
    · go_wp2
      go_ret
      exact ⟨rfl, hB6.out⟩
    · have g3 : decide (retry ≤ 4096) = false := decide_eq_false (by omega)
      go_wp2
      go_ret
      exact ⟨rfl, hB6.out⟩

set_option maxRecDepth 100000 in
set_option maxHeartbeats 4000000 in
theorem one_badD (A : Option Addr) (n c : Nat) (v1 v2 v3 v4 : Value) (retry : Int) (v6 v7 v8 v9 v10 v11 v12 v13 v14 v15 v16 : Value) (z0 z1 z2 z3 z4 : Value) (retry2 : Int) (z6 z7 z8 z9 z10 z11 z12 z13 z14 z15 z16 : Value) (a i bb j nn mm : Int) (w : World) (seeds : List Int) (hn : n ≤ 200) (hr : Rd w A n (seeds.map (.int .i64))) (hl : seeds.length = n) (hab : ¬ a = bb) (h1 : 1 ≤ retry) (h2 : retry ≤ 4096) (h3 : mayID a i = true) (hx : ¬ (1 ≤ retry2 ∧ retry2 ≤ 4096 ∧ mayID bb j = true)) :
    Calls Try.prog 4 #[cfgV (.slice A n c) v1 v2 v3 v4 retry v6 v7 v8 v9 v10 v11 v12 v13 v14 v15 v16, cfgV z0 z1 z2 z3 z4 retry2 z6 z7 z8 z9 z10 z11 z12 z13 z14 z15 z16, .agg #[.int .i64 a, .int .i64 i], .agg #[.int .i64 bb, .int .i64 j], .int .i64 nn, .int .i64 mm] w fun e w' => e = .returned (.bool true) ∧ Below w.heap.size w w' := by
  go_enter Try.func4, Try.ntmps4
  go_wp2_with fail
  generalize hW : (((w.alloc _).alloc _).alloc _).alloc _ = W
  obtain ⟨hC, hD, hI, hJ, hO, hsz⟩ := boxes4 hW
  clear hW
  refine (works_any W).mono ?_
  rintro e w1 ⟨rfl, hb⟩
  have hC1 := hC.below hb
  have hD1 := hD.below hb
  have hI1 := hI.below hb
  have hJ1 := hJ.below hb
  have p0 := hC1.cell 0
  have d0 := hD1.cell 0
  have p1 := hC1.cell 1
  have d1 := hD1.cell 1
  have p2 := hC1.cell 2
  have d2 := hD1.cell 2
  have p3 := hC1.cell 3
  have d3 := hD1.cell 3
  have p4 := hC1.cell 4
  have d4 := hD1.cell 4
  have p5 := hC1.cell 5
  have d5 := hD1.cell 5
  have p6 := hC1.cell 6
  have d6 := hD1.cell 6
  have p7 := hC1.cell 7
  have d7 := hD1.cell 7
  have p8 := hC1.cell 8
  have d8 := hD1.cell 8
  have p9 := hC1.cell 9
  have d9 := hD1.cell 9
  have p10 := hC1.cell 10
  have d10 := hD1.cell 10
  have p11 := hC1.cell 11
  have d11 := hD1.cell 11
  have p12 := hC1.cell 12
  have d12 := hD1.cell 12
  have p13 := hC1.cell 13
  have d13 := hD1.cell 13
  have p14 := hC1.cell 14
  have d14 := hD1.cell 14
  have p15 := hC1.cell 15
  have d15 := hD1.cell 15
  have p16 := hC1.cell 16
  have d16 := hD1.cell 16
  have q0 := hI1.cell 0
  have q1 := hI1.cell 1
  have r0 := hJ1.cell 0
  have r1 := hJ1.cell 1
  have f0 := hD1.frozen 0
  simp at p0 d0 p1 d1 p2 d2 p3 d3 p4 d4 p5 d5 p6 d6 p7 d7 p8 d8 p9 d9 p10 d10 p11 d11 p12 d12 p13 d13 p14 d14 p15 d15 p16 d16 q0 q1 r0 r1
  have HB := Lib.hid (hO.trans (hb.mono (by omega)))
  have hlt1 : w.heap.size + 3 < w1.heap.size := hJ1.lt
  have HR := Lib.hid (hr.below HB.out)
  have HC1 := Lib.hid hC1
  have HD1 := Lib.hid hD1
  have HI1 := Lib.hid hI1
  have HJ1 := Lib.hid hJ1
  have HR0 := Lib.hid hr
  clear hC hD hI hJ hO hb hC1 hD1 hI1 hJ1 hr hsz
  have hne : (a == bb) = false := by simpa using hab
  go_wp2_with fail
  generalize hW : w1.setCell _ _ = W1
  have kW : Keep (fun k => k = w.heap.size + 1) w1 W1 := by subst hW; exact (Keep.refl (fun k => k = w.heap.size + 1) w1).setCell (fun _ => rfl) _
  have hC2 : Blk W1 w.heap.size 24 _ := HC1.out.keep kW (by omega)
  have hI2 : Blk W1 (w.heap.size + 2) 26 _ := HI1.out.keep kW (by omega)
  have hJ2 : Blk W1 (w.heap.size + 3) 26 _ := HJ1.out.keep kW (by omega)
  have hD2 : Blk W1 (w.heap.size + 1) 24 #[.slice A n c, z1, z2, z3, z4, .int .i64 retry2, z6, z7, z8, z9, z10, z11, z12, z13, z14, z15, z16] := by subst hW; simpa using HD1.out.set_ 0 (.slice A n c)
  have hB2 : Below w.heap.size w W1 := HB.out.trans (kW.below (by omega) (fun k e => by omega))
  have hR2 : Rd W1 A n (seeds.map (.int .i64)) := HR0.out.below hB2
  have hlt2 : w.heap.size + 3 < W1.heap.size := hJ2.lt
  clear HC1 HD1 HI1 HJ1 HB HR hW kW hlt1 f0 p0 d0 p1 d1 p2 d2 p3 d3 p4 d4 p5 d5 p6 d6 p7 d7 p8 d8 p9 d9 p10 d10 p11 d11 p12 d12 p13 d13 p14 d14 p15 d15 p16 d16 q0 q1 r0 r1
  have p0 := hC2.cell 0
  have p1 := hC2.cell 1
  have p2 := hC2.cell 2
  have p3 := hC2.cell 3
  have p4 := hC2.cell 4
  have p5 := hC2.cell 5
  have p6 := hC2.cell 6
  have p7 := hC2.cell 7
  have p8 := hC2.cell 8
  have p9 := hC2.cell 9
  have p10 := hC2.cell 10
  have p11 := hC2.cell 11
  have p12 := hC2.cell 12
  have p13 := hC2.cell 13
  have p14 := hC2.cell 14
  have p15 := hC2.cell 15
  have p16 := hC2.cell 16
  have q0 := hI2.cell 0
  have q1 := hI2.cell 1
  simp at p0 p1 p2 p3 p4 p5 p6 p7 p8 p9 p10 p11 p12 p13 p14 p15 p16 q0 q1
  have HC2 := Lib.hid hC2
  have HD2 := Lib.hid hD2
  have HI2 := Lib.hid hI2
  have HJ2 := Lib.hid hJ2
  have HB2 := Lib.hid hB2
  have HR2 := Lib.hid hR2
  clear hC2 hD2 hI2 hJ2 hB2 hR2
  go_wp2_with fail
  refine (new_ok seeds _ _ _ _ retry _ _ _ _ _ _ _ _ _ _ _ a i W1 h1 h2 h3 HR2.out (by omega)).mono ?_
  rintro e w2 ⟨b1, row1, rfl, hE, hbn, hrn, hk⟩
  have hN := EN.made (w0 := W1) (Below.refl _ _) (newE_ok (seeds := seeds) (retry := retry) (own := a) h1 h2 (by omega)) hE hbn hrn hk
  clear p0 p1 p2 p3 p4 p5 p6 p7 p8 p9 p10 p11 p12 p13 p14 p15 p16 q0 q1
  have HB3 := Lib.hid hN.old
  have HN := Lib.hid hN
  clear hE hbn hrn hk hN
  have hD3 := HD2.out.below (HB3.out)
  have hJ3 := HJ2.out.below (HB3.out)
  have d0 := hD3.cell 0
  have d1 := hD3.cell 1
  have d2 := hD3.cell 2
  have d3 := hD3.cell 3
  have d4 := hD3.cell 4
  have d5 := hD3.cell 5
  have d6 := hD3.cell 6
  have d7 := hD3.cell 7
  have d8 := hD3.cell 8
  have d9 := hD3.cell 9
  have d10 := hD3.cell 10
  have d11 := hD3.cell 11
  have d12 := hD3.cell 12
  have d13 := hD3.cell 13
  have d14 := hD3.cell 14
  have d15 := hD3.cell 15
  have d16 := hD3.cell 16
  have r0 := hJ3.cell 0
  have r1 := hJ3.cell 1
  simp at d0 d1 d2 d3 d4 d5 d6 d7 d8 d9 d10 d11 d12 d13 d14 d15 d16 r0 r1
  clear hD3 hJ3
  have hc3 := HC2.out.below HB3.out
  have hi3 := HI2.out.below HB3.out
  go_wp2_with fail
  refine (new_bad _ _ _ _ _ retry2 _ _ _ _ _ _ _ _ _ _ _ bb j w2 hx).mono ?_
  rintro e w3 ⟨rfl, hb3⟩
  clear d0 d1 d2 d3 d4 d5 d6 d7 d8 d9 d10 d11 d12 d13 d14 d15 d16 r0 r1
  have hc4 := hc3.below hb3
  have hi4 := hi3.below hb3
  have p5 := hc4.cell 5
  have q0 := hi4.cell 0
  have q1 := hi4.cell 1
  simp at p5 q0 q1
  have HB5 := Lib.hid (HB2.out.trans ((HB3.out.mono HB2.out.size).trans (hb3.mono (Nat.le_trans HB2.out.size HB3.out.size))))
  clear hc3 hi3 hc4 hi4 hb3
  go_wp2_with fail
  refine (may_any a i _).mono ?_
  rintro e w4 ⟨rfl, rfl⟩
  have p5' : (w3.alloc (.cells #[.int .i64 a, .int .i64 i] 26)).cell? ⟨w.heap.size, 5, none⟩ = some (.int .i64 retry) := by
    rw [← p5]; exact ((Below.refl w3.heap.size w3).alloc (Nat.le_refl _) _).cell (World.block_lt_of_cell? w3 _ p5)
  have hB6 := Lib.hid (HB5.out.alloc HB5.out.size (.cells #[.int .i64 a, .int .i64 i] 26))
  clear p5 q0 q1
  generalize w3.alloc _ = w5 at p5' hB6 ⊢
  rw [h3]
  go_wp2
  go_ret
  exact ⟨rfl, hB6.out⟩
end Go.Proofs.Ytlnflbobcbnhhaa
