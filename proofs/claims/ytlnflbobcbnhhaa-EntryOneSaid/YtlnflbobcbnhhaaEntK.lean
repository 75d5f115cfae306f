/-
  EntryOne: both are made.
-/
import Derived.Test.YtlnflbobcbnhhaaEntJ
namespace Go.Proofs.Ytlnflbobcbnhhaa
open Go.RowKit

set_option maxRecDepth 100000 in
set_option maxHeartbeats 4000000 in
theorem one_good (A : Option Addr) (n c : Nat) (v1 v2 v3 v4 : Value) (retry : Int) (v6 v7 v8 v9 v10 v11 v12 v13 v14 v15 v16 : Value) (z0 z1 z2 z3 z4 : Value) (retry2 : Int) (z6 z7 z8 z9 z10 z11 z12 z13 z14 z15 z16 : Value) (a i bb j nn mm : Int) (w : World) (seeds : List Int) (hn : n ≤ 200) (hr : Rd w A n (seeds.map (.int .i64))) (hl : seeds.length = n) (hab : ¬ a = bb) (h1 : 1 ≤ retry) (h2 : retry ≤ 4096) (h3 : mayID a i = true) (k1 : 1 ≤ retry2) (k2 : retry2 ≤ 4096) (k3 : mayID bb j = true) :
    Calls Try.prog 4 #[cfgV (.slice A n c) v1 v2 v3 v4 retry v6 v7 v8 v9 v10 v11 v12 v13 v14 v15 v16, cfgV z0 z1 z2 z3 z4 retry2 z6 z7 z8 z9 z10 z11 z12 z13 z14 z15 z16, .agg #[.int .i64 a, .int .i64 i], .agg #[.int .i64 bb, .int .i64 j], .int .i64 nn, .int .i64 mm] w fun e w' => e = .returned (.bool true) ∧ Below w.heap.size w w' := by
  go_enter Try.func4, Try.ntmps4
  go_wp2_with fail
  generalize hW : (((w.alloc _).alloc _).alloc _).alloc _ = W
  obtain ⟨hC, hD, hI, hJ, hO, hsz⟩ := boxes4 hW
  clear hW
  refine (works_any W).mono ?_
  rintro e w1 ⟨rfl, hb⟩
  have hC1 := hC.below hb
  have hD1 := hD.below hb
  have hI1 := hI.below hb
  have hJ1 := hJ.below hb
  have p0 := hC1.cell 0
  have d0 := hD1.cell 0
  have p1 := hC1.cell 1
  have d1 := hD1.cell 1
  have p2 := hC1.cell 2
  have d2 := hD1.cell 2
  have p3 := hC1.cell 3
  have d3 := hD1.cell 3
  have p4 := hC1.cell 4
  have d4 := hD1.cell 4
  have p5 := hC1.cell 5
  have d5 := hD1.cell 5
  have p6 := hC1.cell 6
  have d6 := hD1.cell 6
  have p7 := hC1.cell 7
  have d7 := hD1.cell 7
  have p8 := hC1.cell 8
  have d8 := hD1.cell 8
  have p9 := hC1.cell 9
  have d9 := hD1.cell 9
  have p10 := hC1.cell 10
  have d10 := hD1.cell 10
  have p11 := hC1.cell 11
  have d11 := hD1.cell 11
  have p12 := hC1.cell 12
  have d12 := hD1.cell 12
  have p13 := hC1.cell 13
  have d13 := hD1.cell 13
  have p14 := hC1.cell 14
  have d14 := hD1.cell 14
  have p15 := hC1.cell 15
  have d15 := hD1.cell 15
  have p16 := hC1.cell 16
  have d16 := hD1.cell 16
  have q0 := hI1.cell 0
  have q1 := hI1.cell 1
  have r0 := hJ1.cell 0
  have r1 := hJ1.cell 1
  have f0 := hD1.frozen 0
  simp at p0 d0 p1 d1 p2 d2 p3 d3 p4 d4 p5 d5 p6 d6 p7 d7 p8 d8 p9 d9 p10 d10 p11 d11 p12 d12 p13 d13 p14 d14 p15 d15 p16 d16 q0 q1 r0 r1
  have HB := Lib.hid (hO.trans (hb.mono (by omega)))
  have hlt1 : w.heap.size + 3 < w1.heap.size := hJ1.lt
  have HR := Lib.hid (hr.below HB.out)
  have HC1 := Lib.hid hC1
  have HD1 := Lib.hid hD1
  have HI1 := Lib.hid hI1
  have HJ1 := Lib.hid hJ1
  have HR0 := Lib.hid hr
  clear hC hD hI hJ hO hb hC1 hD1 hI1 hJ1 hr hsz
  have hne : (a == bb) = false := by simpa using hab
  go_wp2_with fail
  generalize hW : w1.setCell _ _ = W1
  have kW : Keep (fun k => k = w.heap.size + 1) w1 W1 := by subst hW; exact (Keep.refl (fun k => k = w.heap.size + 1) w1).setCell (fun _ => rfl) _
  have hC2 : Blk W1 w.heap.size 24 _ := HC1.out.keep kW (by omega)
  have hI2 : Blk W1 (w.heap.size + 2) 26 _ := HI1.out.keep kW (by omega)
  have hJ2 : Blk W1 (w.heap.size + 3) 26 _ := HJ1.out.keep kW (by omega)
  have hD2 : Blk W1 (w.heap.size + 1) 24 #[.slice A n c, z1, z2, z3, z4, .int .i64 retry2, z6, z7, z8, z9, z10, z11, z12, z13, z14, z15, z16] := by subst hW; simpa using HD1.out.set_ 0 (.slice A n c)
  have hB2 : Below w.heap.size w W1 := HB.out.trans (kW.below (by omega) (fun k e => by omega))
  have hR2 : Rd W1 A n (seeds.map (.int .i64)) := HR0.out.below hB2
  have hlt2 : w.heap.size + 3 < W1.heap.size := hJ2.lt
  clear HC1 HD1 HI1 HJ1 HB HR hW kW hlt1 f0 p0 d0 p1 d1 p2 d2 p3 d3 p4 d4 p5 d5 p6 d6 p7 d7 p8 d8 p9 d9 p10 d10 p11 d11 p12 d12 p13 d13 p14 d14 p15 d15 p16 d16 q0 q1 r0 r1
  have p0 := hC2.cell 0
  have p1 := hC2.cell 1
  have p2 := hC2.cell 2
  have p3 := hC2.cell 3
  have p4 := hC2.cell 4
  have p5 := hC2.cell 5
  have p6 := hC2.cell 6
  have p7 := hC2.cell 7
  have p8 := hC2.cell 8
  have p9 := hC2.cell 9
  have p10 := hC2.cell 10
  have p11 := hC2.cell 11
  have p12 := hC2.cell 12
  have p13 := hC2.cell 13
  have p14 := hC2.cell 14
  have p15 := hC2.cell 15
  have p16 := hC2.cell 16
  have q0 := hI2.cell 0
  have q1 := hI2.cell 1
  simp at p0 p1 p2 p3 p4 p5 p6 p7 p8 p9 p10 p11 p12 p13 p14 p15 p16 q0 q1
  have HC2 := Lib.hid hC2
  have HD2 := Lib.hid hD2
  have HI2 := Lib.hid hI2
  have HJ2 := Lib.hid hJ2
  have HB2 := Lib.hid hB2
  have HR2 := Lib.hid hR2
  clear hC2 hD2 hI2 hJ2 hB2 hR2
  go_wp2_with fail
  refine (new_ok seeds _ _ _ _ retry _ _ _ _ _ _ _ _ _ _ _ a i W1 h1 h2 h3 HR2.out (by omega)).mono ?_
  rintro e w2 ⟨b1, row1, rfl, hE, hbn, hrn, hk⟩
  have hN := EN.made (w0 := W1) (Below.refl _ _) (newE_ok (seeds := seeds) (retry := retry) (own := a) h1 h2 (by omega)) hE hbn hrn hk
  clear p0 p1 p2 p3 p4 p5 p6 p7 p8 p9 p10 p11 p12 p13 p14 p15 p16 q0 q1
  have HB3 := Lib.hid hN.old
  have HN := Lib.hid hN
  clear hE hbn hrn hk hN
  have hD3 := HD2.out.below (HB3.out)
  have hJ3 := HJ2.out.below (HB3.out)
  have d0 := hD3.cell 0
  have d1 := hD3.cell 1
  have d2 := hD3.cell 2
  have d3 := hD3.cell 3
  have d4 := hD3.cell 4
  have d5 := hD3.cell 5
  have d6 := hD3.cell 6
  have d7 := hD3.cell 7
  have d8 := hD3.cell 8
  have d9 := hD3.cell 9
  have d10 := hD3.cell 10
  have d11 := hD3.cell 11
  have d12 := hD3.cell 12
  have d13 := hD3.cell 13
  have d14 := hD3.cell 14
  have d15 := hD3.cell 15
  have d16 := hD3.cell 16
  have r0 := hJ3.cell 0
  have r1 := hJ3.cell 1
  simp at d0 d1 d2 d3 d4 d5 d6 d7 d8 d9 d10 d11 d12 d13 d14 d15 d16 r0 r1
  clear hD3 hJ3
  go_wp2_with fail
  refine (new_ok seeds _ _ _ _ retry2 _ _ _ _ _ _ _ _ _ _ _ bb j w2 k1 k2 k3 (HR2.out.below HB3.out) (by omega)).mono ?_
  rintro e w3 ⟨b2, row2, rfl, hE, hbn, hrn, hk⟩
  have h2N := EN2.made HN.out (newE_ok (seeds := seeds) (retry := retry2) (own := bb) k1 k2 (by omega)) hE hbn hrn hk
  clear d0 d1 d2 d3 d4 d5 d6 d7 d8 d9 d10 d11 d12 d13 d14 d15 d16 r0 r1
  have H2 := Lib.hid h2N
  clear hE hbn hrn hk h2N HN HB3
  obtain ⟨g, hg, hge⟩ := mod_u64 nn 300 (by decide) (by decide)
  obtain ⟨g', hg', hge'⟩ := mod_u64 mm 300 (by decide) (by decide)
  have hgm : g < 300 := by omega
  have hgm' : g' < 300 := by omega
  have HW1 := Lib.hid (H2.out.old.size)
  go_wp2
  go_loopw [18] (fun i wr => ∃ (k : Nat) (p : Bool), k ≤ g ∧ i = .int .i64 k ∧ EN2 W1 b1 (oS seeds retry a k) b2 (oS seeds retry2 bb 0) wr ∧ Blk wr w3.heap.size 36 #[.bool p, .bool false] ∧ (p = true → (newE seeds retry a).first = true)) (fun i _ => g - (intOf i).toNat)
  case atStart => exact ⟨0, false, Nat.zero_le _, rfl, by rw [oS_zero, oS_zero]; exact H2.out.keep0 ((Keep.refl (fun _ => False) w3).alloc _), Blk.new _ _ _, fun h => by cases h⟩
  case round =>
    obtain ⟨k, p, hk, rfl, hE, hS, hp⟩ := hrel
    by_cases hlt : k < g
    · have HP := Lib.hid hp
      clear hp
      go_wp2_with fail
      refine (en2_tickK hE).mono ?_
      rintro e w4 ⟨TA, tc, rfl, hE4, hK4⟩
      rw [oS_tick _ _ _ _ (by omega)] at hE4
      have hS4 := hS.keep hK4 (fun e => by obtain ⟨cs, hb⟩ := hE.fst.blk; exact Blk.ne_ hS hb (by decide) e)
      have HAl := Lib.hid (oS_alone seeds retry a k)
      have c0 := hS4.cell 0
      have f0 := hS4.frozen 0
      simp at c0
      have HE4 := Lib.hid hE4
      have HS4 := Lib.hid hS4
      clear hE hS hE4 hS4 hK4
      generalize (oS seeds retry a k).alone = al at HAl ⊢
      cases p with
      | true =>
        go_wp2
        go_roundw
        case rel => exact ⟨k + 1, true, by omega, by go_num, HE4.out.keepS HS4.out (by decide) (by decide) HW1.out ((Keep.refl (fun k => k = w3.heap.size) w4).setCell (fun _ => rfl) _), by simpa using HS4.out.set_ 0 (.bool true), fun _ => HP.out (by trivial)⟩
        case measure => simp [intOf]; omega
      | false =>
        go_wp2
        go_roundw
        case rel => exact ⟨k + 1, al, by omega, by go_num, HE4.out.keepS HS4.out (by decide) (by decide) HW1.out ((Keep.refl (fun k => k = w3.heap.size) w4).setCell (fun _ => rfl) _), by simpa using HS4.out.set_ 0 (.bool al), HAl.out⟩
        case measure => simp [intOf]; omega
    · obtain rfl : k = g := by omega
      have HP := Lib.hid hp
      have HE := Lib.hid hE
      have HS := Lib.hid hS
      clear hp hE hS
      go_wp2
      go_loopw [21] (fun i wr => ∃ (k' : Nat) (q : Bool), k' ≤ g' ∧ i = .int .i64 k' ∧ EN2 W1 b1 (oS seeds retry a k) b2 (oS seeds retry2 bb k') wr ∧ Blk wr w3.heap.size 36 #[.bool p, .bool q] ∧ (q = true → (newE seeds retry2 bb).first = true)) (fun i _ => g' - (intOf i).toNat)
      case atStart => exact ⟨0, false, Nat.zero_le _, rfl, HE.out, HS.out, fun h => by cases h⟩
      case round =>
        obtain ⟨k', q, hk', rfl, hE, hS, hq⟩ := hrel
        by_cases hlt : k' < g'
        · have HQ := Lib.hid hq
          clear hq
          go_wp2_with fail
          refine (en2_tickK hE.swap).mono ?_
          rintro e w4 ⟨TA, tc, rfl, hE4, hK4⟩
          rw [oS_tick _ _ _ _ (by omega)] at hE4
          have hS4 := hS.keep hK4 (fun e => by obtain ⟨cs, hb⟩ := hE.swap.fst.blk; exact Blk.ne_ hS hb (by decide) e)
          have HAl := Lib.hid (oS_alone seeds retry2 bb k')
          have c0 := hS4.cell 1
          have f0 := hS4.frozen 1
          simp at c0
          have HE4 := Lib.hid hE4.swap
          have HS4 := Lib.hid hS4
          clear hE hS hE4 hS4 hK4
          generalize (oS seeds retry2 bb k').alone = al at HAl ⊢
          cases q with
          | true =>
            go_wp2
            go_roundw
            case rel => exact ⟨k' + 1, true, by omega, by go_num, HE4.out.keepS HS4.out (by decide) (by decide) HW1.out ((Keep.refl (fun k => k = w3.heap.size) w4).setCell (fun _ => rfl) _), by simpa using HS4.out.set_ 1 (.bool true), fun _ => HQ.out (by trivial)⟩
            case measure => simp [intOf]; omega
          | false =>
            go_wp2
            go_roundw
            case rel => exact ⟨k' + 1, al, by omega, by go_num, HE4.out.keepS HS4.out (by decide) (by decide) HW1.out ((Keep.refl (fun k => k = w3.heap.size) w4).setCell (fun _ => rfl) _), by simpa using HS4.out.set_ 1 (.bool al), HAl.out⟩
            case measure => simp [intOf]; omega
        · obtain rfl : k' = g' := by omega
          have c0 := hS.cell 0
          have c1 := hS.cell 1
          simp at c0 c1
          have HE9 := Lib.hid (HB2.out.trans (hE.old.mono HB2.out.size))
          clear hE hS
          cases p with
          | false =>
            go_wp2
            go_ret
            exact ⟨rfl, HE9.out⟩
          | true =>
            cases q with
            | false =>
              go_wp2
              go_ret
              exact ⟨rfl, HE9.out⟩
            | true => exact absurd (first_one (HP.out (by trivial)) (hq rfl)) hab

theorem walkEntryOne {w : World} (v0 : Value) (w0 : IsCfg w v0) (v1 : Value) (w1 : IsCfg w v1) (v2 : Value) (w2 : IsId w v2) (v3 : Value) (w3 : IsId w v3) (a4 : Int) (_w4 : (Lit.int .i64 a4).wf = true) (a5 : Int) (_w5 : (Lit.int .i64 a5).wf = true) :
    Calls Try.prog 4 #[v0, v1, v2, v3, .int .i64 a4, .int .i64 a5] w fun e w' => e = .returned (.bool true) ∧ Below w.heap.size w w' := by
  obtain ⟨A, n, c, seeds, u1, u2, u3, u4, retry, u6, u7, u8, u9, u10, u11, u12, u13, u14, u15, u16, rfl, hc, hm, hr, hl, _⟩ := w0
  obtain ⟨A', n', c', seeds', z1, z2, z3, z4, retry2, z6, z7, z8, z9, z10, z11, z12, z13, z14, z15, z16, rfl, _⟩ := w1
  obtain ⟨a, i, rfl⟩ := w2
  obtain ⟨bb, j, rfl⟩ := w3
  by_cases hn : 200 < n
  · exact one_far A n c u1 u2 u3 u4 retry u6 u7 u8 u9 u10 u11 u12 u13 u14 u15 u16 (.slice A' n' c') z1 z2 z3 z4 retry2 z6 z7 z8 z9 z10 z11 z12 z13 z14 z15 z16 a i bb j a4 a5 w hn (by omega)
  · by_cases hab : a = bb
    · exact one_same A n c u1 u2 u3 u4 retry u6 u7 u8 u9 u10 u11 u12 u13 u14 u15 u16 (.slice A' n' c') z1 z2 z3 z4 retry2 z6 z7 z8 z9 z10 z11 z12 z13 z14 z15 z16 a i bb j a4 a5 w (by omega) hab
    · by_cases hx : 1 ≤ retry ∧ retry ≤ 4096 ∧ mayID a i = true
      · by_cases hy : 1 ≤ retry2 ∧ retry2 ≤ 4096 ∧ mayID bb j = true
        · exact one_good A n c u1 u2 u3 u4 retry u6 u7 u8 u9 u10 u11 u12 u13 u14 u15 u16 (.slice A' n' c') z1 z2 z3 z4 retry2 z6 z7 z8 z9 z10 z11 z12 z13 z14 z15 z16 a i bb j a4 a5 w seeds (by omega) hr hl hab hx.1 hx.2.1 hx.2.2 hy.1 hy.2.1 hy.2.2
        · exact one_badD A n c u1 u2 u3 u4 retry u6 u7 u8 u9 u10 u11 u12 u13 u14 u15 u16 (.slice A' n' c') z1 z2 z3 z4 retry2 z6 z7 z8 z9 z10 z11 z12 z13 z14 z15 z16 a i bb j a4 a5 w seeds (by omega) hr hl hab hx.1 hx.2.1 hx.2.2 hy
      · exact one_badC A n c u1 u2 u3 u4 retry u6 u7 u8 u9 u10 u11 u12 u13 u14 u15 u16 (.slice A' n' c') z1 z2 z3 z4 retry2 z6 z7 z8 z9 z10 z11 z12 z13 z14 z15 z16 a i bb j a4 a5 w seeds (by omega) hr hl hab hx
end Go.Proofs.Ytlnflbobcbnhhaa
