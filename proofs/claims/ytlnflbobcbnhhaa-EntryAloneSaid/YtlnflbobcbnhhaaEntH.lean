/-
  EntryAlone.
-/
import Derived.Test.YtlnflbobcbnhhaaEntG
namespace Go.Proofs.Ytlnflbobcbnhhaa
open Go.RowKit

/-- the entry behind k ticks, answered ahead of tick g2+1 -/
def alS (seeds : List Int) (retry a : Int) (k g2 : Nat) : E := ⟨seeds, retry, a, (k : Int), decide (g2 + 1 ≤ k)⟩
def alY (seeds : List Int) (retry a : Int) (k g2 : Nat) : E := ⟨seeds, retry, a, (k : Int), decide (g2 ≤ k)⟩
theorem alS_zero (seeds : List Int) (retry a : Int) (g2 : Nat) : alS seeds retry a 0 g2 = newE seeds retry a := by simp [alS, newE]
theorem alS_hit (seeds : List Int) (retry a : Int) (k : Nat) : (alS seeds retry a k k).answer = alY seeds retry a k k := by simp [alS, alY, E.answer]
theorem alS_miss (seeds : List Int) (retry a : Int) (k g2 : Nat) (h : k ≠ g2) : alS seeds retry a k g2 = alY seeds retry a k g2 := by
  have : decide (g2 + 1 ≤ k) = decide (g2 ≤ k) := by rw [decide_eq_decide]; omega
  simp only [alS, alY, this]
theorem alY_tick (seeds : List Int) (retry a : Int) (k g2 : Nat) (h : k < 10000) : (alY seeds retry a k g2).tick = alS seeds retry a (k + 1) g2 := by
  have h1 : (min ((k : Int) + 1) 1099511627776 : Int) = ((k + 1 : Nat) : Int) := by omega
  have h2 : decide (g2 ≤ k) = decide (g2 + 1 ≤ k + 1) := by rw [decide_eq_decide]; omega
  show (⟨seeds, retry, a, min ((k : Int) + 1) 1099511627776, decide (g2 ≤ k)⟩ : E) = ⟨seeds, retry, a, ((k + 1 : Nat) : Int), decide (g2 + 1 ≤ k + 1)⟩
  rw [h1, h2]
theorem alY_alone (seeds : List Int) (retry a : Int) (k g2 : Nat) (F : Bool) (hF : (newE seeds retry a).first = F) (h : k < 10000 := by omega) : (alY seeds retry a k g2).alone = (F && !(decide (g2 ≤ k)) && decide (2 * retry ≤ (k : Int) + 1)) := by
  have h1 : (min ((k : Int) + 1) 1099511627776 : Int) = (k : Int) + 1 := by omega
  subst hF
  show ((newE seeds retry a).first && !(decide (g2 ≤ k)) && decide (2 * retry ≤ min ((k : Int) + 1) 1099511627776)) = _
  rw [h1]

set_option maxRecDepth 100000 in
set_option maxHeartbeats 2000000 in
theorem alone_far (A : Option Addr) (n c : Nat) (v1 v2 v3 v4 : Value) (retry : Int) (v6 v7 v8 v9 v10 v11 v12 v13 v14 v15 v16 : Value) (a i nn at_ : Int) (w : World) (hn : 200 < n) (hm : n ≤ maxLen) :
    Calls Try.prog 5 #[cfgV (.slice A n c) v1 v2 v3 v4 retry v6 v7 v8 v9 v10 v11 v12 v13 v14 v15 v16, .agg #[.int .i64 a, .int .i64 i], .int .i64 nn, .int .i64 at_] w fun e w' => e = .returned (.bool true) ∧ Below w.heap.size w w' := by
  have hm' : (n : Int) ≤ 9223372036854775807 := by simp [maxLen] at hm; omega
  go_enter Try.func5, Try.ntmps5
  go_wp2_with fail
  generalize hW : (w.alloc _).alloc _ = W
  obtain ⟨hC, hI, hO, hsz⟩ := boxes hW
  clear hW
  refine (works_any W).mono ?_
  rintro e w1 ⟨rfl, hb⟩
  have p0 := (hC.below hb).cell 0
  simp at p0
  have HB := Lib.hid (hO.trans (hb.mono (by omega)))
  clear hC hI hO hb
  go_wp2_with fail
  refine (works_any w1).mono ?_
  rintro e w2 ⟨rfl, hb⟩
  go_wp2
  go_ret
  exact ⟨rfl, HB.out.trans (hb.mono HB.out.size)⟩

set_option maxRecDepth 100000 in
set_option maxHeartbeats 2000000 in
theorem alone_bad (A : Option Addr) (n c : Nat) (v1 v2 v3 v4 : Value) (retry : Int) (v6 v7 v8 v9 v10 v11 v12 v13 v14 v15 v16 : Value) (a i nn at_ : Int) (w : World) (hn : n ≤ 200) (hx : ¬ (1 ≤ retry ∧ retry ≤ 4096 ∧ mayID a i = true)) :
    Calls Try.prog 5 #[cfgV (.slice A n c) v1 v2 v3 v4 retry v6 v7 v8 v9 v10 v11 v12 v13 v14 v15 v16, .agg #[.int .i64 a, .int .i64 i], .int .i64 nn, .int .i64 at_] w fun e w' => e = .returned (.bool true) ∧ Below w.heap.size w w' := by
  go_enter Try.func5, Try.ntmps5
  go_wp2_with fail
  generalize hW : (w.alloc _).alloc _ = W
  obtain ⟨hC, hI, hO, hsz⟩ := boxes hW
  clear hW
  refine (works_any W).mono ?_
  rintro e w1 ⟨rfl, hb⟩
  have hC1 := hC.below hb
  have hI1 := hI.below hb
  have p0 := hC1.cell 0
  have p1 := hC1.cell 1
  have p2 := hC1.cell 2
  have p3 := hC1.cell 3
  have p4 := hC1.cell 4
  have p5 := hC1.cell 5
  have p6 := hC1.cell 6
  have p7 := hC1.cell 7
  have p8 := hC1.cell 8
  have p9 := hC1.cell 9
  have p10 := hC1.cell 10
  have p11 := hC1.cell 11
  have p12 := hC1.cell 12
  have p13 := hC1.cell 13
  have p14 := hC1.cell 14
  have p15 := hC1.cell 15
  have p16 := hC1.cell 16
  have q0 := hI1.cell 0
  have q1 := hI1.cell 1
  simp at p0 p1 p2 p3 p4 p5 p6 p7 p8 p9 p10 p11 p12 p13 p14 p15 p16 q0 q1
  have HB := Lib.hid (hO.trans (hb.mono (by omega)))
  clear hC hI hO hb hC1 hI1
  go_wp2_with fail
  refine (new_bad _ _ _ _ _ retry _ _ _ _ _ _ _ _ _ _ _ a i w1 hx).mono ?_
  rintro e w2 ⟨rfl, hb⟩
  go_wp2
  go_ret
  exact ⟨rfl, HB.out.trans (hb.mono HB.out.size)⟩

set_option maxRecDepth 100000 in
set_option maxHeartbeats 4000000 in
theorem alone_good (A : Option Addr) (n c : Nat) (seeds : List Int) (v1 v2 v3 v4 : Value) (retry : Int) (v6 v7 v8 v9 v10 v11 v12 v13 v14 v15 v16 : Value) (a i nn at_ : Int) (w : World) (hn : n ≤ 200) (hr : Rd w A n (seeds.map (.int .i64))) (hl : seeds.length = n)
    (h1 : 1 ≤ retry) (h2 : retry ≤ 4096) (h3 : mayID a i = true) :
    Calls Try.prog 5 #[cfgV (.slice A n c) v1 v2 v3 v4 retry v6 v7 v8 v9 v10 v11 v12 v13 v14 v15 v16, .agg #[.int .i64 a, .int .i64 i], .int .i64 nn, .int .i64 at_] w fun e w' => e = .returned (.bool true) ∧ Below w.heap.size w w' := by
  go_enter Try.func5, Try.ntmps5
  go_wp2_with fail
  generalize hW : (w.alloc _).alloc _ = W
  obtain ⟨hC, hI, hO, hsz⟩ := boxes hW
  clear hW
  refine (works_any W).mono ?_
  rintro e w1 ⟨rfl, hb⟩
  have hC1 := hC.below hb
  have hI1 := hI.below hb
  have p0 := hC1.cell 0
  have p1 := hC1.cell 1
  have p2 := hC1.cell 2
  have p3 := hC1.cell 3
  have p4 := hC1.cell 4
  have p5 := hC1.cell 5
  have p6 := hC1.cell 6
  have p7 := hC1.cell 7
  have p8 := hC1.cell 8
  have p9 := hC1.cell 9
  have p10 := hC1.cell 10
  have p11 := hC1.cell 11
  have p12 := hC1.cell 12
  have p13 := hC1.cell 13
  have p14 := hC1.cell 14
  have p15 := hC1.cell 15
  have p16 := hC1.cell 16
  have q0 := hI1.cell 0
  have q1 := hI1.cell 1
  simp at p0 p1 p2 p3 p4 p5 p6 p7 p8 p9 p10 p11 p12 p13 p14 p15 p16 q0 q1
  have HB := Lib.hid (hO.trans (hb.mono (by omega)))
  have hlt1 : w.heap.size + 1 < w1.heap.size := hI1.lt
  have HR := Lib.hid (hr.below HB.out)
  clear hC hI hO hb hC1 hI1 hr hsz
  go_wp2_with fail
  refine (new_ok seeds _ _ _ _ retry _ _ _ _ _ _ _ _ _ _ _ a i w1 h1 h2 h3 HR.out (by omega)).mono ?_
  rintro e w2 ⟨b, row, rfl, hE, hbn, hr, hk⟩
  have hN := EN.made (w0 := w1) (Below.refl _ _) (newE_ok (seeds := seeds) (retry := retry) (own := a) h1 h2 (by omega)) hE hbn hr hk
  have P0 := Lib.hid p0
  have P5 := Lib.hid p5
  have Q0 := Lib.hid q0
  clear p0 p1 p2 p3 p4 p5 p6 p7 p8 p9 p10 p11 p12 p13 p14 p15 p16 q0 q1 hE hbn hr hk
  have HO2 := Lib.hid hN.old
  have HN := Lib.hid hN
  clear hN
  have hp0 := (HO2.out.cell (p := ⟨w.heap.size, 0, none⟩) (by show w.heap.size < _; omega)).trans P0.out
  have hq0 := (HO2.out.cell (p := ⟨w.heap.size + 1, 0, none⟩) hlt1).trans Q0.out
  have HRr := Lib.hid (HR.out.below HO2.out)
  obtain ⟨g, hg, hge⟩ := mod_u64 nn 300 (by decide) (by decide)
  obtain ⟨g2, hg2, hge2⟩ := mod_u64 at_ 400 (by decide) (by decide)
  have hgm : g < 300 := by omega
  have hgm2 : g2 < 400 := by omega
  have hF : ∃ F : Bool, (newE seeds retry a).first = F := ⟨_, rfl⟩
  obtain ⟨F, hF⟩ := hF
  have HL := Lib.hid hl
  rcases Nat.eq_zero_or_pos n with hz | hz
  · have hF0 : F = false := by
      rw [← hF]
      have : seeds = [] := List.eq_nil_of_length_eq_zero (by omega)
      rw [this]; rfl
    subst hz
    subst hF0
    have HF := Lib.hid hF
    clear hF hl
    go_wp2
    go_quiet (fail)
    go_wp2
    go_loopw [12] (fun i wr => ∃ k : Nat, k ≤ g ∧ i = .int .i64 ((k : Int) + 1) ∧ EN w1 b (alS seeds retry a k g2) wr) (fun i _ => g + 1 - (intOf i).toNat)
    case atStart => exact ⟨0, Nat.zero_le _, rfl, by rw [alS_zero]; exact HN.out.keep0 ((Keep.refl (fun _ => False) w2).drewN _)⟩
    case round =>
      obtain ⟨k, hk, rfl, hE⟩ := hrel
      by_cases hlt : k < g
      · by_cases hk2 : k = g2
        · subst hk2
          go_wp2_with fail
          refine (en_answered hE).mono ?_
          clear hE
          rintro e wa ⟨rfl, hEa⟩
          rw [alS_hit] at hEa
          go_wp2_with fail
          refine (en_tick hEa).mono ?_
          clear hEa
          rintro e wb ⟨TA, tc, rfl, _, hN4⟩
          rw [alY_tick _ _ _ _ _ (by omega)] at hN4
          have hp5 := (hN4.old.cell (p := ⟨w.heap.size, 5, none⟩) (by show w.heap.size < _; omega)).trans P5.out
          have hal := alY_alone seeds retry a k k false HF.out
          simp only [Nat.le_refl, decide_true, Bool.not_true, Bool.and_false, Bool.false_and] at hal
          rw [hal]
          have H4 := Lib.hid hN4
          clear hN4 hal
          by_cases hr2 : 2 * retry ≤ (k : Int) + 1
          · go_wp2
            go_roundw
            case rel => exact ⟨k + 1, by omega, congrArg (Value.int .i64) (by omega), H4.out⟩
            case measure => simp [intOf]; omega
          · go_wp2
            go_roundw
            case rel => exact ⟨k + 1, by omega, congrArg (Value.int .i64) (by omega), H4.out⟩
            case measure => simp [intOf]; omega
        · rw [alS_miss _ _ _ _ _ hk2] at hE
          go_wp2_with fail
          refine (en_tick hE).mono ?_
          clear hE
          rintro e wb ⟨TA, tc, rfl, _, hN4⟩
          rw [alY_tick _ _ _ _ _ (by omega)] at hN4
          have hp5 := (hN4.old.cell (p := ⟨w.heap.size, 5, none⟩) (by show w.heap.size < _; omega)).trans P5.out
          have hal := alY_alone seeds retry a k g2 false HF.out
          have H4 := Lib.hid hN4
          clear hN4
          by_cases hr2 : 2 * retry ≤ (k : Int) + 1
          · by_cases hk3 : g2 ≤ k
            · simp only [hr2, hk3, decide_true, Bool.not_true, Bool.and_false, Bool.false_and] at hal
              rw [hal]
              clear hal
              have hd3 : decide ((k : Int) + 1 < 1 + (g2 : Int)) = false := decide_eq_false (by omega)
              go_wp2
              go_roundw
              case rel => exact ⟨k + 1, by omega, congrArg (Value.int .i64) (by omega), H4.out⟩
              case measure => simp [intOf]; omega
            · simp only [hr2, hk3, decide_true, decide_false, Bool.not_false, Bool.and_true] at hal
              rw [hal]
              clear hal
              have hd3 : decide ((k : Int) + 1 < 1 + (g2 : Int)) = true := decide_eq_true (by omega)
              go_wp2
              go_roundw
              case rel => exact ⟨k + 1, by omega, congrArg (Value.int .i64) (by omega), H4.out⟩
              case measure => simp [intOf]; omega
          · simp only [hr2, decide_false, Bool.and_false] at hal
            rw [hal]
            clear hal
            go_wp2
            go_roundw
            case rel => exact ⟨k + 1, by omega, congrArg (Value.int .i64) (by omega), H4.out⟩
            case measure => simp [intOf]; omega
      · obtain rfl : k = g := by omega
        go_wp2
        go_ret
        exact ⟨rfl, HB.out.trans (hE.old.mono HB.out.size)⟩
  · obtain ⟨gb, off, v, hA, hv, hcs⟩ := HRr.out.2 0 hz
    have hjx : 0 < seeds.length := by omega
    have hv2 : v = .int .i64 (seeds.getD 0 0) := by
      simp [hjx] at hv
      simp [List.getD, hjx, ← hv]
    rw [hv2, Nat.add_zero] at hcs
    subst hA
    have hF1 : F = (seeds.getD 0 0 == a) := by
      rw [← hF]
      cases seeds with
      | nil => simp at hjx
      | cons s t =>
        show decide (s = a) = (s == a)
        rw [Bool.eq_iff_iff]
        simp
    have HF := Lib.hid hF
    clear hF hl hv hv2
    generalize seeds.getD 0 0 = s0 at hcs hF1
    have hF2 := hF1.symm
    clear hF1
    go_wp2
    go_quiet (fail)
    go_wp2
    go_loopw [12] (fun i wr => ∃ k : Nat, k ≤ g ∧ i = .int .i64 ((k : Int) + 1) ∧ EN w1 b (alS seeds retry a k g2) wr) (fun i _ => g + 1 - (intOf i).toNat)
    case atStart => exact ⟨0, Nat.zero_le _, rfl, by rw [alS_zero]; exact HN.out.keep0 ((Keep.refl (fun _ => False) w2).drewN _)⟩
    case round =>
      obtain ⟨k, hk, rfl, hE⟩ := hrel
      by_cases hlt : k < g
      · by_cases hk2 : k = g2
        · subst hk2
          go_wp2_with fail
          refine (en_answered hE).mono ?_
          clear hE
          rintro e wa ⟨rfl, hEa⟩
          rw [alS_hit] at hEa
          go_wp2_with fail
          refine (en_tick hEa).mono ?_
          clear hEa
          rintro e wb ⟨TA, tc, rfl, _, hN4⟩
          rw [alY_tick _ _ _ _ _ (by omega)] at hN4
          have hp5 := (hN4.old.cell (p := ⟨w.heap.size, 5, none⟩) (by show w.heap.size < _; omega)).trans P5.out
          have hal := alY_alone seeds retry a k k F HF.out
          simp only [Nat.le_refl, decide_true, Bool.not_true, Bool.and_false, Bool.false_and] at hal
          rw [hal]
          have H4 := Lib.hid hN4
          clear hN4 hal
          by_cases hr2 : 2 * retry ≤ (k : Int) + 1
          · cases F with
            | true =>
              go_wp2
              go_roundw
              case rel => exact ⟨k + 1, by omega, congrArg (Value.int .i64) (by omega), H4.out⟩
              case measure => simp [intOf]; omega
            | false =>
              go_wp2
              go_roundw
              case rel => exact ⟨k + 1, by omega, congrArg (Value.int .i64) (by omega), H4.out⟩
              case measure => simp [intOf]; omega
          · cases F with
            | true =>
              go_wp2
              go_roundw
              case rel => exact ⟨k + 1, by omega, congrArg (Value.int .i64) (by omega), H4.out⟩
              case measure => simp [intOf]; omega
            | false =>
              go_wp2
              go_roundw
              case rel => exact ⟨k + 1, by omega, congrArg (Value.int .i64) (by omega), H4.out⟩
              case measure => simp [intOf]; omega
        · rw [alS_miss _ _ _ _ _ hk2] at hE
          go_wp2_with fail
          refine (en_tick hE).mono ?_
          clear hE
          rintro e wb ⟨TA, tc, rfl, _, hN4⟩
          rw [alY_tick _ _ _ _ _ (by omega)] at hN4
          have hp5 := (hN4.old.cell (p := ⟨w.heap.size, 5, none⟩) (by show w.heap.size < _; omega)).trans P5.out
          have hal := alY_alone seeds retry a k g2 F HF.out
          have H4 := Lib.hid hN4
          clear hN4
          by_cases hr2 : 2 * retry ≤ (k : Int) + 1
          · by_cases hk3 : g2 ≤ k
            · simp only [hr2, hk3, decide_true, Bool.not_true, Bool.and_false, Bool.false_and] at hal
              rw [hal]
              clear hal
              have hd3 : decide ((k : Int) + 1 < 1 + (g2 : Int)) = false := decide_eq_false (by omega)
              cases F with
              | true =>
                go_wp2
                go_roundw
                case rel => exact ⟨k + 1, by omega, congrArg (Value.int .i64) (by omega), H4.out⟩
                case measure => simp [intOf]; omega
              | false =>
                go_wp2
                go_roundw
                case rel => exact ⟨k + 1, by omega, congrArg (Value.int .i64) (by omega), H4.out⟩
                case measure => simp [intOf]; omega
            · simp only [hr2, hk3, decide_true, decide_false, Bool.not_false, Bool.and_true] at hal
              rw [hal]
              clear hal
              have hd3 : decide ((k : Int) + 1 < 1 + (g2 : Int)) = true := decide_eq_true (by omega)
              cases F with
              | true =>
                go_wp2
                go_roundw
                case rel => exact ⟨k + 1, by omega, congrArg (Value.int .i64) (by omega), H4.out⟩
                case measure => simp [intOf]; omega
              | false =>
                go_wp2
                go_roundw
                case rel => exact ⟨k + 1, by omega, congrArg (Value.int .i64) (by omega), H4.out⟩
                case measure => simp [intOf]; omega
          · simp only [hr2, decide_false, Bool.and_false] at hal
            rw [hal]
            clear hal
            cases F with
            | true =>
              go_wp2
              go_roundw
              case rel => exact ⟨k + 1, by omega, congrArg (Value.int .i64) (by omega), H4.out⟩
              case measure => simp [intOf]; omega
            | false =>
              go_wp2
              go_roundw
              case rel => exact ⟨k + 1, by omega, congrArg (Value.int .i64) (by omega), H4.out⟩
              case measure => simp [intOf]; omega
      · obtain rfl : k = g := by omega
        go_wp2
        go_ret
        exact ⟨rfl, HB.out.trans (hE.old.mono HB.out.size)⟩

theorem walkEntryAlone {w : World} (v0 : Value) (w0 : IsCfg w v0) (v1 : Value) (w1 : IsId w v1) (a2 : Int) (_w2 : (Lit.int .i64 a2).wf = true) (a3 : Int) (_w3 : (Lit.int .i64 a3).wf = true) :
    Calls Try.prog 5 #[v0, v1, .int .i64 a2, .int .i64 a3] w fun e w' => e = .returned (.bool true) ∧ Below w.heap.size w w' := by
  obtain ⟨A, n, c, seeds, u1, u2, u3, u4, retry, u6, u7, u8, u9, u10, u11, u12, u13, u14, u15, u16, rfl, hc, hm, hr, hl, _⟩ := w0
  obtain ⟨a, i, rfl⟩ := w1
  by_cases hn : 200 < n
  · exact alone_far A n c u1 u2 u3 u4 retry u6 u7 u8 u9 u10 u11 u12 u13 u14 u15 u16 a i a2 a3 w hn (by omega)
  · by_cases hx : 1 ≤ retry ∧ retry ≤ 4096 ∧ mayID a i = true
    · exact alone_good A n c seeds u1 u2 u3 u4 retry u6 u7 u8 u9 u10 u11 u12 u13 u14 u15 u16 a i a2 a3 w (by omega) hr hl hx.1 hx.2.1 hx.2.2
    · exact alone_bad A n c u1 u2 u3 u4 retry u6 u7 u8 u9 u10 u11 u12 u13 u14 u15 u16 a i a2 a3 w (by omega) hx
end Go.Proofs.Ytlnflbobcbnhhaa
