/-
  EntryWhom.
-/
import Derived.Test.YtlnflbobcbnhhaaEntF
namespace Go.Proofs.Ytlnflbobcbnhhaa
open Go.RowKit

theorem boxes {w W : World} {cs ds : Array Value} {t u : TypeId} (hW : (w.alloc (.cells cs t)).alloc (.cells ds u) = W) :
    Blk W w.heap.size t cs ∧ Blk W (w.heap.size + 1) u ds ∧ Below w.heap.size w W ∧ W.heap.size = w.heap.size + 2 := by
  subst hW
  refine ⟨(Blk.new _ _ _).alloc _, ?_, ((Below.refl _ _).alloc (Nat.le_refl _) _).alloc (by simp) _, by simp⟩
  have := Blk.new (w.alloc (.cells cs t)) u ds
  rw [World.size_alloc] at this
  exact this
theorem Blk.below {w w' : World} {g : Nat} {t : TypeId} {cs : Array Value} (h : Blk w g t cs) (hb : Below w.heap.size w w') : Blk w' g t cs :=
  h.keep (Keep.of_below hb) (fun e => by have := h.lt; omega)

set_option maxRecDepth 100000 in
set_option maxHeartbeats 2000000 in
theorem whom_far (A : Option Addr) (n c : Nat) (v1 v2 v3 v4 : Value) (retry : Int) (v6 v7 v8 v9 v10 v11 v12 v13 v14 v15 v16 : Value) (a i addr : Int) (w : World) (hn : 200 < n) (hm : n ≤ maxLen) :
    Calls Try.prog 3 #[cfgV (.slice A n c) v1 v2 v3 v4 retry v6 v7 v8 v9 v10 v11 v12 v13 v14 v15 v16, .agg #[.int .i64 a, .int .i64 i], .int .i64 addr] w fun e w' => e = .returned (.bool true) ∧ Below w.heap.size w w' := by
  have hm' : (n : Int) ≤ 9223372036854775807 := by simp [maxLen] at hm; omega
  go_enter Try.func3, Try.ntmps3
  go_wp2_with fail
  generalize hW : (w.alloc _).alloc _ = W
  obtain ⟨hC, hI, hO, hsz⟩ := boxes hW
  clear hW
  refine (works_any W).mono ?_
  rintro e w1 ⟨rfl, hb⟩
  have p0 := (hC.below hb).cell 0
  simp at p0
  have HB := Lib.hid (hO.trans (hb.mono (by omega)))
  clear hC hI hO hb
  go_wp2_with fail
  refine (works_any w1).mono ?_
  rintro e w2 ⟨rfl, hb⟩
  go_wp2
  go_ret
  exact ⟨rfl, HB.out.trans (hb.mono HB.out.size)⟩

set_option maxRecDepth 100000 in
set_option maxHeartbeats 2000000 in
theorem whom_bad (A : Option Addr) (n c : Nat) (v1 v2 v3 v4 : Value) (retry : Int) (v6 v7 v8 v9 v10 v11 v12 v13 v14 v15 v16 : Value) (a i addr : Int) (w : World) (hn : n ≤ 200) (hx : ¬ (1 ≤ retry ∧ retry ≤ 4096 ∧ mayID a i = true)) :
    Calls Try.prog 3 #[cfgV (.slice A n c) v1 v2 v3 v4 retry v6 v7 v8 v9 v10 v11 v12 v13 v14 v15 v16, .agg #[.int .i64 a, .int .i64 i], .int .i64 addr] w fun e w' => e = .returned (.bool true) ∧ Below w.heap.size w w' := by
  go_enter Try.func3, Try.ntmps3
  go_wp2_with fail
  generalize hW : (w.alloc _).alloc _ = W
  obtain ⟨hC, hI, hO, hsz⟩ := boxes hW
  clear hW
  refine (works_any W).mono ?_
  rintro e w1 ⟨rfl, hb⟩
  have hC1 := hC.below hb
  have hI1 := hI.below hb
  have p0 := hC1.cell 0
  have p1 := hC1.cell 1
  have p2 := hC1.cell 2
  have p3 := hC1.cell 3
  have p4 := hC1.cell 4
  have p5 := hC1.cell 5
  have p6 := hC1.cell 6
  have p7 := hC1.cell 7
  have p8 := hC1.cell 8
  have p9 := hC1.cell 9
  have p10 := hC1.cell 10
  have p11 := hC1.cell 11
  have p12 := hC1.cell 12
  have p13 := hC1.cell 13
  have p14 := hC1.cell 14
  have p15 := hC1.cell 15
  have p16 := hC1.cell 16
  have q0 := hI1.cell 0
  have q1 := hI1.cell 1
  simp at p0 p1 p2 p3 p4 p5 p6 p7 p8 p9 p10 p11 p12 p13 p14 p15 p16 q0 q1
  have HB := Lib.hid (hO.trans (hb.mono (by omega)))
  clear hC hI hO hb hC1 hI1
  go_wp2_with fail
  refine (new_bad _ _ _ _ _ retry _ _ _ _ _ _ _ _ _ _ _ a i w1 hx).mono ?_
  rintro e w2 ⟨rfl, hb⟩
  go_wp2
  go_ret
  exact ⟨rfl, HB.out.trans (hb.mono HB.out.size)⟩
/-- what asked tells of an address -/
theorem asked_snoc (own : Int) (l : List Int) (s : Int) : asked own (l ++ [s]) = askOne own (asked own l) s := by unfold asked; rw [List.foldl_append]; rfl
theorem asked_count (own a : Int) (k : Nat) (l : List Int) (hk : l.length = k) : (asked own l).count a = if a ∈ l ∧ 1 ≤ a ∧ a ≤ 12 ∧ a ≠ own then 1 else 0 := by
  induction k generalizing l with
  | zero => obtain rfl := List.eq_nil_of_length_eq_zero hk; simp [asked]
  | succ k ih =>
    obtain ⟨l', s, rfl⟩ : ∃ l' s, l = l' ++ [s] := ⟨l.dropLast, l.getLast (by intro e; subst e; simp at hk), (List.dropLast_concat_getLast _).symm⟩
    have hk' : l'.length = k := by simpa using hk
    have h := ih l' hk'
    have hs := ih l'
    rw [asked_snoc]
    unfold askOne
    by_cases hc : s < 1 ∨ 12 < s ∨ s = own ∨ s ∈ asked own l'
    · rw [if_pos hc, h]
      by_cases e : a = s
      · subst e
        rcases hc with hc | hc | hc | hc
        · rw [if_neg (by omega), if_neg (by omega)]
        · rw [if_neg (by omega), if_neg (by omega)]
        · rw [if_neg (fun x => x.2.2.2 hc), if_neg (fun x => x.2.2.2 hc)]
        · have hpos : 0 < (asked own l').count a := List.count_pos_iff.2 hc
          rw [h] at hpos
          by_cases hq : a ∈ l' ∧ 1 ≤ a ∧ a ≤ 12 ∧ a ≠ own
          · rw [if_pos hq, if_pos ⟨by simp, hq.2⟩]
          · rw [if_neg hq] at hpos; omega
      · simp [e]
    · rw [if_neg hc]
      simp only [not_or] at hc
      rw [List.count_append, h]
      by_cases e : a = s
      · subst e
        have h0 : (asked own l').count a = 0 := List.count_eq_zero.2 hc.2.2.2
        rw [h] at h0
        rw [h0, if_pos ⟨by simp, by omega, by omega, hc.2.2.1⟩]
        simp
      · have e2 : s ≠ a := fun x => e x.symm
        simp [e, e2]
theorem asked_ne (own : Int) (l : List Int) : ∀ a ∈ asked own l, a ≠ own := by
  intro a ha e
  have h := List.count_pos_iff.2 ha
  rw [asked_count own a _ l rfl, if_neg (fun x => x.2.2.2 e)] at h
  omega
theorem newE_asks {seeds : List Int} {retry own : Int} : (newE seeds retry own).asks = asked own seeds := by
  show (if (min ((0 : Int) + 1) 1099511627776 - 1) % retry = 0 then asked own seeds else []) = _
  rw [show min ((0 : Int) + 1) 1099511627776 - 1 = 0 from by decide]
  simp
theorem below_drewN {B : Nat} {a w : World} (h : Below B a w) (n : Nat) : Below B a (w.drewN n) := ⟨h.os, h.tape, h.output, h.size, h.block⟩
theorem take_count {l : List Int} {k : Nat} (h : k < l.length) (a : Int) : (l.take (k + 1)).count a = (l.take k).count a + if l.getD k 0 = a then 1 else 0 := by
  rw [List.take_succ_eq_append_getElem h, List.count_append]
  by_cases e : l[k] = a
  · simp [List.getD, h, e]
  · simp [List.getD, h, e]
theorem take_mem {l : List Int} {k : Nat} (h : k < l.length) (a : Int) : decide (a ∈ l.take (k + 1)) = (decide (a ∈ l.take k) || (l.getD k 0 == a)) := by
  have hg : l.getD k 0 = l[k] := by simp [List.getD, h]
  rw [Bool.eq_iff_iff, List.take_succ_eq_append_getElem h, hg]
  simp only [decide_eq_true_eq, List.mem_append, List.mem_singleton, Bool.or_eq_true, beq_iff_eq]
  constructor
  · rintro (h | h)
    · exact .inl h
    · exact .inr h.symm
  · rintro (h | h)
    · exact .inl h
    · exact .inr h.symm

set_option maxRecDepth 100000 in
set_option maxHeartbeats 4000000 in
theorem whom_good (A : Option Addr) (n c : Nat) (seeds : List Int) (v1 v2 v3 v4 : Value) (retry : Int) (v6 v7 v8 v9 v10 v11 v12 v13 v14 v15 v16 : Value) (a i addr : Int) (w : World) (hn : n ≤ 200) (hr : Rd w A n (seeds.map (.int .i64))) (hl : seeds.length = n)
    (h1 : 1 ≤ retry) (h2 : retry ≤ 4096) (h3 : mayID a i = true) :
    Calls Try.prog 3 #[cfgV (.slice A n c) v1 v2 v3 v4 retry v6 v7 v8 v9 v10 v11 v12 v13 v14 v15 v16, .agg #[.int .i64 a, .int .i64 i], .int .i64 addr] w fun e w' => e = .returned (.bool true) ∧ Below w.heap.size w w' := by
  go_enter Try.func3, Try.ntmps3
  go_wp2_with fail
  generalize hW : (w.alloc _).alloc _ = W
  obtain ⟨hC, hI, hO, hsz⟩ := boxes hW
  clear hW
  refine (works_any W).mono ?_
  rintro e w1 ⟨rfl, hb⟩
  have hC1 := hC.below hb
  have hI1 := hI.below hb
  have p0 := hC1.cell 0
  have p1 := hC1.cell 1
  have p2 := hC1.cell 2
  have p3 := hC1.cell 3
  have p4 := hC1.cell 4
  have p5 := hC1.cell 5
  have p6 := hC1.cell 6
  have p7 := hC1.cell 7
  have p8 := hC1.cell 8
  have p9 := hC1.cell 9
  have p10 := hC1.cell 10
  have p11 := hC1.cell 11
  have p12 := hC1.cell 12
  have p13 := hC1.cell 13
  have p14 := hC1.cell 14
  have p15 := hC1.cell 15
  have p16 := hC1.cell 16
  have q0 := hI1.cell 0
  have q1 := hI1.cell 1
  simp at p0 p1 p2 p3 p4 p5 p6 p7 p8 p9 p10 p11 p12 p13 p14 p15 p16 q0 q1
  have HB := Lib.hid (hO.trans (hb.mono (by omega)))
  have hlt1 : w.heap.size + 1 < w1.heap.size := hI1.lt
  have HR := Lib.hid (hr.below HB.out)
  clear hC hI hO hb hC1 hI1 hr hsz
  go_wp2_with fail
  refine (new_ok seeds _ _ _ _ retry _ _ _ _ _ _ _ _ _ _ _ a i w1 h1 h2 h3 HR.out (by omega)).mono ?_
  rintro e w2 ⟨b, row, rfl, hE, hbn, hr, hk⟩
  have hN := EN.made (w0 := w1) (Below.refl _ _) (newE_ok (seeds := seeds) (retry := retry) (own := a) h1 h2 (by omega)) hE hbn hr hk
  have P0 := Lib.hid p0
  have P5 := Lib.hid p5
  have Q0 := Lib.hid q0
  clear p0 p1 p2 p3 p4 p5 p6 p7 p8 p9 p10 p11 p12 p13 p14 p15 p16 q0 q1 hE hbn hr hk
  go_wp2_with fail
  refine (en_tick hN).mono ?_
  clear hN
  rintro e w3 ⟨TA, tc, rfl, ⟨trow, hT⟩, hN3⟩
  rw [newE_asks] at hT ⊢
  have HO3 := Lib.hid hN3.old
  have HCnt := Lib.hid (asked_count a addr _ seeds rfl)
  have HMem := Lib.hid (asked_mem a seeds)
  have HNe := Lib.hid (asked_ne a seeds)
  have HAL := Lib.hid (show (asked a seeds).length ≤ 200 by have := asked_len a seeds seeds.length; rw [List.take_length] at this; omega)
  clear hN3
  generalize asked a seeds = xs at hT HCnt HMem HNe HAL ⊢
  generalize (newE seeds retry a).alone = al
  obtain ⟨m, hm⟩ : ∃ m, m = xs.length := ⟨_, rfl⟩
  rw [← hm] at hT ⊢
  have hm12 : m ≤ 200 := by rw [hm]; exact HAL.out
  have HT := Lib.hid hT
  have HMl := Lib.hid hm
  clear hm hT
  go_wp2
  go_loopw [11, 12] (fun met i wr => ∃ k : Nat, k ≤ m ∧ i = .int .i64 k ∧ met = .int .i64 ((xs.take k).count addr : Nat) ∧ Below w3.heap.size w3 wr) (fun _ i _ => m - (intOf i).toNat)
  case atStart => exact ⟨0, Nat.zero_le _, rfl, rfl, Below.refl _ _⟩
  case round =>
    obtain ⟨k, hk, rfl, rfl, hbk⟩ := hrel
    by_cases hlt : k < m
    · obtain ⟨g, off, v, rfl, _, hv, hcs⟩ := HT.out.at_ hlt
      have hjx : k < xs.length := by rw [← HMl.out]; exact hlt
      have hv2 : v = .int .i64 (xs.getD k 0) := by
        simp [hjx] at hv
        simp [List.getD, hjx, ← hv]
      have hin : xs.getD k 0 ∈ xs := by simp [List.getD, hjx]
      obtain ⟨hx1, hx2⟩ := HMem.out _ hin
      have hx3 : (xs.getD k 0 == a) = false := by have := HNe.out _ hin; simpa using this
      have HTk := Lib.hid (take_count hjx addr)
      rw [hv2] at hcs
      have lg : g < w3.heap.size := World.block_lt_of_cell? w3 _ hcs
      have hc3 := (hbk.cell (p := ⟨g, off + k, none⟩) lg).trans hcs
      have hq3 := (hbk.cell (p := ⟨w.heap.size + 1, 0, none⟩) (by have := HO3.out.size; show w.heap.size + 1 < _; omega)).trans ((HO3.out.cell (p := ⟨w.heap.size + 1, 0, none⟩) hlt1).trans Q0.out)
      have hcl : (xs.take k).count addr ≤ 200 := by have := List.count_le_length (a := addr) (l := xs.take k); have := List.length_take_le k xs; omega
      clear hv hv2 hin hcs
      have HBk := Lib.hid hbk
      clear hbk
      generalize xs.getD k 0 = x at hx1 hx2 hx3 HTk hc3
      generalize (xs.take k).count addr = q at HTk hcl ⊢
      by_cases hxa : x = addr
      · subst hxa
        go_wp2
        go_quiet (fail)
        go_wp2
        go_roundw
        case rel => exact ⟨k + 1, by omega, by go_num, by rw [HTk.out]; simp, below_drewN HBk.out _⟩
        case measure => simp [intOf]; omega
      · have hxe : (x == addr) = false := by simpa using hxa
        go_wp2
        go_quiet (fail)
        go_wp2
        go_roundw
        case rel => exact ⟨k + 1, by omega, by go_num, by rw [HTk.out, if_neg hxa]; rfl, below_drewN HBk.out _⟩
        case measure => simp [intOf]; omega
    · obtain rfl : k = m := by omega
      have hfull : xs.take k = xs := List.take_of_length_le (by rw [← HMl.out]; exact Nat.le_refl _)
      rw [hfull]
      clear hfull
      generalize xs.count addr = cnt at HCnt ⊢
      have hb3 := HO3.out.trans (hbk.mono HO3.out.size)
      clear hbk
      have HRr := Lib.hid (HR.out.below hb3)
      have hp0 := (hb3.cell (p := ⟨w.heap.size, 0, none⟩) (by show w.heap.size < _; omega)).trans P0.out
      have hq0 := (hb3.cell (p := ⟨w.heap.size + 1, 0, none⟩) hlt1).trans Q0.out
      have HB3 := Lib.hid (HB.out.trans (hb3.mono HB.out.size))
      have hlt2 : w.heap.size + 1 < wr.heap.size := Nat.lt_of_lt_of_le hlt1 hb3.size
      have HL := Lib.hid hl
      clear hb3 hl
      go_wp2
      go_loopw [13, 14] (fun sd j wr' => ∃ k : Nat, k ≤ n ∧ j = .int .i64 k ∧ sd = .bool (decide (addr ∈ seeds.take k)) ∧ Below wr.heap.size wr wr') (fun _ j _ => n - (intOf j).toNat)
      case atStart => exact ⟨0, Nat.zero_le _, rfl, by simp, Below.refl _ _⟩
      case round =>
        obtain ⟨k', hk', rfl, rfl, hbk⟩ := hrel
        rename_i wz
        have hp1 := (hbk.cell (p := ⟨w.heap.size, 0, none⟩) (by show w.heap.size < _; omega)).trans hp0
        have hq1 := (hbk.cell (p := ⟨w.heap.size + 1, 0, none⟩) hlt2).trans hq0
        have HBk := Lib.hid hbk
        clear hbk
        by_cases hlt : k' < n
        · obtain ⟨g, off, v, hA, hv, hcs⟩ := HRr.out.2 k' hlt
          have hjx : k' < seeds.length := by rw [HL.out]; exact hlt
          have hv2 : v = .int .i64 (seeds.getD k' 0) := by
            simp [hjx] at hv
            simp [List.getD, hjx, ← hv]
          have HTk := Lib.hid (take_mem hjx addr)
          rw [hv2] at hcs
          have hc3 := (HBk.out.cell (p := ⟨g, off + k', none⟩) (World.block_lt_of_cell? _ _ hcs)).trans hcs
          clear hv hv2 hcs
          subst hA
          generalize seeds.getD k' 0 = x at HTk hc3
          generalize decide (addr ∈ seeds.take k') = q at HTk ⊢
          cases q with
          | true =>
            go_wp2
            go_roundw
            case rel => exact ⟨k' + 1, by omega, by go_num, by rw [HTk.out]; rfl, HBk.out⟩
            case measure => simp [intOf]; omega
          | false =>
            go_wp2
            go_roundw
            case rel => exact ⟨k' + 1, by omega, by go_num, by rw [HTk.out]; rfl, HBk.out⟩
            case measure => simp [intOf]; omega
        · obtain rfl : k' = n := by omega
          have hfull : seeds.take k' = seeds := List.take_of_length_le (by rw [HL.out]; exact Nat.le_refl _)
          rw [hfull]
          clear hfull
          have HB4 := Lib.hid (HB3.out.trans (HBk.out.mono HB3.out.size))
          clear hp0 hq0
          rw [HCnt.out]
          by_cases hs : addr ∈ seeds
          · have hs2 : decide (addr ∈ seeds) = true := decide_eq_true hs
            rw [hs2]
            by_cases g1 : 1 ≤ addr
            · by_cases g2 : addr ≤ 12
              · by_cases g3 : addr = a
                · rw [if_neg (fun z => z.2.2.2 g3)]
                  subst g3
                  clear hs
                  go_wp2
                  go_ret
                  exact ⟨rfl, HB4.out⟩
                · rw [if_pos ⟨hs, g1, g2, g3⟩]
                  have g4 : (addr == a) = false := by simpa using g3
                  clear hs
                  go_wp2
                  go_ret
                  exact ⟨rfl, HB4.out⟩
              · rw [if_neg (fun z => g2 z.2.2.1)]
                clear hs
                go_wp2
                go_ret
                exact ⟨rfl, HB4.out⟩
            · rw [if_neg (fun z => g1 z.2.1)]
              clear hs
              go_wp2
              go_ret
              exact ⟨rfl, HB4.out⟩
          · have hs2 : decide (addr ∈ seeds) = false := decide_eq_false hs
            rw [hs2, if_neg (fun z => hs z.1)]
            clear hs
            go_wp2
            go_ret
            exact ⟨rfl, HB4.out⟩

theorem walkEntryWhom {w : World} (v0 : Value) (w0 : IsCfg w v0) (v1 : Value) (w1 : IsId w v1) (a2 : Int) (_w2 : (Lit.int .i64 a2).wf = true) :
    Calls Try.prog 3 #[v0, v1, .int .i64 a2] w fun e w' => e = .returned (.bool true) ∧ Below w.heap.size w w' := by
  obtain ⟨A, n, c, seeds, u1, u2, u3, u4, retry, u6, u7, u8, u9, u10, u11, u12, u13, u14, u15, u16, rfl, hc, hm, hr, hl, _⟩ := w0
  obtain ⟨a, i, rfl⟩ := w1
  by_cases hn : 200 < n
  · exact whom_far A n c u1 u2 u3 u4 retry u6 u7 u8 u9 u10 u11 u12 u13 u14 u15 u16 a i a2 w hn (by omega)
  · by_cases hx : 1 ≤ retry ∧ retry ≤ 4096 ∧ mayID a i = true
    · exact whom_good A n c seeds u1 u2 u3 u4 retry u6 u7 u8 u9 u10 u11 u12 u13 u14 u15 u16 a i a2 w (by omega) hr hl hx.1 hx.2.1 hx.2.2
    · exact whom_bad A n c u1 u2 u3 u4 retry u6 u7 u8 u9 u10 u11 u12 u13 u14 u15 u16 a i a2 w (by omega) hx
end Go.Proofs.Ytlnflbobcbnhhaa
