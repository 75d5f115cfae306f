/-
  EntryTime.
-/
import Derived.Test.YtlnflbobcbnhhaaEntG
namespace Go.Proofs.Ytlnflbobcbnhhaa
open Go.RowKit

theorem ints_true {A B : Option Addr} {n c c' : Nat} {xs : List Int} (w : World) (hA : Rd w A n (xs.map (.int .i64))) (hB : Rd w B n (xs.map (.int .i64))) (hn : n ≤ 100000) :
    Calls Try.prog 13 #[.slice A n c, .slice B n c'] w fun e w' => e = .returned (.bool true) ∧ Keep (fun _ => False) w w' := by
  have HA := Lib.hid hA
  have HB := Lib.hid hB
  clear hA hB
  go_enter Try.func13, Try.ntmps13
  go_wp2
  go_loopw [5] (fun i wr => ∃ k : Nat, k ≤ n ∧ i = .int .i64 k ∧ Keep (fun _ => False) w wr) (fun i _ => n - (intOf i).toNat)
  case atStart => exact ⟨0, Nat.zero_le _, rfl, Keep.refl _ _⟩
  case round =>
    obtain ⟨k, hk, rfl, hK⟩ := hrel
    by_cases hlt : k < n
    · obtain ⟨g, off, v, rfl, hv, hc⟩ := HA.out.2 k hlt
      obtain ⟨g', off', v', rfl, hv', hc'⟩ := HB.out.2 k hlt
      have hjx : k < xs.length := by have := HA.out.1; simp at this; omega
      have h1 : v = .int .i64 (xs.getD k 0) := by
        simp [hjx] at hv
        simp [List.getD, hjx, ← hv]
      have h2 : v' = .int .i64 (xs.getD k 0) := by
        simp [hjx] at hv'
        simp [List.getD, hjx, ← hv']
      subst h1 h2
      have q1 := hK.cell hc (fun h => h)
      have q2 := hK.cell hc' (fun h => h)
      have HK := Lib.hid hK
      clear hv hv' hc hc' hK
      generalize xs.getD k 0 = x at q1 q2
      go_wp2
      go_quiet (fail)
      go_wp2
      go_roundw
      case rel => exact ⟨k + 1, by omega, by go_num, HK.out.drewN _⟩
      case measure => simp [intOf]; omega
    · obtain rfl : k = n := by omega
      go_wp2
      go_ret
      exact ⟨rfl, hK⟩

/-- numbers in a block other than b -/
def Fst (b : Nat) (w : World) (A : Option Addr) (c : Nat) (xs : List Int) : Prop := ∃ row, Sl w 3 row A xs.length c (xs.map (.int .i64)) ∧ ∀ g, row = some g → g ≠ b
theorem Fst.keep {b c : Nat} {w w' : World} {A : Option Addr} {xs : List Int} (h : Fst b w A c xs) (hk : Keep (fun k => k = b) w w') : Fst b w' A c xs := by
  obtain ⟨row, h, hn⟩ := h
  exact ⟨row, h.keep hk (fun g hg e => hn g hg e), hn⟩
theorem en_tick2 {w0 w : World} {b : Nat} {x : E} (h : EN w0 b x w) :
    Calls Try.prog 10 #[.pointer (some ⟨b, 0, none⟩)] w fun e w' => ∃ A c, e = .returned (.tuple #[.slice A x.asks.length c, .bool x.alone]) ∧ Fst b w' A c x.asks ∧ EN w0 b x.tick w' ∧ Keep (fun k => k = b) w w' := by
  obtain ⟨row, h⟩ := h
  have hlt : b < w.heap.size := by obtain ⟨A, n, c, hb, _⟩ := h.has; exact hb.lt
  refine (tick_any w h.has h.ok).mono ?_
  rintro e w' ⟨row', A, c, rfl, hs, hr, hE, hK⟩
  exact ⟨A, c, rfl, ⟨row', hs, fun g hg e => by have := hr g hg; omega⟩, EN.turn h h.ok.tick hE hK, hK⟩
def FsOk (k b : Nat) (wr : World) (xs : List Int) (fs : Value) : Prop := 0 < k → ∃ FA fc, fs = .slice FA xs.length fc ∧ Fst b wr FA fc xs
def tS (seeds : List Int) (retry a : Int) (k : Nat) : E := ⟨seeds, retry, a, (k : Int), false⟩
theorem tS_zero (seeds : List Int) (retry a : Int) : tS seeds retry a 0 = newE seeds retry a := by simp [tS, newE]
theorem tS_tick (seeds : List Int) (retry a : Int) (k : Nat) (h : k < 10000) : (tS seeds retry a k).tick = tS seeds retry a (k + 1) := by
  have h1 : (min ((k : Int) + 1) 1099511627776 : Int) = ((k + 1 : Nat) : Int) := by omega
  show (⟨seeds, retry, a, min ((k : Int) + 1) 1099511627776, false⟩ : E) = ⟨seeds, retry, a, ((k + 1 : Nat) : Int), false⟩
  rw [h1]
theorem tS_asks (seeds : List Int) (retry a : Int) (k : Nat) (h : k < 10000) : (tS seeds retry a k).asks = if (k : Int) % retry = 0 then asked a seeds else [] := by
  have h1 : (min ((k : Int) + 1) 1099511627776 : Int) - 1 = (k : Int) := by omega
  show (if (min ((k : Int) + 1) 1099511627776 - 1) % retry = 0 then asked a seeds else []) = _
  rw [h1]

set_option maxRecDepth 100000 in
set_option maxHeartbeats 2000000 in
theorem time_far (A : Option Addr) (n c : Nat) (v1 v2 v3 v4 : Value) (retry : Int) (v6 v7 v8 v9 v10 v11 v12 v13 v14 v15 v16 : Value) (a i nn : Int) (w : World) (hn : 200 < n) (hm : n ≤ maxLen) :
    Calls Try.prog 6 #[cfgV (.slice A n c) v1 v2 v3 v4 retry v6 v7 v8 v9 v10 v11 v12 v13 v14 v15 v16, .agg #[.int .i64 a, .int .i64 i], .int .i64 nn] w fun e w' => e = .returned (.bool true) ∧ Below w.heap.size w w' := by
  have hm' : (n : Int) ≤ 9223372036854775807 := by simp [maxLen] at hm; omega
  go_enter Try.func6, Try.ntmps6
  go_wp2_with fail
  generalize hW : (w.alloc _).alloc _ = W
  obtain ⟨hC, hI, hO, hsz⟩ := boxes hW
  clear hW
  refine (works_any W).mono ?_
  rintro e w1 ⟨rfl, hb⟩
  have p0 := (hC.below hb).cell 0
  simp at p0
  have HB := Lib.hid (hO.trans (hb.mono (by omega)))
  clear hC hI hO hb
  go_wp2_with fail
  refine (works_any w1).mono ?_
  rintro e w2 ⟨rfl, hb⟩
  go_wp2
  go_ret
  exact ⟨rfl, HB.out.trans (hb.mono HB.out.size)⟩

set_option maxRecDepth 100000 in
set_option maxHeartbeats 2000000 in
theorem time_bad (A : Option Addr) (n c : Nat) (v1 v2 v3 v4 : Value) (retry : Int) (v6 v7 v8 v9 v10 v11 v12 v13 v14 v15 v16 : Value) (a i nn : Int) (w : World) (hn : n ≤ 200) (hx : ¬ (1 ≤ retry ∧ retry ≤ 4096 ∧ mayID a i = true)) :
    Calls Try.prog 6 #[cfgV (.slice A n c) v1 v2 v3 v4 retry v6 v7 v8 v9 v10 v11 v12 v13 v14 v15 v16, .agg #[.int .i64 a, .int .i64 i], .int .i64 nn] w fun e w' => e = .returned (.bool true) ∧ Below w.heap.size w w' := by
  go_enter Try.func6, Try.ntmps6
  go_wp2_with fail
  generalize hW : (w.alloc _).alloc _ = W
  obtain ⟨hC, hI, hO, hsz⟩ := boxes hW
  clear hW
  refine (works_any W).mono ?_
  rintro e w1 ⟨rfl, hb⟩
  have hC1 := hC.below hb
  have hI1 := hI.below hb
  have p0 := hC1.cell 0
  have p1 := hC1.cell 1
  have p2 := hC1.cell 2
  have p3 := hC1.cell 3
  have p4 := hC1.cell 4
  have p5 := hC1.cell 5
  have p6 := hC1.cell 6
  have p7 := hC1.cell 7
  have p8 := hC1.cell 8
  have p9 := hC1.cell 9
  have p10 := hC1.cell 10
  have p11 := hC1.cell 11
  have p12 := hC1.cell 12
  have p13 := hC1.cell 13
  have p14 := hC1.cell 14
  have p15 := hC1.cell 15
  have p16 := hC1.cell 16
  have q0 := hI1.cell 0
  have q1 := hI1.cell 1
  simp at p0 p1 p2 p3 p4 p5 p6 p7 p8 p9 p10 p11 p12 p13 p14 p15 p16 q0 q1
  have HB := Lib.hid (hO.trans (hb.mono (by omega)))
  clear hC hI hO hb hC1 hI1
  go_wp2_with fail
  refine (new_bad _ _ _ _ _ retry _ _ _ _ _ _ _ _ _ _ _ a i w1 hx).mono ?_
  rintro e w2 ⟨rfl, hb⟩
  go_wp2
  go_ret
  exact ⟨rfl, HB.out.trans (hb.mono HB.out.size)⟩

set_option maxRecDepth 100000 in
set_option maxHeartbeats 4000000 in
theorem time_good (A : Option Addr) (n c : Nat) (seeds : List Int) (v1 v2 v3 v4 : Value) (retry : Int) (v6 v7 v8 v9 v10 v11 v12 v13 v14 v15 v16 : Value) (a i nn : Int) (w : World) (hn : n ≤ 200) (hr : Rd w A n (seeds.map (.int .i64))) (hl : seeds.length = n)
    (h1 : 1 ≤ retry) (h2 : retry ≤ 4096) (h3 : mayID a i = true) :
    Calls Try.prog 6 #[cfgV (.slice A n c) v1 v2 v3 v4 retry v6 v7 v8 v9 v10 v11 v12 v13 v14 v15 v16, .agg #[.int .i64 a, .int .i64 i], .int .i64 nn] w fun e w' => e = .returned (.bool true) ∧ Below w.heap.size w w' := by
  go_enter Try.func6, Try.ntmps6
  go_wp2_with fail
  generalize hW : (w.alloc _).alloc _ = W
  obtain ⟨hC, hI, hO, hsz⟩ := boxes hW
  clear hW
  refine (works_any W).mono ?_
  rintro e w1 ⟨rfl, hb⟩
  have hC1 := hC.below hb
  have hI1 := hI.below hb
  have p0 := hC1.cell 0
  have p1 := hC1.cell 1
  have p2 := hC1.cell 2
  have p3 := hC1.cell 3
  have p4 := hC1.cell 4
  have p5 := hC1.cell 5
  have p6 := hC1.cell 6
  have p7 := hC1.cell 7
  have p8 := hC1.cell 8
  have p9 := hC1.cell 9
  have p10 := hC1.cell 10
  have p11 := hC1.cell 11
  have p12 := hC1.cell 12
  have p13 := hC1.cell 13
  have p14 := hC1.cell 14
  have p15 := hC1.cell 15
  have p16 := hC1.cell 16
  have q0 := hI1.cell 0
  have q1 := hI1.cell 1
  simp at p0 p1 p2 p3 p4 p5 p6 p7 p8 p9 p10 p11 p12 p13 p14 p15 p16 q0 q1
  have HB := Lib.hid (hO.trans (hb.mono (by omega)))
  have hlt1 : w.heap.size + 1 < w1.heap.size := hI1.lt
  have HR := Lib.hid (hr.below HB.out)
  clear hC hI hO hb hC1 hI1 hr hsz
  go_wp2_with fail
  refine (new_ok seeds _ _ _ _ retry _ _ _ _ _ _ _ _ _ _ _ a i w1 h1 h2 h3 HR.out (by omega)).mono ?_
  rintro e w2 ⟨b, row, rfl, hE, hbn, hr, hk⟩
  have hN := EN.made (w0 := w1) (Below.refl _ _) (newE_ok (seeds := seeds) (retry := retry) (own := a) h1 h2 (by omega)) hE hbn hr hk
  have P0 := Lib.hid p0
  have P5 := Lib.hid p5
  have Q0 := Lib.hid q0
  clear p0 p1 p2 p3 p4 p5 p6 p7 p8 p9 p10 p11 p12 p13 p14 p15 p16 q0 q1 hE hbn hr hk
  have HN := Lib.hid hN
  clear hN
  obtain ⟨g, hg, hge⟩ := mod_u64 nn 300 (by decide) (by decide)
  have hgm : g < 300 := by omega
  obtain ⟨xs, hxs⟩ : ∃ xs, xs = asked a seeds := ⟨_, rfl⟩
  have HXs := Lib.hid hxs
  have HXL := Lib.hid (show xs.length ≤ 200 by have := asked_len a seeds seeds.length; rw [List.take_length] at this; rw [hxs]; omega)
  clear hxs
  go_wp2
  go_loopw [9, 10] (fun fs i wr => ∃ k : Nat, k ≤ g ∧ i = .int .i64 ((k : Int) + 1) ∧ EN w1 b (tS seeds retry a k) wr ∧ FsOk k b wr xs fs) (fun _ i _ => g + 1 - (intOf i).toNat)
  case atStart => exact ⟨0, Nat.zero_le _, rfl, by rw [tS_zero]; exact HN.out, fun h => absurd h (by decide)⟩
  case round =>
    obtain ⟨k, hk, rfl, hE, hfs⟩ := hrel
    by_cases hlt : k < g
    · have HFs := Lib.hid hfs
      clear hfs
      go_wp2_with fail
      refine (en_tick2 hE).mono ?_
      clear hE
      rintro e wb ⟨TA, tc, rfl, hT, hN4, hK4⟩
      rw [tS_tick _ _ _ _ (by omega)] at hN4
      have hask := tS_asks seeds retry a k (by omega)
      rw [← HXs.out] at hask
      rw [hask] at hT ⊢
      clear hask
      generalize (tS seeds retry a k).alone = al
      have hp5 := (hN4.old.cell (p := ⟨w.heap.size, 5, none⟩) (by show w.heap.size < _; omega)).trans P5.out
      have H4 := Lib.hid hN4
      have HT := Lib.hid hT
      have HK4 := Lib.hid hK4
      clear hN4 hT hK4
      have e1 : (k : Int) + 1 - 1 = (k : Int) := by omega
      by_cases hz : (k : Int) % retry = 0
      · rw [if_pos hz] at HT ⊢
        have hz2 : (k : Int).tmod retry = 0 := by rw [Int.tmod_eq_emod_of_nonneg (by omega)]; exact hz
        rcases Nat.eq_zero_or_pos k with h0 | h0
        · subst h0
          clear HFs
          go_wp2_with fail
          refine (ints_true (xs := xs) wb (by obtain ⟨r, h, _⟩ := HT.out; exact h.rd) (by obtain ⟨r, h, _⟩ := HT.out; exact h.rd) (by have := HXL.out; omega)).mono ?_
          rintro e wc ⟨rfl, hkc⟩
          have HKc := Lib.hid hkc
          clear hkc
          go_wp2
          go_roundw
          case rel => exact ⟨1, by omega, rfl, H4.out.keep0 HKc.out, fun _ => ⟨TA, tc, rfl, HT.out.keep (HKc.out.mono fun _ _ h => h.elim)⟩⟩
          case measure => simp [intOf]; omega
        · obtain ⟨FA, fc, rfl, hF⟩ := HFs.out h0
          have hF4 := Lib.hid (hF.keep HK4.out)
          have h01 : ((k : Int) + 1 == 1) = false := by simp; omega
          clear HFs hF
          go_wp2_with fail
          refine (ints_true (xs := xs) wb (by obtain ⟨r, h, _⟩ := HT.out; exact h.rd) (by obtain ⟨r, h, _⟩ := hF4.out; exact h.rd) (by have := HXL.out; omega)).mono ?_
          rintro e wc ⟨rfl, hkc⟩
          have HKc := Lib.hid hkc
          clear hkc
          go_wp2
          go_roundw
          case rel => exact ⟨k + 1, by omega, congrArg (Value.int .i64) (by omega), H4.out.keep0 HKc.out, fun _ => ⟨FA, fc, rfl, hF4.out.keep (HKc.out.mono fun _ _ h => h.elim)⟩⟩
          case measure => simp [intOf]; omega
      · rw [if_neg hz] at HT ⊢
        have hz2 : ((k : Int).tmod retry == 0) = false := by rw [Int.tmod_eq_emod_of_nonneg (by omega)]; simpa using hz
        have hz3 : ¬ (k : Int).tmod retry = 0 := by rw [Int.tmod_eq_emod_of_nonneg (by omega)]; exact hz
        have h0 : 0 < k := by
          rcases Nat.eq_zero_or_pos k with h0 | h0
          · subst h0; exact absurd (by simp) hz
          · exact h0
        obtain ⟨FA, fc, rfl, hF⟩ := HFs.out h0
        have hF4 := Lib.hid (hF.keep HK4.out)
        have h01 : ((k : Int) + 1 == 1) = false := by simp; omega
        have hz4 : ((k : Int) % retry == 0) = false := by simpa using hz
        clear HFs hF
        go_wp2
        go_roundw
        case rel => exact ⟨k + 1, by omega, congrArg (Value.int .i64) (by omega), H4.out, fun _ => ⟨FA, fc, rfl, hF4.out⟩⟩
        case measure => simp [intOf]; omega
    · obtain rfl : k = g := by omega
      clear hfs
      go_wp2_with fail
      refine (en_ticks hE).mono ?_
      clear hE
      rintro e wb ⟨rfl, hN4⟩
      have H4 := Lib.hid hN4
      clear hN4
      simp only [tS]
      go_wp2
      go_ret
      exact ⟨rfl, HB.out.trans (H4.out.old.mono HB.out.size)⟩

theorem walkEntryTime {w : World} (v0 : Value) (w0 : IsCfg w v0) (v1 : Value) (w1 : IsId w v1) (a2 : Int) (_w2 : (Lit.int .i64 a2).wf = true) :
    Calls Try.prog 6 #[v0, v1, .int .i64 a2] w fun e w' => e = .returned (.bool true) ∧ Below w.heap.size w w' := by
  obtain ⟨A, n, c, seeds, u1, u2, u3, u4, retry, u6, u7, u8, u9, u10, u11, u12, u13, u14, u15, u16, rfl, hc, hm, hr, hl, _⟩ := w0
  obtain ⟨a, i, rfl⟩ := w1
  by_cases hn : 200 < n
  · exact time_far A n c u1 u2 u3 u4 retry u6 u7 u8 u9 u10 u11 u12 u13 u14 u15 u16 a i a2 w hn (by omega)
  · by_cases hx : 1 ≤ retry ∧ retry ≤ 4096 ∧ mayID a i = true
    · exact time_good A n c seeds u1 u2 u3 u4 retry u6 u7 u8 u9 u10 u11 u12 u13 u14 u15 u16 a i a2 w (by omega) hr hl hx.1 hx.2.1 hx.2.2
    · exact time_bad A n c u1 u2 u3 u4 retry u6 u7 u8 u9 u10 u11 u12 u13 u14 u15 u16 a i a2 w (by omega) hx
end Go.Proofs.Ytlnflbobcbnhhaa
