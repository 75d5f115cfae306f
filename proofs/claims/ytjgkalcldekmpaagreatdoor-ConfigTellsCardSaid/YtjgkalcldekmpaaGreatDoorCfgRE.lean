/-
  coveyref26: Show. Written by gen_re.py.
-/
import Derived.Test.YtjgkalcldekmpaaGreatDoorCfgRC
namespace Go.Proofs.YtjgkalcldekmpaaGreatDoor
open Go.RowKit Go Go.Shelf
set_option maxRecDepth 100000
attribute [local go_sem] bs_toList bs_size bs_zero
attribute [local irreducible] kAll
attribute [local go_sem] kQuiet kQuietUpon

theorem rowM_ofR {c : Cfg} {i : Nat} {v : Bs} (h : showM i c = v) (hv : v ≠ []) : rowM c i = KN.getD i [] ++ 32 :: 61 :: 32 :: (v ++ [10]) := by unfold rowM; rw [h]; exact if_neg hv
theorem rowM_len12 {c : Cfg} (h : OkC c) (hw : WfC c) {k : Nat} (hk : k < 17) : (rowM c k).length ≤ 400 := by
  have := showM_len12 h hw (i := k) hk
  have := KN_len k
  unfold rowM
  split
  · simp
  · simp only [List.length_append, List.length_cons, List.length_nil]; omega
theorem row_num (c : Cfg) (k : Nat) (hk : isNum k) : rowM c k = shM (KN.getD k []) (c.v k) := by
  have e : showM k c = showN (c.v k) := by
    obtain ⟨_, h0, h8, h10, h11⟩ := hk
    unfold showM
    rw [if_neg h0, if_neg h8, if_neg (by omega)]
  unfold rowM shM
  rw [e]
  unfold showN
  by_cases hz : c.v k = 0
  · rw [if_pos hz, if_pos rfl, if_pos hz]
  · rw [if_neg hz, if_neg (fun h => ?_), if_neg hz]
    unfold Lib.itoa at h
    split at h
    · cases h
    · exact (dd_facts _).2.2.1 h
theorem row_yes {c : Cfg} {k : Nat} {t : Bs} (hk : k = 10 ∨ k = 11) (ht : KN.getD k [] ++ 32 :: 61 :: 32 :: (yesB ++ [10]) = t) (h : c.v k ≠ 0) : rowM c k = t := by
  have e : showM k c = yesB := by
    unfold showM
    rw [if_neg (by omega), if_neg (by omega), if_pos hk]
    exact if_neg h
  rw [rowM_ofR e (by decide), ht]
theorem row_not {c : Cfg} {k : Nat} (hk : k = 10 ∨ k = 11) (h : ¬ c.v k ≠ 0) : rowM c k = [] := by
  have e : showM k c = [] := by
    unfold showM
    rw [if_neg (by omega), if_neg (by omega), if_pos hk]
    exact if_pos (Classical.byContradiction h)
  exact if_pos e
theorem row_strat {c : Cfg} (h : OkC c) : rowM c 8 = [115, 116, 114, 97, 116, 101, 103, 121, 32, 61, 32] ++ nameM (c.v 8) ++ [10] := by
  have h8 := h.s8
  have e : showM 8 c = nameM (c.v 8) := by
    show stratB (c.v 8) = _
    unfold stratB nameM
    rw [if_pos (by omega), if_pos (by omega)]
  rw [rowM_ofR e (by rcases h8 with e | e | e | e <;> rw [e] <;> decide)]
  simp [KN]
theorem join_snocR (l : List Bs) (x sep : Bs) (h : l ≠ []) : Lib.join (l ++ [x]) sep = Lib.join l sep ++ sep ++ x := by rw [join_cat sep l [x] h (by simp), Lib.join_one]
set_option maxHeartbeats 16000000 in
theorem rshow_any (c : Cfg) (A : Option Addr) (cap : Nat) (w : World) (hR : RdN w A c.seeds.length c.seeds) (hl : c.seeds.length ≤ 1000000000) :
    Calls Tryz.prog 15 #[.agg (cfgA (.slice A c.seeds.length cap) c.v)] w (Tell (.tuple #[.string (bs (showR c).1), .int .i64 (showR c).2]) w) := by
  have hk0 : Keep (fun _ => False) w (w.alloc (.cells (cfgA (.slice A c.seeds.length cap) c.v) 25)) := (Keep.refl _ w).alloc _
  have hX := Blk.new w 25 (cfgA (.slice A c.seeds.length cap) c.v)
  obtain ⟨W0, hW0⟩ : ∃ W0, w.alloc (.cells (cfgA (.slice A c.seeds.length cap) c.v) 25) = W0 := ⟨_, rfl⟩
  rw [hW0] at hk0 hX
  have HX := Lib.hid hX
  have HK0 := Lib.hid hk0
  have HR := Lib.hid (hR.keep0 hk0)
  clear hX hk0 hR
  go_enter Tryz.func15, Tryz.ntmps15
  go_wp2_with (refine wpList_load_row rfl 25 _ rfl w.heap.size rfl 25 _ (0, 0) _ HX.out Tryz.underlying25 rfl infoCfg ?_)
  refine (rmay_any c A cap W0 HR.out hl).mono ?_
  rintro e W1 ⟨rfl, hk1⟩
  have HK1 := Lib.hid hk1
  clear hk1 hW0
  rcases Bool.eq_false_or_eq_true (mayM c) with hm | hm
  case inr =>
    have HSr := Lib.hid (showR_no hm)
    rw [hm]
    clear hm
    go_wp2
    go_ret2
    exact ⟨by rw [HSr.out]; rfl, keep0_trans _ _ _ HK0.out HK1.out⟩
  have HSr := Lib.hid (showR_ok hm)
  have HOk := Lib.hid (may_ok hm)
  have HW := Lib.hid (may_wf hm)
  have hlen := (may_ok hm).len
  rw [hm]
  clear hm
  go_wp2
  go_loopw [5, 6] (fun v j wr => ∃ (i : Nat) (J : Bs), i ≤ c.seeds.length ∧ j = .int .i64 (i : Int) ∧ v = .string (bs J) ∧ Hid (J = Lib.join ((c.seeds.take i).map Lib.itoa) [44, 32]) ∧ J.length ≤ 100 * i ∧ Hid (Keep (fun _ => False) W0 wr)) (fun _ j _ => c.seeds.length - (intOf j).toNat)
  case atStart => exact ⟨0, [], Nat.zero_le _, rfl, rfl, Lib.hid (by rw [List.take_zero]; rfl), by simp, HK1⟩
  case round =>
    obtain ⟨i, J, hil, rfl, rfl, HJ, hJl, HKk⟩ := hrel
    have e2 : IntKind.i64.wrap ((i : Int) + 1) = (i : Int) + 1 := IntWalk.i64_in _ (by omega)
    have hXw := HX.out.keep HKk.out (fun h => h)
    have c0 := hXw.cell 0
    rw [cfgA_get _ _ (by decide)] at c0
    simp only [cfgC, if_true] at c0
    by_cases hlt : i < c.seeds.length
    · have q2 : (i : Int) < (c.seeds.length : Int) := by omega
      have q3 : (0 : Int) ≤ (i : Int) := by omega
      obtain ⟨g, off, v0, rfl, h1, h2⟩ := (HR.out.keep0 HKk.out).2 i (by omega)
      rw [List.getElem?_map, List.getElem?_eq_getElem hlt] at h1
      simp only [Option.map_some, Option.some.injEq] at h1
      subst h1
      have hx12 := HOk.out.seeds _ (List.getElem_mem hlt)
      have htk : (c.seeds.take (i + 1)).map Lib.itoa = (c.seeds.take i).map Lib.itoa ++ [Lib.itoa c.seeds[i]] := by rw [List.take_add_one, List.getElem?_eq_getElem hlt, List.map_append]; rfl
      obtain ⟨x, hx⟩ : ∃ x, c.seeds[i] = x := ⟨_, rfl⟩
      rw [hx] at h2 hx12 htk
      obtain ⟨k, rfl⟩ : ∃ k : Nat, x = k := ⟨x.toNat, by omega⟩
      have hit : Lib.itoa (k : Int) = Lib.decDigits k := by unfold Lib.itoa; rw [if_neg (by omega), Int.toNat_natCast]
      have hDl : (Lib.decDigits k).length ≤ 2 := decDigits_len 2 k (by omega) (by decide)
      have hd := rdigits_any k (by omega)
      obtain ⟨D, hD⟩ : ∃ D, Lib.decDigits k = D := ⟨_, rfl⟩
      rw [hit, hD] at htk
      rw [hD] at hDl hd
      have HD := Lib.hid hd
      have HTk := Lib.hid htk
      clear hx htk hit hd hD hXw
      by_cases hi0 : i = 0
      · subst hi0
        rw [Nat.add_zero] at h2
        obtain ⟨J2, hJ2⟩ : ∃ J2, J ++ D = J2 := ⟨_, rfl⟩
        have hcat : bs J ++ bs D = bs J2 := by rw [bs_cat, hJ2]
        have n1 : ¬ 9223372036854775807 < J.length + D.length := by omega
        have HJ2 := Lib.hid (show J2 = Lib.join ((c.seeds.take (0 + 1)).map Lib.itoa) [44, 32] by rw [HTk.out, ← hJ2, HJ.out, List.take_zero, List.map_nil, List.nil_append, Lib.join_one, Lib.join_nil, List.nil_append])
        have hl2 : J2.length ≤ 100 * (0 + 1) := by rw [← hJ2, List.length_append]; omega
        clear hJ2
        go_wp2_with fail
        refine (HD.out wr).mono ?_
        rintro e W2 ⟨rfl, hk2⟩
        have HK2 := Lib.hid (keep0_trans _ _ _ HKk.out hk2)
        clear hk2
        go_wp2
        go_roundw
        case rel => exact ⟨0 + 1, J2, by omega, by go_num, rfl, HJ2, hl2, HK2⟩
        case measure => simp [intOf]; omega
      · have q4 : (0 : Int) < (i : Int) := by omega
        obtain ⟨J1, hJ1⟩ : ∃ J1, J ++ [44, 32] = J1 := ⟨_, rfl⟩
        obtain ⟨J2, hJ2⟩ : ∃ J2, J1 ++ D = J2 := ⟨_, rfl⟩
        have hcat1 : bs J ++ ({ data := #[44, 32] } : ByteArray) = bs J1 := by rw [← hJ1, ← bs_cat]; rfl
        have hcat : bs J1 ++ bs D = bs J2 := by rw [bs_cat, hJ2]
        have l1 : J1.length ≤ 100 * i + 2 := by rw [← hJ1, List.length_append]; simp only [List.length_cons, List.length_nil]; omega
        have n0 : ¬ 9223372036854775807 < J.length + 2 := by omega
        have n1 : ¬ 9223372036854775807 < J1.length + D.length := by omega
        have HJ2 := Lib.hid (show J2 = Lib.join ((c.seeds.take (i + 1)).map Lib.itoa) [44, 32] by
          rw [HTk.out, ← hJ2, ← hJ1, HJ.out, join_snocR _ _ _ (fun e => ?_)]
          have := congrArg List.length e
          rw [List.length_map, List.length_take] at this
          simp only [List.length_nil] at this
          omega)
        have hl2 : J2.length ≤ 100 * (i + 1) := by rw [← hJ2, List.length_append]; omega
        clear hJ2 hJ1 hi0
        go_wp2_with fail
        refine (HD.out wr).mono ?_
        rintro e W2 ⟨rfl, hk2⟩
        have HK2 := Lib.hid (keep0_trans _ _ _ HKk.out hk2)
        clear hk2
        go_wp2
        go_roundw
        case rel => exact ⟨i + 1, J2, by omega, by go_num, rfl, HJ2, hl2, HK2⟩
        case measure => simp [intOf]; omega
    · have q2 : ¬ (i : Int) < (c.seeds.length : Int) := by omega
      have HJ2 := Lib.hid (show J = showM 0 c by
        have := HJ.out
        rw [List.take_of_length_le (by omega)] at this
        exact this)
      clear hlt
      obtain ⟨S0, hS0⟩ : ∃ S, [115, 101, 101, 100, 115, 32, 61, 32] ++ J ++ [10] = S := ⟨_, rfl⟩
      have m0 : S0.length ≤ 100000 := by rw [← hS0]; simp only [List.length_append, List.length_cons, List.length_nil]; omega
      have HT0 := Lib.hid (show textM c 1 = S0 by
        have hne : J ≠ [] := fun e => by
          rcases part_step HOk.out (show 0 < 17 by decide) with ⟨e1, e2⟩ | ⟨e0, _⟩
          · have e3 := congrArg Cfg.seeds e2
            exact HOk.out.ne e3
          · exact e0 (HJ2.out ▸ e)
        show List.flatMap (rowM c) [0] = _
        rw [List.flatMap_cons, List.flatMap_nil, List.append_nil, rowM_ofR HJ2.out.symm hne, ← hS0]
        simp [KN])
      have hz1 : ({ data := #[] } : ByteArray) ++ ({ data := #[115, 101, 101, 100, 115, 32, 61, 32] } : ByteArray) = bs [115, 101, 101, 100, 115, 32, 61, 32] := rfl
      have hz2 : bs [115, 101, 101, 100, 115, 32, 61, 32] ++ bs J ++ ({ data := #[10] } : ByteArray) = bs S0 := by rw [← hS0, ← bs_cat, ← bs_cat]; rfl
      have nz1 : ¬ 9223372036854775807 < 8 + J.length := by omega
      have nz2 : ¬ 9223372036854775807 < 8 + J.length + 1 := by omega
      have c1 : World.cell? wr ⟨w.heap.size, 1, none⟩ = some (.int .i64 (c.v 1)) := by rw [(hXw).cell 1, cfgA_get _ _ (by decide)]; rfl
      have c2 : World.cell? wr ⟨w.heap.size, 2, none⟩ = some (.int .i64 (c.v 2)) := by rw [(hXw).cell 2, cfgA_get _ _ (by decide)]; rfl
      have c3 : World.cell? wr ⟨w.heap.size, 3, none⟩ = some (.int .i64 (c.v 3)) := by rw [(hXw).cell 3, cfgA_get _ _ (by decide)]; rfl
      have c4 : World.cell? wr ⟨w.heap.size, 4, none⟩ = some (.int .i64 (c.v 4)) := by rw [(hXw).cell 4, cfgA_get _ _ (by decide)]; rfl
      have c5 : World.cell? wr ⟨w.heap.size, 5, none⟩ = some (.int .i64 (c.v 5)) := by rw [(hXw).cell 5, cfgA_get _ _ (by decide)]; rfl
      have c6 : World.cell? wr ⟨w.heap.size, 6, none⟩ = some (.int .i64 (c.v 6)) := by rw [(hXw).cell 6, cfgA_get _ _ (by decide)]; rfl
      have c7 : World.cell? wr ⟨w.heap.size, 7, none⟩ = some (.int .i64 (c.v 7)) := by rw [(hXw).cell 7, cfgA_get _ _ (by decide)]; rfl
      have c8 : World.cell? wr ⟨w.heap.size, 8, none⟩ = some (.int .u8 (c.v 8)) := by rw [(hXw).cell 8, cfgA_get _ _ (by decide)]; rfl
      have c9 : World.cell? wr ⟨w.heap.size, 9, none⟩ = some (.int .i64 (c.v 9)) := by rw [(hXw).cell 9, cfgA_get _ _ (by decide)]; rfl
      have c10 : World.cell? wr ⟨w.heap.size, 10, none⟩ = some (.bool (decide (c.v 10 ≠ 0))) := by rw [(hXw).cell 10, cfgA_get _ _ (by decide)]; rfl
      have c11 : World.cell? wr ⟨w.heap.size, 11, none⟩ = some (.bool (decide (c.v 11 ≠ 0))) := by rw [(hXw).cell 11, cfgA_get _ _ (by decide)]; rfl
      have c12 : World.cell? wr ⟨w.heap.size, 12, none⟩ = some (.int .i64 (c.v 12)) := by rw [(hXw).cell 12, cfgA_get _ _ (by decide)]; rfl
      have c13 : World.cell? wr ⟨w.heap.size, 13, none⟩ = some (.int .i64 (c.v 13)) := by rw [(hXw).cell 13, cfgA_get _ _ (by decide)]; rfl
      have c14 : World.cell? wr ⟨w.heap.size, 14, none⟩ = some (.int .i64 (c.v 14)) := by rw [(hXw).cell 14, cfgA_get _ _ (by decide)]; rfl
      have c15 : World.cell? wr ⟨w.heap.size, 15, none⟩ = some (.int .i64 (c.v 15)) := by rw [(hXw).cell 15, cfgA_get _ _ (by decide)]; rfl
      have c16 : World.cell? wr ⟨w.heap.size, 16, none⟩ = some (.int .i64 (c.v 16)) := by rw [(hXw).cell 16, cfgA_get _ _ (by decide)]; rfl
      clear hXw hS0
      obtain ⟨h1, hh1⟩ : ∃ h, rowM c 1 = h := ⟨_, rfl⟩
      have l1 : h1.length ≤ 400 := by rw [← hh1]; exact rowM_len12 HOk.out HW.out (by decide)
      obtain ⟨S1, hS1⟩ : ∃ S, S0 ++ h1 = S := ⟨_, rfl⟩
      have HT1 := Lib.hid (show textM c 2 = S1 by rw [textM_succ, HT0.out, hh1, hS1])
      have hcat1 : bs S0 ++ bs h1 = bs S1 := by rw [bs_cat, hS1]
      have m1 : S1.length ≤ 100000 + 400 := by rw [← hS1, List.length_append]; omega
      have n1 : ¬ 9223372036854775807 < S0.length + h1.length := by omega
      have HR1 := Lib.hid (show shM [119, 97, 116, 99, 104] (c.v 1) = h1 from (row_num c 1 (by unfold isNum; decide)).symm.trans hh1)
      have HSe1 := Lib.hid hS1
      clear hh1 hS1
      obtain ⟨h2, hh2⟩ : ∃ h, rowM c 2 = h := ⟨_, rfl⟩
      have l2 : h2.length ≤ 400 := by rw [← hh2]; exact rowM_len12 HOk.out HW.out (by decide)
      obtain ⟨S2, hS2⟩ : ∃ S, S1 ++ h2 = S := ⟨_, rfl⟩
      have HT2 := Lib.hid (show textM c 3 = S2 by rw [textM_succ, HT1.out, hh2, hS2])
      have hcat2 : bs S1 ++ bs h2 = bs S2 := by rw [bs_cat, hS2]
      have m2 : S2.length ≤ 100000 + 800 := by rw [← hS2, List.length_append]; omega
      have n2 : ¬ 9223372036854775807 < S1.length + h2.length := by omega
      have HR2 := Lib.hid (show shM [109, 105, 110] (c.v 2) = h2 from (row_num c 2 (by unfold isNum; decide)).symm.trans hh2)
      have HSe2 := Lib.hid hS2
      clear hh2 hS2
      obtain ⟨h3, hh3⟩ : ∃ h, rowM c 3 = h := ⟨_, rfl⟩
      have l3 : h3.length ≤ 400 := by rw [← hh3]; exact rowM_len12 HOk.out HW.out (by decide)
      obtain ⟨S3, hS3⟩ : ∃ S, S2 ++ h3 = S := ⟨_, rfl⟩
      have HT3 := Lib.hid (show textM c 4 = S3 by rw [textM_succ, HT2.out, hh3, hS3])
      have hcat3 : bs S2 ++ bs h3 = bs S3 := by rw [bs_cat, hS3]
      have m3 : S3.length ≤ 100000 + 1200 := by rw [← hS3, List.length_append]; omega
      have n3 : ¬ 9223372036854775807 < S2.length + h3.length := by omega
      have HR3 := Lib.hid (show shM [109, 97, 120] (c.v 3) = h3 from (row_num c 3 (by unfold isNum; decide)).symm.trans hh3)
      have HSe3 := Lib.hid hS3
      clear hh3 hS3
      obtain ⟨h4, hh4⟩ : ∃ h, rowM c 4 = h := ⟨_, rfl⟩
      have l4 : h4.length ≤ 400 := by rw [← hh4]; exact rowM_len12 HOk.out HW.out (by decide)
      obtain ⟨S4, hS4⟩ : ∃ S, S3 ++ h4 = S := ⟨_, rfl⟩
      have HT4 := Lib.hid (show textM c 5 = S4 by rw [textM_succ, HT3.out, hh4, hS4])
      have hcat4 : bs S3 ++ bs h4 = bs S4 := by rw [bs_cat, hS4]
      have m4 : S4.length ≤ 100000 + 1600 := by rw [← hS4, List.length_append]; omega
      have n4 : ¬ 9223372036854775807 < S3.length + h4.length := by omega
      have HR4 := Lib.hid (show shM [119, 105, 110, 100, 111, 119] (c.v 4) = h4 from (row_num c 4 (by unfold isNum; decide)).symm.trans hh4)
      have HSe4 := Lib.hid hS4
      clear hh4 hS4
      obtain ⟨h5, hh5⟩ : ∃ h, rowM c 5 = h := ⟨_, rfl⟩
      have l5 : h5.length ≤ 400 := by rw [← hh5]; exact rowM_len12 HOk.out HW.out (by decide)
      obtain ⟨S5, hS5⟩ : ∃ S, S4 ++ h5 = S := ⟨_, rfl⟩
      have HT5 := Lib.hid (show textM c 6 = S5 by rw [textM_succ, HT4.out, hh5, hS5])
      have hcat5 : bs S4 ++ bs h5 = bs S5 := by rw [bs_cat, hS5]
      have m5 : S5.length ≤ 100000 + 2000 := by rw [← hS5, List.length_append]; omega
      have n5 : ¬ 9223372036854775807 < S4.length + h5.length := by omega
      have HR5 := Lib.hid (show shM [114, 101, 116, 114, 121] (c.v 5) = h5 from (row_num c 5 (by unfold isNum; decide)).symm.trans hh5)
      have HSe5 := Lib.hid hS5
      clear hh5 hS5
      obtain ⟨h6, hh6⟩ : ∃ h, rowM c 6 = h := ⟨_, rfl⟩
      have l6 : h6.length ≤ 400 := by rw [← hh6]; exact rowM_len12 HOk.out HW.out (by decide)
      obtain ⟨S6, hS6⟩ : ∃ S, S5 ++ h6 = S := ⟨_, rfl⟩
      have HT6 := Lib.hid (show textM c 7 = S6 by rw [textM_succ, HT5.out, hh6, hS6])
      have hcat6 : bs S5 ++ bs h6 = bs S6 := by rw [bs_cat, hS6]
      have m6 : S6.length ≤ 100000 + 2400 := by rw [← hS6, List.length_append]; omega
      have n6 : ¬ 9223372036854775807 < S5.length + h6.length := by omega
      have HR6 := Lib.hid (show shM [115, 116, 97, 98, 108, 101] (c.v 6) = h6 from (row_num c 6 (by unfold isNum; decide)).symm.trans hh6)
      have HSe6 := Lib.hid hS6
      clear hh6 hS6
      obtain ⟨h7, hh7⟩ : ∃ h, rowM c 7 = h := ⟨_, rfl⟩
      have l7 : h7.length ≤ 400 := by rw [← hh7]; exact rowM_len12 HOk.out HW.out (by decide)
      obtain ⟨S7, hS7⟩ : ∃ S, S6 ++ h7 = S := ⟨_, rfl⟩
      have HT7 := Lib.hid (show textM c 8 = S7 by rw [textM_succ, HT6.out, hh7, hS7])
      have hcat7 : bs S6 ++ bs h7 = bs S7 := by rw [bs_cat, hS7]
      have m7 : S7.length ≤ 100000 + 2800 := by rw [← hS7, List.length_append]; omega
      have n7 : ¬ 9223372036854775807 < S6.length + h7.length := by omega
      have HR7 := Lib.hid (show shM [117, 110, 115, 116, 97, 98, 108, 101] (c.v 7) = h7 from (row_num c 7 (by unfold isNum; decide)).symm.trans hh7)
      have HSe7 := Lib.hid hS7
      clear hh7 hS7
      go_wp2_with fail
      refine wp_region_krip (Keep (fun _ => False)) (Keep.refl _) keep0_trans 30 (by kernel_rfl) (by kernel_rfl) (Ts := [none, none, some (.inl (.int .i64 (c.v 1))), some (.inl (.string (bs h1))), none, none, some (.inl (.int .i64 (c.v 2))), some (.inl (.string (bs h2))), none, none, some (.inl (.int .i64 (c.v 3))), some (.inl (.string (bs h3))), none, none, some (.inl (.int .i64 (c.v 4))), some (.inl (.string (bs h4))), none, none, some (.inl (.int .i64 (c.v 5))), some (.inl (.string (bs h5))), none, none, some (.inl (.int .i64 (c.v 6))), some (.inl (.string (bs h6))), none, none, some (.inl (.int .i64 (c.v 7))), some (.inl (.string (bs h7))), none, none]) ?_
      simp only [List.take, List.drop]
      refine kAll_p (fun K hK => ?_)
      go_simp
      generalize hZ : (Act.mk _ _) = Z
      refine hK Z ?_
      subst hZ
      clear hK K
      refine kAll_p (fun K hK => ?_)
      go_simp
      generalize hZ : (Act.mk _ _) = Z
      refine hK Z ?_
      subst hZ
      clear hK K
      refine kAll_dn _ (fun W hW hF => kStep_of fun K Q hK => ?_) (fun K hK => ?_)
      · have q1 := (keepD (Keep.refl _ _) hW).cell (c1) (fun h => h)
        go_simp
        exact hK _ _ (Keep.refl _ _) rfl
      go_simp
      generalize hZ : (Act.mk _ _) = Z
      refine hK Z ?_
      subst hZ
      clear hK K
      refine kAll_dn _ (fun W hW hF => kStep_of fun K Q hK => ?_) (fun K hK => ?_)
      · go_simp
        refine (rshown_any [119, 97, 116, 99, 104] (by decide) (c.v 1) (by have := (HOk.out.v 1 (by unfold isNum; decide)).1; omega) (by have := (HOk.out.v 1 (by unfold isNum; decide)).2; omega) W).mono ?_
        rintro e w' ⟨rfl, hk⟩
        rw [HR1.out]
        exact hK _ _ hk rfl
      go_simp
      generalize hZ : (Act.mk _ _) = Z
      refine hK Z ?_
      subst hZ
      clear hK K
      refine kAll_p (fun K hK => ?_)
      go_simp
      generalize hZ : (Act.mk _ _) = Z
      refine hK Z ?_
      subst hZ
      clear hK K
      refine kAll_p (fun K hK => ?_)
      go_simp
      generalize hZ : (Act.mk _ _) = Z
      refine hK Z ?_
      subst hZ
      clear hK K
      refine kAll_dn _ (fun W hW hF => kStep_of fun K Q hK => ?_) (fun K hK => ?_)
      · have q1 := (keepD (Keep.refl _ _) hW).cell (c2) (fun h => h)
        go_simp
        exact hK _ _ (Keep.refl _ _) rfl
      go_simp
      generalize hZ : (Act.mk _ _) = Z
      refine hK Z ?_
      subst hZ
      clear hK K
      refine kAll_dn _ (fun W hW hF => kStep_of fun K Q hK => ?_) (fun K hK => ?_)
      · go_simp
        refine (rshown_any [109, 105, 110] (by decide) (c.v 2) (by have := (HOk.out.v 2 (by unfold isNum; decide)).1; omega) (by have := (HOk.out.v 2 (by unfold isNum; decide)).2; omega) W).mono ?_
        rintro e w' ⟨rfl, hk⟩
        rw [HR2.out]
        exact hK _ _ hk rfl
      go_simp
      generalize hZ : (Act.mk _ _) = Z
      refine hK Z ?_
      subst hZ
      clear hK K
      refine kAll_p (fun K hK => ?_)
      go_simp
      generalize hZ : (Act.mk _ _) = Z
      refine hK Z ?_
      subst hZ
      clear hK K
      refine kAll_p (fun K hK => ?_)
      go_simp
      generalize hZ : (Act.mk _ _) = Z
      refine hK Z ?_
      subst hZ
      clear hK K
      refine kAll_dn _ (fun W hW hF => kStep_of fun K Q hK => ?_) (fun K hK => ?_)
      · have q1 := (keepD (Keep.refl _ _) hW).cell (c3) (fun h => h)
        go_simp
        exact hK _ _ (Keep.refl _ _) rfl
      go_simp
      generalize hZ : (Act.mk _ _) = Z
      refine hK Z ?_
      subst hZ
      clear hK K
      refine kAll_dn _ (fun W hW hF => kStep_of fun K Q hK => ?_) (fun K hK => ?_)
      · go_simp
        refine (rshown_any [109, 97, 120] (by decide) (c.v 3) (by have := (HOk.out.v 3 (by unfold isNum; decide)).1; omega) (by have := (HOk.out.v 3 (by unfold isNum; decide)).2; omega) W).mono ?_
        rintro e w' ⟨rfl, hk⟩
        rw [HR3.out]
        exact hK _ _ hk rfl
      go_simp
      generalize hZ : (Act.mk _ _) = Z
      refine hK Z ?_
      subst hZ
      clear hK K
      refine kAll_p (fun K hK => ?_)
      go_simp
      generalize hZ : (Act.mk _ _) = Z
      refine hK Z ?_
      subst hZ
      clear hK K
      refine kAll_p (fun K hK => ?_)
      go_simp
      generalize hZ : (Act.mk _ _) = Z
      refine hK Z ?_
      subst hZ
      clear hK K
      refine kAll_dn _ (fun W hW hF => kStep_of fun K Q hK => ?_) (fun K hK => ?_)
      · have q1 := (keepD (Keep.refl _ _) hW).cell (c4) (fun h => h)
        go_simp
        exact hK _ _ (Keep.refl _ _) rfl
      go_simp
      generalize hZ : (Act.mk _ _) = Z
      refine hK Z ?_
      subst hZ
      clear hK K
      refine kAll_dn _ (fun W hW hF => kStep_of fun K Q hK => ?_) (fun K hK => ?_)
      · go_simp
        refine (rshown_any [119, 105, 110, 100, 111, 119] (by decide) (c.v 4) (by have := (HOk.out.v 4 (by unfold isNum; decide)).1; omega) (by have := (HOk.out.v 4 (by unfold isNum; decide)).2; omega) W).mono ?_
        rintro e w' ⟨rfl, hk⟩
        rw [HR4.out]
        exact hK _ _ hk rfl
      go_simp
      generalize hZ : (Act.mk _ _) = Z
      refine hK Z ?_
      subst hZ
      clear hK K
      refine kAll_p (fun K hK => ?_)
      go_simp
      generalize hZ : (Act.mk _ _) = Z
      refine hK Z ?_
      subst hZ
      clear hK K
      refine kAll_p (fun K hK => ?_)
      go_simp
      generalize hZ : (Act.mk _ _) = Z
      refine hK Z ?_
      subst hZ
      clear hK K
      refine kAll_dn _ (fun W hW hF => kStep_of fun K Q hK => ?_) (fun K hK => ?_)
      · have q1 := (keepD (Keep.refl _ _) hW).cell (c5) (fun h => h)
        go_simp
        exact hK _ _ (Keep.refl _ _) rfl
      go_simp
      generalize hZ : (Act.mk _ _) = Z
      refine hK Z ?_
      subst hZ
      clear hK K
      refine kAll_dn _ (fun W hW hF => kStep_of fun K Q hK => ?_) (fun K hK => ?_)
      · go_simp
        refine (rshown_any [114, 101, 116, 114, 121] (by decide) (c.v 5) (by have := (HOk.out.v 5 (by unfold isNum; decide)).1; omega) (by have := (HOk.out.v 5 (by unfold isNum; decide)).2; omega) W).mono ?_
        rintro e w' ⟨rfl, hk⟩
        rw [HR5.out]
        exact hK _ _ hk rfl
      go_simp
      generalize hZ : (Act.mk _ _) = Z
      refine hK Z ?_
      subst hZ
      clear hK K
      refine kAll_p (fun K hK => ?_)
      go_simp
      generalize hZ : (Act.mk _ _) = Z
      refine hK Z ?_
      subst hZ
      clear hK K
      refine kAll_p (fun K hK => ?_)
      go_simp
      generalize hZ : (Act.mk _ _) = Z
      refine hK Z ?_
      subst hZ
      clear hK K
      refine kAll_dn _ (fun W hW hF => kStep_of fun K Q hK => ?_) (fun K hK => ?_)
      · have q1 := (keepD (Keep.refl _ _) hW).cell (c6) (fun h => h)
        go_simp
        exact hK _ _ (Keep.refl _ _) rfl
      go_simp
      generalize hZ : (Act.mk _ _) = Z
      refine hK Z ?_
      subst hZ
      clear hK K
      refine kAll_dn _ (fun W hW hF => kStep_of fun K Q hK => ?_) (fun K hK => ?_)
      · go_simp
        refine (rshown_any [115, 116, 97, 98, 108, 101] (by decide) (c.v 6) (by have := (HOk.out.v 6 (by unfold isNum; decide)).1; omega) (by have := (HOk.out.v 6 (by unfold isNum; decide)).2; omega) W).mono ?_
        rintro e w' ⟨rfl, hk⟩
        rw [HR6.out]
        exact hK _ _ hk rfl
      go_simp
      generalize hZ : (Act.mk _ _) = Z
      refine hK Z ?_
      subst hZ
      clear hK K
      refine kAll_p (fun K hK => ?_)
      go_simp
      generalize hZ : (Act.mk _ _) = Z
      refine hK Z ?_
      subst hZ
      clear hK K
      refine kAll_p (fun K hK => ?_)
      go_simp
      generalize hZ : (Act.mk _ _) = Z
      refine hK Z ?_
      subst hZ
      clear hK K
      refine kAll_dn _ (fun W hW hF => kStep_of fun K Q hK => ?_) (fun K hK => ?_)
      · have q1 := (keepD (Keep.refl _ _) hW).cell (c7) (fun h => h)
        go_simp
        exact hK _ _ (Keep.refl _ _) rfl
      go_simp
      generalize hZ : (Act.mk _ _) = Z
      refine hK Z ?_
      subst hZ
      clear hK K
      refine kAll_dn _ (fun W hW hF => kStep_of fun K Q hK => ?_) (fun K hK => ?_)
      · go_simp
        refine (rshown_any [117, 110, 115, 116, 97, 98, 108, 101] (by decide) (c.v 7) (by have := (HOk.out.v 7 (by unfold isNum; decide)).1; omega) (by have := (HOk.out.v 7 (by unfold isNum; decide)).2; omega) W).mono ?_
        rintro e w' ⟨rfl, hk⟩
        rw [HR7.out]
        exact hK _ _ hk rfl
      go_simp
      generalize hZ : (Act.mk _ _) = Z
      refine hK Z ?_
      subst hZ
      clear hK K
      refine kAll_p (fun K hK => ?_)
      go_simp
      generalize hZ : (Act.mk _ _) = Z
      refine hK Z ?_
      subst hZ
      clear hK K
      refine kAll_p (fun K hK => ?_)
      go_simp
      generalize hZ : (Act.mk _ _) = Z
      refine hK Z ?_
      subst hZ
      clear hK K
      refine kAll_nil (fun W8 hW hF => ?_)
      have HKv8 := Lib.hid (keep0_trans _ _ _ HKk.out (keepD (Keep.refl _ _) hW))
      clear hF hW
      have c1 : World.cell? W8 ⟨w.heap.size, 1, none⟩ = some (.int .i64 (c.v 1)) := by rw [(HX.out.keep HKv8.out (fun h => h)).cell 1, cfgA_get _ _ (by decide)]; rfl
      have c2 : World.cell? W8 ⟨w.heap.size, 2, none⟩ = some (.int .i64 (c.v 2)) := by rw [(HX.out.keep HKv8.out (fun h => h)).cell 2, cfgA_get _ _ (by decide)]; rfl
      have c3 : World.cell? W8 ⟨w.heap.size, 3, none⟩ = some (.int .i64 (c.v 3)) := by rw [(HX.out.keep HKv8.out (fun h => h)).cell 3, cfgA_get _ _ (by decide)]; rfl
      have c4 : World.cell? W8 ⟨w.heap.size, 4, none⟩ = some (.int .i64 (c.v 4)) := by rw [(HX.out.keep HKv8.out (fun h => h)).cell 4, cfgA_get _ _ (by decide)]; rfl
      have c5 : World.cell? W8 ⟨w.heap.size, 5, none⟩ = some (.int .i64 (c.v 5)) := by rw [(HX.out.keep HKv8.out (fun h => h)).cell 5, cfgA_get _ _ (by decide)]; rfl
      have c6 : World.cell? W8 ⟨w.heap.size, 6, none⟩ = some (.int .i64 (c.v 6)) := by rw [(HX.out.keep HKv8.out (fun h => h)).cell 6, cfgA_get _ _ (by decide)]; rfl
      have c7 : World.cell? W8 ⟨w.heap.size, 7, none⟩ = some (.int .i64 (c.v 7)) := by rw [(HX.out.keep HKv8.out (fun h => h)).cell 7, cfgA_get _ _ (by decide)]; rfl
      have c8 : World.cell? W8 ⟨w.heap.size, 8, none⟩ = some (.int .u8 (c.v 8)) := by rw [(HX.out.keep HKv8.out (fun h => h)).cell 8, cfgA_get _ _ (by decide)]; rfl
      have c9 : World.cell? W8 ⟨w.heap.size, 9, none⟩ = some (.int .i64 (c.v 9)) := by rw [(HX.out.keep HKv8.out (fun h => h)).cell 9, cfgA_get _ _ (by decide)]; rfl
      have c10 : World.cell? W8 ⟨w.heap.size, 10, none⟩ = some (.bool (decide (c.v 10 ≠ 0))) := by rw [(HX.out.keep HKv8.out (fun h => h)).cell 10, cfgA_get _ _ (by decide)]; rfl
      have c11 : World.cell? W8 ⟨w.heap.size, 11, none⟩ = some (.bool (decide (c.v 11 ≠ 0))) := by rw [(HX.out.keep HKv8.out (fun h => h)).cell 11, cfgA_get _ _ (by decide)]; rfl
      have c12 : World.cell? W8 ⟨w.heap.size, 12, none⟩ = some (.int .i64 (c.v 12)) := by rw [(HX.out.keep HKv8.out (fun h => h)).cell 12, cfgA_get _ _ (by decide)]; rfl
      have c13 : World.cell? W8 ⟨w.heap.size, 13, none⟩ = some (.int .i64 (c.v 13)) := by rw [(HX.out.keep HKv8.out (fun h => h)).cell 13, cfgA_get _ _ (by decide)]; rfl
      have c14 : World.cell? W8 ⟨w.heap.size, 14, none⟩ = some (.int .i64 (c.v 14)) := by rw [(HX.out.keep HKv8.out (fun h => h)).cell 14, cfgA_get _ _ (by decide)]; rfl
      have c15 : World.cell? W8 ⟨w.heap.size, 15, none⟩ = some (.int .i64 (c.v 15)) := by rw [(HX.out.keep HKv8.out (fun h => h)).cell 15, cfgA_get _ _ (by decide)]; rfl
      have c16 : World.cell? W8 ⟨w.heap.size, 16, none⟩ = some (.int .i64 (c.v 16)) := by rw [(HX.out.keep HKv8.out (fun h => h)).cell 16, cfgA_get _ _ (by decide)]; rfl
      obtain ⟨h8, hh8⟩ : ∃ h, rowM c 8 = h := ⟨_, rfl⟩
      have l8 : h8.length ≤ 400 := by rw [← hh8]; exact rowM_len12 HOk.out HW.out (by decide)
      obtain ⟨S8, hS8⟩ : ∃ S, S7 ++ h8 = S := ⟨_, rfl⟩
      have HT8 := Lib.hid (show textM c 9 = S8 by rw [textM_succ, HT7.out, hh8, hS8])
      have hcat8 : bs S7 ++ bs h8 = bs S8 := by rw [bs_cat, hS8]
      have m8 : S8.length ≤ 100000 + 3200 := by rw [← hS8, List.length_append]; omega
      have n8 : ¬ 9223372036854775807 < S7.length + h8.length := by omega
      have HR8 := Lib.hid hh8
      have HSe8 := Lib.hid hS8
      clear hh8 hS8
      obtain ⟨nm8, hnm⟩ : ∃ x, nameM (c.v 8) = x := ⟨_, rfl⟩
      have hrow8 : h8 = [115, 116, 114, 97, 116, 101, 103, 121, 32, 61, 32] ++ nm8 ++ [10] := by rw [← HR8.out, ← hnm]; exact row_strat HOk.out
      have l8b : nm8.length ≤ 400 := by have := l8; rw [hrow8] at this; simp only [List.length_append] at this; omega
      have HN8 := Lib.hid hnm
      obtain ⟨S7b, hS7b⟩ : ∃ x, S7 ++ [115, 116, 114, 97, 116, 101, 103, 121, 32, 61, 32] = x := ⟨_, rfl⟩
      have hca : bs S7 ++ ({ data := #[115, 116, 114, 97, 116, 101, 103, 121, 32, 61, 32] } : ByteArray) = bs S7b := by rw [← hS7b, ← bs_cat]; rfl
      have hcb : bs S7b ++ bs nm8 ++ ({ data := #[10] } : ByteArray) = bs S8 := by rw [← HSe8.out, hrow8, ← hS7b, show S7 ++ ([115, 116, 114, 97, 116, 101, 103, 121, 32, 61, 32] ++ nm8 ++ [10]) = S7 ++ [115, 116, 114, 97, 116, 101, 103, 121, 32, 61, 32] ++ nm8 ++ [10] by simp only [List.append_assoc], ← bs_cat, ← bs_cat]; rfl
      have l7b : S7b.length ≤ 200000 := by rw [← hS7b, List.length_append]; simp only [List.length_cons, List.length_nil]; omega
      have na : ¬ 9223372036854775807 < S7.length + 11 := by omega
      have nb : ¬ 9223372036854775807 < S7b.length + nm8.length := by omega
      have nc : ¬ 9223372036854775807 < S7b.length + nm8.length + 1 := by omega
      clear hcat8 hnm hrow8 hS7b
      go_wp2_with fail
      refine (rname_any (c.v 8) W8).mono ?_
      rintro e W9 ⟨rfl, hk9⟩
      rw [HN8.out]
      have HKv9 := Lib.hid (keep0_trans _ _ _ HKv8.out hk9)
      have c9b := hk9.cell c9 (fun h => h)
      have c10b := hk9.cell c10 (fun h => h)
      have c11b := hk9.cell c11 (fun h => h)
      have hc12 := hk9.cell c12 (fun h => h)
      have hc13 := hk9.cell c13 (fun h => h)
      have hc14 := hk9.cell c14 (fun h => h)
      have hc15 := hk9.cell c15 (fun h => h)
      have hc16 := hk9.cell c16 (fun h => h)
      clear c1 c2 c3 c4 c5 c6 c7 c8 c9 c10 c11 c12 c13 c14 c15 c16 hk9
      obtain ⟨h9, hh9⟩ : ∃ h, rowM c 9 = h := ⟨_, rfl⟩
      have l9 : h9.length ≤ 400 := by rw [← hh9]; exact rowM_len12 HOk.out HW.out (by decide)
      obtain ⟨S9, hS9⟩ : ∃ S, S8 ++ h9 = S := ⟨_, rfl⟩
      have HT9 := Lib.hid (show textM c 10 = S9 by rw [textM_succ, HT8.out, hh9, hS9])
      have hcat9 : bs S8 ++ bs h9 = bs S9 := by rw [bs_cat, hS9]
      have m9 : S9.length ≤ 100000 + 3600 := by rw [← hS9, List.length_append]; omega
      have n9 : ¬ 9223372036854775807 < S8.length + h9.length := by omega
      have HR9 := Lib.hid (show shM [113, 117, 111, 114, 117, 109] (c.v 9) = h9 from (row_num c 9 (by unfold isNum; decide)).symm.trans hh9)
      have HSe9 := Lib.hid hS9
      clear hh9 hS9
      go_wp2_with fail
      refine (rshown_any [113, 117, 111, 114, 117, 109] (by decide) (c.v 9) (by have := (HOk.out.v 9 (by unfold isNum; decide)).1; omega) (by have := (HOk.out.v 9 (by unfold isNum; decide)).2; omega) W9).mono ?_
      rintro e W10 ⟨rfl, hk10⟩
      rw [HR9.out]
      have HKv9 := Lib.hid (keep0_trans _ _ _ HKv9.out hk10)
      have c10 := hk10.cell c10b (fun h => h)
      have c11 := hk10.cell c11b (fun h => h)
      have c12 := hk10.cell hc12 (fun h => h)
      have c13 := hk10.cell hc13 (fun h => h)
      have c14 := hk10.cell hc14 (fun h => h)
      have c15 := hk10.cell hc15 (fun h => h)
      have c16 := hk10.cell hc16 (fun h => h)
      clear c9b c10b c11b hc12 hc13 hc14 hc15 hc16 hk10 hca hcb na nb nc
      obtain ⟨h10, hh10⟩ : ∃ h, rowM c 10 = h := ⟨_, rfl⟩
      have l10 : h10.length ≤ 400 := by rw [← hh10]; exact rowM_len12 HOk.out HW.out (by decide)
      obtain ⟨S10, hS10⟩ : ∃ S, S9 ++ h10 = S := ⟨_, rfl⟩
      have HT10 := Lib.hid (show textM c 11 = S10 by rw [textM_succ, HT9.out, hh10, hS10])
      have hcat10 : bs S9 ++ bs h10 = bs S10 := by rw [bs_cat, hS10]
      have m10 : S10.length ≤ 100000 + 4000 := by rw [← hS10, List.length_append]; omega
      have n10 : ¬ 9223372036854775807 < S9.length + h10.length := by omega
      have HR10 := Lib.hid hh10
      have HSe10 := Lib.hid hS10
      clear hh10 hS10
      rcases Bool.eq_false_or_eq_true (decide (c.v 10 ≠ 0)) with hb10 | hb10
      · rw [hb10] at c10
        have e10 : h10 = [97, 108, 111, 110, 101, 32, 61, 32, 121, 101, 115, 10] := by rw [← HR10.out]; exact row_yes (by decide) (by decide) (of_decide_eq_true hb10)
        subst e10
        have hd10 : bs S9 ++ ({ data := #[97, 108, 111, 110, 101, 32, 61, 32, 121, 101, 115, 10] } : ByteArray) = bs S10 := hcat10
        clear hb10 hcat10
        obtain ⟨h11, hh11⟩ : ∃ h, rowM c 11 = h := ⟨_, rfl⟩
        have l11 : h11.length ≤ 400 := by rw [← hh11]; exact rowM_len12 HOk.out HW.out (by decide)
        obtain ⟨S11, hS11⟩ : ∃ S, S10 ++ h11 = S := ⟨_, rfl⟩
        have HT11 := Lib.hid (show textM c 12 = S11 by rw [textM_succ, HT10.out, hh11, hS11])
        have hcat11 : bs S10 ++ bs h11 = bs S11 := by rw [bs_cat, hS11]
        have m11 : S11.length ≤ 100000 + 4400 := by rw [← hS11, List.length_append]; omega
        have n11 : ¬ 9223372036854775807 < S10.length + h11.length := by omega
        have HR11 := Lib.hid hh11
        have HSe11 := Lib.hid hS11
        clear hh11 hS11
        rcases Bool.eq_false_or_eq_true (decide (c.v 11 ≠ 0)) with hb11 | hb11
        · rw [hb11] at c11
          have e11 : h11 = [119, 101, 97, 107, 32, 61, 32, 121, 101, 115, 10] := by rw [← HR11.out]; exact row_yes (by decide) (by decide) (of_decide_eq_true hb11)
          subst e11
          have hd11 : bs S10 ++ ({ data := #[119, 101, 97, 107, 32, 61, 32, 121, 101, 115, 10] } : ByteArray) = bs S11 := hcat11
          clear hb11 hcat11
          obtain ⟨h12, hh12⟩ : ∃ h, rowM c 12 = h := ⟨_, rfl⟩
          have l12 : h12.length ≤ 400 := by rw [← hh12]; exact rowM_len12 HOk.out HW.out (by decide)
          obtain ⟨S12, hS12⟩ : ∃ S, S11 ++ h12 = S := ⟨_, rfl⟩
          have HT12 := Lib.hid (show textM c 13 = S12 by rw [textM_succ, HT11.out, hh12, hS12])
          have hcat12 : bs S11 ++ bs h12 = bs S12 := by rw [bs_cat, hS12]
          have m12 : S12.length ≤ 100000 + 4800 := by rw [← hS12, List.length_append]; omega
          have n12 : ¬ 9223372036854775807 < S11.length + h12.length := by omega
          have HR12 := Lib.hid (show shM [100, 101, 108, 97, 121] (c.v 12) = h12 from (row_num c 12 (by unfold isNum; decide)).symm.trans hh12)
          have HSe12 := Lib.hid hS12
          clear hh12 hS12
          obtain ⟨h13, hh13⟩ : ∃ h, rowM c 13 = h := ⟨_, rfl⟩
          have l13 : h13.length ≤ 400 := by rw [← hh13]; exact rowM_len12 HOk.out HW.out (by decide)
          obtain ⟨S13, hS13⟩ : ∃ S, S12 ++ h13 = S := ⟨_, rfl⟩
          have HT13 := Lib.hid (show textM c 14 = S13 by rw [textM_succ, HT12.out, hh13, hS13])
          have hcat13 : bs S12 ++ bs h13 = bs S13 := by rw [bs_cat, hS13]
          have m13 : S13.length ≤ 100000 + 5200 := by rw [← hS13, List.length_append]; omega
          have n13 : ¬ 9223372036854775807 < S12.length + h13.length := by omega
          have HR13 := Lib.hid (show shM [116, 101, 114, 109] (c.v 13) = h13 from (row_num c 13 (by unfold isNum; decide)).symm.trans hh13)
          have HSe13 := Lib.hid hS13
          clear hh13 hS13
          obtain ⟨h14, hh14⟩ : ∃ h, rowM c 14 = h := ⟨_, rfl⟩
          have l14 : h14.length ≤ 400 := by rw [← hh14]; exact rowM_len12 HOk.out HW.out (by decide)
          obtain ⟨S14, hS14⟩ : ∃ S, S13 ++ h14 = S := ⟨_, rfl⟩
          have HT14 := Lib.hid (show textM c 15 = S14 by rw [textM_succ, HT13.out, hh14, hS14])
          have hcat14 : bs S13 ++ bs h14 = bs S14 := by rw [bs_cat, hS14]
          have m14 : S14.length ≤ 100000 + 5600 := by rw [← hS14, List.length_append]; omega
          have n14 : ¬ 9223372036854775807 < S13.length + h14.length := by omega
          have HR14 := Lib.hid (show shM [104, 111, 108, 100] (c.v 14) = h14 from (row_num c 14 (by unfold isNum; decide)).symm.trans hh14)
          have HSe14 := Lib.hid hS14
          clear hh14 hS14
          obtain ⟨h15, hh15⟩ : ∃ h, rowM c 15 = h := ⟨_, rfl⟩
          have l15 : h15.length ≤ 400 := by rw [← hh15]; exact rowM_len12 HOk.out HW.out (by decide)
          obtain ⟨S15, hS15⟩ : ∃ S, S14 ++ h15 = S := ⟨_, rfl⟩
          have HT15 := Lib.hid (show textM c 16 = S15 by rw [textM_succ, HT14.out, hh15, hS15])
          have hcat15 : bs S14 ++ bs h15 = bs S15 := by rw [bs_cat, hS15]
          have m15 : S15.length ≤ 100000 + 6000 := by rw [← hS15, List.length_append]; omega
          have n15 : ¬ 9223372036854775807 < S14.length + h15.length := by omega
          have HR15 := Lib.hid (show shM [113, 117, 101, 117, 101] (c.v 15) = h15 from (row_num c 15 (by unfold isNum; decide)).symm.trans hh15)
          have HSe15 := Lib.hid hS15
          clear hh15 hS15
          obtain ⟨h16, hh16⟩ : ∃ h, rowM c 16 = h := ⟨_, rfl⟩
          have l16 : h16.length ≤ 400 := by rw [← hh16]; exact rowM_len12 HOk.out HW.out (by decide)
          obtain ⟨S16, hS16⟩ : ∃ S, S15 ++ h16 = S := ⟨_, rfl⟩
          have HT16 := Lib.hid (show textM c 17 = S16 by rw [textM_succ, HT15.out, hh16, hS16])
          have hcat16 : bs S15 ++ bs h16 = bs S16 := by rw [bs_cat, hS16]
          have m16 : S16.length ≤ 100000 + 6400 := by rw [← hS16, List.length_append]; omega
          have n16 : ¬ 9223372036854775807 < S15.length + h16.length := by omega
          have HR16 := Lib.hid (show shM [101, 118, 101, 110, 116, 115] (c.v 16) = h16 from (row_num c 16 (by unfold isNum; decide)).symm.trans hh16)
          have HSe16 := Lib.hid hS16
          clear hh16 hS16
          go_wp2_with fail
          refine wp_region_krip (Keep (fun _ => False)) (Keep.refl _) keep0_trans 23 (by kernel_rfl) (by kernel_rfl) (Ts := [none, none, some (.inl (.int .i64 (c.v 12))), some (.inl (.string (bs h12))), none, none, some (.inl (.int .i64 (c.v 13))), some (.inl (.string (bs h13))), none, none, some (.inl (.int .i64 (c.v 14))), some (.inl (.string (bs h14))), none, none, some (.inl (.int .i64 (c.v 15))), some (.inl (.string (bs h15))), none, none, some (.inl (.int .i64 (c.v 16))), some (.inl (.string (bs h16))), none, none, none]) ?_
          simp only [List.take, List.drop]
          refine kAll_p (fun K hK => ?_)
          go_simp
          generalize hZ : (Act.mk _ _) = Z
          refine hK Z ?_
          subst hZ
          clear hK K
          refine kAll_p (fun K hK => ?_)
          go_simp
          generalize hZ : (Act.mk _ _) = Z
          refine hK Z ?_
          subst hZ
          clear hK K
          refine kAll_dn _ (fun W hW hF => kStep_of fun K Q hK => ?_) (fun K hK => ?_)
          · have q1 := (keepD (Keep.refl _ _) hW).cell (c12) (fun h => h)
            go_simp
            exact hK _ _ (Keep.refl _ _) rfl
          go_simp
          generalize hZ : (Act.mk _ _) = Z
          refine hK Z ?_
          subst hZ
          clear hK K
          refine kAll_dn _ (fun W hW hF => kStep_of fun K Q hK => ?_) (fun K hK => ?_)
          · go_simp
            refine (rshown_any [100, 101, 108, 97, 121] (by decide) (c.v 12) (by have := (HOk.out.v 12 (by unfold isNum; decide)).1; omega) (by have := (HOk.out.v 12 (by unfold isNum; decide)).2; omega) W).mono ?_
            rintro e w' ⟨rfl, hk⟩
            rw [HR12.out]
            exact hK _ _ hk rfl
          go_simp
          generalize hZ : (Act.mk _ _) = Z
          refine hK Z ?_
          subst hZ
          clear hK K
          refine kAll_p (fun K hK => ?_)
          go_simp
          generalize hZ : (Act.mk _ _) = Z
          refine hK Z ?_
          subst hZ
          clear hK K
          refine kAll_p (fun K hK => ?_)
          go_simp
          generalize hZ : (Act.mk _ _) = Z
          refine hK Z ?_
          subst hZ
          clear hK K
          refine kAll_dn _ (fun W hW hF => kStep_of fun K Q hK => ?_) (fun K hK => ?_)
          · have q1 := (keepD (Keep.refl _ _) hW).cell (c13) (fun h => h)
            go_simp
            exact hK _ _ (Keep.refl _ _) rfl
          go_simp
          generalize hZ : (Act.mk _ _) = Z
          refine hK Z ?_
          subst hZ
          clear hK K
          refine kAll_dn _ (fun W hW hF => kStep_of fun K Q hK => ?_) (fun K hK => ?_)
          · go_simp
            refine (rshown_any [116, 101, 114, 109] (by decide) (c.v 13) (by have := (HOk.out.v 13 (by unfold isNum; decide)).1; omega) (by have := (HOk.out.v 13 (by unfold isNum; decide)).2; omega) W).mono ?_
            rintro e w' ⟨rfl, hk⟩
            rw [HR13.out]
            exact hK _ _ hk rfl
          go_simp
          generalize hZ : (Act.mk _ _) = Z
          refine hK Z ?_
          subst hZ
          clear hK K
          refine kAll_p (fun K hK => ?_)
          go_simp
          generalize hZ : (Act.mk _ _) = Z
          refine hK Z ?_
          subst hZ
          clear hK K
          refine kAll_p (fun K hK => ?_)
          go_simp
          generalize hZ : (Act.mk _ _) = Z
          refine hK Z ?_
          subst hZ
          clear hK K
          refine kAll_dn _ (fun W hW hF => kStep_of fun K Q hK => ?_) (fun K hK => ?_)
          · have q1 := (keepD (Keep.refl _ _) hW).cell (c14) (fun h => h)
            go_simp
            exact hK _ _ (Keep.refl _ _) rfl
          go_simp
          generalize hZ : (Act.mk _ _) = Z
          refine hK Z ?_
          subst hZ
          clear hK K
          refine kAll_dn _ (fun W hW hF => kStep_of fun K Q hK => ?_) (fun K hK => ?_)
          · go_simp
            refine (rshown_any [104, 111, 108, 100] (by decide) (c.v 14) (by have := (HOk.out.v 14 (by unfold isNum; decide)).1; omega) (by have := (HOk.out.v 14 (by unfold isNum; decide)).2; omega) W).mono ?_
            rintro e w' ⟨rfl, hk⟩
            rw [HR14.out]
            exact hK _ _ hk rfl
          go_simp
          generalize hZ : (Act.mk _ _) = Z
          refine hK Z ?_
          subst hZ
          clear hK K
          refine kAll_p (fun K hK => ?_)
          go_simp
          generalize hZ : (Act.mk _ _) = Z
          refine hK Z ?_
          subst hZ
          clear hK K
          refine kAll_p (fun K hK => ?_)
          go_simp
          generalize hZ : (Act.mk _ _) = Z
          refine hK Z ?_
          subst hZ
          clear hK K
          refine kAll_dn _ (fun W hW hF => kStep_of fun K Q hK => ?_) (fun K hK => ?_)
          · have q1 := (keepD (Keep.refl _ _) hW).cell (c15) (fun h => h)
            go_simp
            exact hK _ _ (Keep.refl _ _) rfl
          go_simp
          generalize hZ : (Act.mk _ _) = Z
          refine hK Z ?_
          subst hZ
          clear hK K
          refine kAll_dn _ (fun W hW hF => kStep_of fun K Q hK => ?_) (fun K hK => ?_)
          · go_simp
            refine (rshown_any [113, 117, 101, 117, 101] (by decide) (c.v 15) (by have := (HOk.out.v 15 (by unfold isNum; decide)).1; omega) (by have := (HOk.out.v 15 (by unfold isNum; decide)).2; omega) W).mono ?_
            rintro e w' ⟨rfl, hk⟩
            rw [HR15.out]
            exact hK _ _ hk rfl
          go_simp
          generalize hZ : (Act.mk _ _) = Z
          refine hK Z ?_
          subst hZ
          clear hK K
          refine kAll_p (fun K hK => ?_)
          go_simp
          generalize hZ : (Act.mk _ _) = Z
          refine hK Z ?_
          subst hZ
          clear hK K
          refine kAll_p (fun K hK => ?_)
          go_simp
          generalize hZ : (Act.mk _ _) = Z
          refine hK Z ?_
          subst hZ
          clear hK K
          refine kAll_dn _ (fun W hW hF => kStep_of fun K Q hK => ?_) (fun K hK => ?_)
          · have q1 := (keepD (Keep.refl _ _) hW).cell (c16) (fun h => h)
            go_simp
            exact hK _ _ (Keep.refl _ _) rfl
          go_simp
          generalize hZ : (Act.mk _ _) = Z
          refine hK Z ?_
          subst hZ
          clear hK K
          refine kAll_dn _ (fun W hW hF => kStep_of fun K Q hK => ?_) (fun K hK => ?_)
          · go_simp
            refine (rshown_any [101, 118, 101, 110, 116, 115] (by decide) (c.v 16) (by have := (HOk.out.v 16 (by unfold isNum; decide)).1; omega) (by have := (HOk.out.v 16 (by unfold isNum; decide)).2; omega) W).mono ?_
            rintro e w' ⟨rfl, hk⟩
            rw [HR16.out]
            exact hK _ _ hk rfl
          go_simp
          generalize hZ : (Act.mk _ _) = Z
          refine hK Z ?_
          subst hZ
          clear hK K
          refine kAll_p (fun K hK => ?_)
          go_simp
          generalize hZ : (Act.mk _ _) = Z
          refine hK Z ?_
          subst hZ
          clear hK K
          refine kAll_p (fun K hK => ?_)
          go_simp
          generalize hZ : (Act.mk _ _) = Z
          refine hK Z ?_
          subst hZ
          clear hK K
          refine kAll_p (fun K hK => ?_)
          go_simp
          generalize hZ : (Act.mk _ _) = Z
          refine hK Z ?_
          subst hZ
          clear hK K
          refine kAll_nil (fun W10 hW hF => ?_)
          have HKv10 := Lib.hid (keep0_trans _ _ _ HKv9.out (keepD (Keep.refl _ _) hW))
          clear hF hW
          go_wp2
          go_ret2
          exact ⟨by rw [HSr.out, HT16.out]; rfl, keep0_trans _ _ _ HK0.out HKv10.out⟩
        · rw [hb11] at c11
          have e11 : h11 = [] := by rw [← HR11.out]; exact row_not (by decide) (of_decide_eq_false hb11)
          have f11 : S10 = S11 := by rw [← HSe11.out, e11, List.append_nil]
          have f11 := f11.symm
          subst e11
          subst f11
          clear hb11 hcat11
          obtain ⟨h12, hh12⟩ : ∃ h, rowM c 12 = h := ⟨_, rfl⟩
          have l12 : h12.length ≤ 400 := by rw [← hh12]; exact rowM_len12 HOk.out HW.out (by decide)
          obtain ⟨S12, hS12⟩ : ∃ S, S11 ++ h12 = S := ⟨_, rfl⟩
          have HT12 := Lib.hid (show textM c 13 = S12 by rw [textM_succ, HT11.out, hh12, hS12])
          have hcat12 : bs S11 ++ bs h12 = bs S12 := by rw [bs_cat, hS12]
          have m12 : S12.length ≤ 100000 + 4800 := by rw [← hS12, List.length_append]; omega
          have n12 : ¬ 9223372036854775807 < S11.length + h12.length := by omega
          have HR12 := Lib.hid (show shM [100, 101, 108, 97, 121] (c.v 12) = h12 from (row_num c 12 (by unfold isNum; decide)).symm.trans hh12)
          have HSe12 := Lib.hid hS12
          clear hh12 hS12
          obtain ⟨h13, hh13⟩ : ∃ h, rowM c 13 = h := ⟨_, rfl⟩
          have l13 : h13.length ≤ 400 := by rw [← hh13]; exact rowM_len12 HOk.out HW.out (by decide)
          obtain ⟨S13, hS13⟩ : ∃ S, S12 ++ h13 = S := ⟨_, rfl⟩
          have HT13 := Lib.hid (show textM c 14 = S13 by rw [textM_succ, HT12.out, hh13, hS13])
          have hcat13 : bs S12 ++ bs h13 = bs S13 := by rw [bs_cat, hS13]
          have m13 : S13.length ≤ 100000 + 5200 := by rw [← hS13, List.length_append]; omega
          have n13 : ¬ 9223372036854775807 < S12.length + h13.length := by omega
          have HR13 := Lib.hid (show shM [116, 101, 114, 109] (c.v 13) = h13 from (row_num c 13 (by unfold isNum; decide)).symm.trans hh13)
          have HSe13 := Lib.hid hS13
          clear hh13 hS13
          obtain ⟨h14, hh14⟩ : ∃ h, rowM c 14 = h := ⟨_, rfl⟩
          have l14 : h14.length ≤ 400 := by rw [← hh14]; exact rowM_len12 HOk.out HW.out (by decide)
          obtain ⟨S14, hS14⟩ : ∃ S, S13 ++ h14 = S := ⟨_, rfl⟩
          have HT14 := Lib.hid (show textM c 15 = S14 by rw [textM_succ, HT13.out, hh14, hS14])
          have hcat14 : bs S13 ++ bs h14 = bs S14 := by rw [bs_cat, hS14]
          have m14 : S14.length ≤ 100000 + 5600 := by rw [← hS14, List.length_append]; omega
          have n14 : ¬ 9223372036854775807 < S13.length + h14.length := by omega
          have HR14 := Lib.hid (show shM [104, 111, 108, 100] (c.v 14) = h14 from (row_num c 14 (by unfold isNum; decide)).symm.trans hh14)
          have HSe14 := Lib.hid hS14
          clear hh14 hS14
          obtain ⟨h15, hh15⟩ : ∃ h, rowM c 15 = h := ⟨_, rfl⟩
          have l15 : h15.length ≤ 400 := by rw [← hh15]; exact rowM_len12 HOk.out HW.out (by decide)
          obtain ⟨S15, hS15⟩ : ∃ S, S14 ++ h15 = S := ⟨_, rfl⟩
          have HT15 := Lib.hid (show textM c 16 = S15 by rw [textM_succ, HT14.out, hh15, hS15])
          have hcat15 : bs S14 ++ bs h15 = bs S15 := by rw [bs_cat, hS15]
          have m15 : S15.length ≤ 100000 + 6000 := by rw [← hS15, List.length_append]; omega
          have n15 : ¬ 9223372036854775807 < S14.length + h15.length := by omega
          have HR15 := Lib.hid (show shM [113, 117, 101, 117, 101] (c.v 15) = h15 from (row_num c 15 (by unfold isNum; decide)).symm.trans hh15)
          have HSe15 := Lib.hid hS15
          clear hh15 hS15
          obtain ⟨h16, hh16⟩ : ∃ h, rowM c 16 = h := ⟨_, rfl⟩
          have l16 : h16.length ≤ 400 := by rw [← hh16]; exact rowM_len12 HOk.out HW.out (by decide)
          obtain ⟨S16, hS16⟩ : ∃ S, S15 ++ h16 = S := ⟨_, rfl⟩
          have HT16 := Lib.hid (show textM c 17 = S16 by rw [textM_succ, HT15.out, hh16, hS16])
          have hcat16 : bs S15 ++ bs h16 = bs S16 := by rw [bs_cat, hS16]
          have m16 : S16.length ≤ 100000 + 6400 := by rw [← hS16, List.length_append]; omega
          have n16 : ¬ 9223372036854775807 < S15.length + h16.length := by omega
          have HR16 := Lib.hid (show shM [101, 118, 101, 110, 116, 115] (c.v 16) = h16 from (row_num c 16 (by unfold isNum; decide)).symm.trans hh16)
          have HSe16 := Lib.hid hS16
          clear hh16 hS16
          go_wp2_with fail
          refine wp_region_krip (Keep (fun _ => False)) (Keep.refl _) keep0_trans 23 (by kernel_rfl) (by kernel_rfl) (Ts := [none, none, some (.inl (.int .i64 (c.v 12))), some (.inl (.string (bs h12))), none, none, some (.inl (.int .i64 (c.v 13))), some (.inl (.string (bs h13))), none, none, some (.inl (.int .i64 (c.v 14))), some (.inl (.string (bs h14))), none, none, some (.inl (.int .i64 (c.v 15))), some (.inl (.string (bs h15))), none, none, some (.inl (.int .i64 (c.v 16))), some (.inl (.string (bs h16))), none, none, none]) ?_
          simp only [List.take, List.drop]
          refine kAll_p (fun K hK => ?_)
          go_simp
          generalize hZ : (Act.mk _ _) = Z
          refine hK Z ?_
          subst hZ
          clear hK K
          refine kAll_p (fun K hK => ?_)
          go_simp
          generalize hZ : (Act.mk _ _) = Z
          refine hK Z ?_
          subst hZ
          clear hK K
          refine kAll_dn _ (fun W hW hF => kStep_of fun K Q hK => ?_) (fun K hK => ?_)
          · have q1 := (keepD (Keep.refl _ _) hW).cell (c12) (fun h => h)
            go_simp
            exact hK _ _ (Keep.refl _ _) rfl
          go_simp
          generalize hZ : (Act.mk _ _) = Z
          refine hK Z ?_
          subst hZ
          clear hK K
          refine kAll_dn _ (fun W hW hF => kStep_of fun K Q hK => ?_) (fun K hK => ?_)
          · go_simp
            refine (rshown_any [100, 101, 108, 97, 121] (by decide) (c.v 12) (by have := (HOk.out.v 12 (by unfold isNum; decide)).1; omega) (by have := (HOk.out.v 12 (by unfold isNum; decide)).2; omega) W).mono ?_
            rintro e w' ⟨rfl, hk⟩
            rw [HR12.out]
            exact hK _ _ hk rfl
          go_simp
          generalize hZ : (Act.mk _ _) = Z
          refine hK Z ?_
          subst hZ
          clear hK K
          refine kAll_p (fun K hK => ?_)
          go_simp
          generalize hZ : (Act.mk _ _) = Z
          refine hK Z ?_
          subst hZ
          clear hK K
          refine kAll_p (fun K hK => ?_)
          go_simp
          generalize hZ : (Act.mk _ _) = Z
          refine hK Z ?_
          subst hZ
          clear hK K
          refine kAll_dn _ (fun W hW hF => kStep_of fun K Q hK => ?_) (fun K hK => ?_)
          · have q1 := (keepD (Keep.refl _ _) hW).cell (c13) (fun h => h)
            go_simp
            exact hK _ _ (Keep.refl _ _) rfl
          go_simp
          generalize hZ : (Act.mk _ _) = Z
          refine hK Z ?_
          subst hZ
          clear hK K
          refine kAll_dn _ (fun W hW hF => kStep_of fun K Q hK => ?_) (fun K hK => ?_)
          · go_simp
            refine (rshown_any [116, 101, 114, 109] (by decide) (c.v 13) (by have := (HOk.out.v 13 (by unfold isNum; decide)).1; omega) (by have := (HOk.out.v 13 (by unfold isNum; decide)).2; omega) W).mono ?_
            rintro e w' ⟨rfl, hk⟩
            rw [HR13.out]
            exact hK _ _ hk rfl
          go_simp
          generalize hZ : (Act.mk _ _) = Z
          refine hK Z ?_
          subst hZ
          clear hK K
          refine kAll_p (fun K hK => ?_)
          go_simp
          generalize hZ : (Act.mk _ _) = Z
          refine hK Z ?_
          subst hZ
          clear hK K
          refine kAll_p (fun K hK => ?_)
          go_simp
          generalize hZ : (Act.mk _ _) = Z
          refine hK Z ?_
          subst hZ
          clear hK K
          refine kAll_dn _ (fun W hW hF => kStep_of fun K Q hK => ?_) (fun K hK => ?_)
          · have q1 := (keepD (Keep.refl _ _) hW).cell (c14) (fun h => h)
            go_simp
            exact hK _ _ (Keep.refl _ _) rfl
          go_simp
          generalize hZ : (Act.mk _ _) = Z
          refine hK Z ?_
          subst hZ
          clear hK K
          refine kAll_dn _ (fun W hW hF => kStep_of fun K Q hK => ?_) (fun K hK => ?_)
          · go_simp
            refine (rshown_any [104, 111, 108, 100] (by decide) (c.v 14) (by have := (HOk.out.v 14 (by unfold isNum; decide)).1; omega) (by have := (HOk.out.v 14 (by unfold isNum; decide)).2; omega) W).mono ?_
            rintro e w' ⟨rfl, hk⟩
            rw [HR14.out]
            exact hK _ _ hk rfl
          go_simp
          generalize hZ : (Act.mk _ _) = Z
          refine hK Z ?_
          subst hZ
          clear hK K
          refine kAll_p (fun K hK => ?_)
          go_simp
          generalize hZ : (Act.mk _ _) = Z
          refine hK Z ?_
          subst hZ
          clear hK K
          refine kAll_p (fun K hK => ?_)
          go_simp
          generalize hZ : (Act.mk _ _) = Z
          refine hK Z ?_
          subst hZ
          clear hK K
          refine kAll_dn _ (fun W hW hF => kStep_of fun K Q hK => ?_) (fun K hK => ?_)
          · have q1 := (keepD (Keep.refl _ _) hW).cell (c15) (fun h => h)
            go_simp
            exact hK _ _ (Keep.refl _ _) rfl
          go_simp
          generalize hZ : (Act.mk _ _) = Z
          refine hK Z ?_
          subst hZ
          clear hK K
          refine kAll_dn _ (fun W hW hF => kStep_of fun K Q hK => ?_) (fun K hK => ?_)
          · go_simp
            refine (rshown_any [113, 117, 101, 117, 101] (by decide) (c.v 15) (by have := (HOk.out.v 15 (by unfold isNum; decide)).1; omega) (by have := (HOk.out.v 15 (by unfold isNum; decide)).2; omega) W).mono ?_
            rintro e w' ⟨rfl, hk⟩
            rw [HR15.out]
            exact hK _ _ hk rfl
          go_simp
          generalize hZ : (Act.mk _ _) = Z
          refine hK Z ?_
          subst hZ
          clear hK K
          refine kAll_p (fun K hK => ?_)
          go_simp
          generalize hZ : (Act.mk _ _) = Z
          refine hK Z ?_
          subst hZ
          clear hK K
          refine kAll_p (fun K hK => ?_)
          go_simp
          generalize hZ : (Act.mk _ _) = Z
          refine hK Z ?_
          subst hZ
          clear hK K
          refine kAll_dn _ (fun W hW hF => kStep_of fun K Q hK => ?_) (fun K hK => ?_)
          · have q1 := (keepD (Keep.refl _ _) hW).cell (c16) (fun h => h)
            go_simp
            exact hK _ _ (Keep.refl _ _) rfl
          go_simp
          generalize hZ : (Act.mk _ _) = Z
          refine hK Z ?_
          subst hZ
          clear hK K
          refine kAll_dn _ (fun W hW hF => kStep_of fun K Q hK => ?_) (fun K hK => ?_)
          · go_simp
            refine (rshown_any [101, 118, 101, 110, 116, 115] (by decide) (c.v 16) (by have := (HOk.out.v 16 (by unfold isNum; decide)).1; omega) (by have := (HOk.out.v 16 (by unfold isNum; decide)).2; omega) W).mono ?_
            rintro e w' ⟨rfl, hk⟩
            rw [HR16.out]
            exact hK _ _ hk rfl
          go_simp
          generalize hZ : (Act.mk _ _) = Z
          refine hK Z ?_
          subst hZ
          clear hK K
          refine kAll_p (fun K hK => ?_)
          go_simp
          generalize hZ : (Act.mk _ _) = Z
          refine hK Z ?_
          subst hZ
          clear hK K
          refine kAll_p (fun K hK => ?_)
          go_simp
          generalize hZ : (Act.mk _ _) = Z
          refine hK Z ?_
          subst hZ
          clear hK K
          refine kAll_p (fun K hK => ?_)
          go_simp
          generalize hZ : (Act.mk _ _) = Z
          refine hK Z ?_
          subst hZ
          clear hK K
          refine kAll_nil (fun W10 hW hF => ?_)
          have HKv10 := Lib.hid (keep0_trans _ _ _ HKv9.out (keepD (Keep.refl _ _) hW))
          clear hF hW
          go_wp2
          go_ret2
          exact ⟨by rw [HSr.out, HT16.out]; rfl, keep0_trans _ _ _ HK0.out HKv10.out⟩
      · rw [hb10] at c10
        have e10 : h10 = [] := by rw [← HR10.out]; exact row_not (by decide) (of_decide_eq_false hb10)
        have f10 : S9 = S10 := by rw [← HSe10.out, e10, List.append_nil]
        have f10 := f10.symm
        subst e10
        subst f10
        clear hb10 hcat10
        obtain ⟨h11, hh11⟩ : ∃ h, rowM c 11 = h := ⟨_, rfl⟩
        have l11 : h11.length ≤ 400 := by rw [← hh11]; exact rowM_len12 HOk.out HW.out (by decide)
        obtain ⟨S11, hS11⟩ : ∃ S, S10 ++ h11 = S := ⟨_, rfl⟩
        have HT11 := Lib.hid (show textM c 12 = S11 by rw [textM_succ, HT10.out, hh11, hS11])
        have hcat11 : bs S10 ++ bs h11 = bs S11 := by rw [bs_cat, hS11]
        have m11 : S11.length ≤ 100000 + 4400 := by rw [← hS11, List.length_append]; omega
        have n11 : ¬ 9223372036854775807 < S10.length + h11.length := by omega
        have HR11 := Lib.hid hh11
        have HSe11 := Lib.hid hS11
        clear hh11 hS11
        rcases Bool.eq_false_or_eq_true (decide (c.v 11 ≠ 0)) with hb11 | hb11
        · rw [hb11] at c11
          have e11 : h11 = [119, 101, 97, 107, 32, 61, 32, 121, 101, 115, 10] := by rw [← HR11.out]; exact row_yes (by decide) (by decide) (of_decide_eq_true hb11)
          subst e11
          have hd11 : bs S10 ++ ({ data := #[119, 101, 97, 107, 32, 61, 32, 121, 101, 115, 10] } : ByteArray) = bs S11 := hcat11
          clear hb11 hcat11
          obtain ⟨h12, hh12⟩ : ∃ h, rowM c 12 = h := ⟨_, rfl⟩
          have l12 : h12.length ≤ 400 := by rw [← hh12]; exact rowM_len12 HOk.out HW.out (by decide)
          obtain ⟨S12, hS12⟩ : ∃ S, S11 ++ h12 = S := ⟨_, rfl⟩
          have HT12 := Lib.hid (show textM c 13 = S12 by rw [textM_succ, HT11.out, hh12, hS12])
          have hcat12 : bs S11 ++ bs h12 = bs S12 := by rw [bs_cat, hS12]
          have m12 : S12.length ≤ 100000 + 4800 := by rw [← hS12, List.length_append]; omega
          have n12 : ¬ 9223372036854775807 < S11.length + h12.length := by omega
          have HR12 := Lib.hid (show shM [100, 101, 108, 97, 121] (c.v 12) = h12 from (row_num c 12 (by unfold isNum; decide)).symm.trans hh12)
          have HSe12 := Lib.hid hS12
          clear hh12 hS12
          obtain ⟨h13, hh13⟩ : ∃ h, rowM c 13 = h := ⟨_, rfl⟩
          have l13 : h13.length ≤ 400 := by rw [← hh13]; exact rowM_len12 HOk.out HW.out (by decide)
          obtain ⟨S13, hS13⟩ : ∃ S, S12 ++ h13 = S := ⟨_, rfl⟩
          have HT13 := Lib.hid (show textM c 14 = S13 by rw [textM_succ, HT12.out, hh13, hS13])
          have hcat13 : bs S12 ++ bs h13 = bs S13 := by rw [bs_cat, hS13]
          have m13 : S13.length ≤ 100000 + 5200 := by rw [← hS13, List.length_append]; omega
          have n13 : ¬ 9223372036854775807 < S12.length + h13.length := by omega
          have HR13 := Lib.hid (show shM [116, 101, 114, 109] (c.v 13) = h13 from (row_num c 13 (by unfold isNum; decide)).symm.trans hh13)
          have HSe13 := Lib.hid hS13
          clear hh13 hS13
          obtain ⟨h14, hh14⟩ : ∃ h, rowM c 14 = h := ⟨_, rfl⟩
          have l14 : h14.length ≤ 400 := by rw [← hh14]; exact rowM_len12 HOk.out HW.out (by decide)
          obtain ⟨S14, hS14⟩ : ∃ S, S13 ++ h14 = S := ⟨_, rfl⟩
          have HT14 := Lib.hid (show textM c 15 = S14 by rw [textM_succ, HT13.out, hh14, hS14])
          have hcat14 : bs S13 ++ bs h14 = bs S14 := by rw [bs_cat, hS14]
          have m14 : S14.length ≤ 100000 + 5600 := by rw [← hS14, List.length_append]; omega
          have n14 : ¬ 9223372036854775807 < S13.length + h14.length := by omega
          have HR14 := Lib.hid (show shM [104, 111, 108, 100] (c.v 14) = h14 from (row_num c 14 (by unfold isNum; decide)).symm.trans hh14)
          have HSe14 := Lib.hid hS14
          clear hh14 hS14
          obtain ⟨h15, hh15⟩ : ∃ h, rowM c 15 = h := ⟨_, rfl⟩
          have l15 : h15.length ≤ 400 := by rw [← hh15]; exact rowM_len12 HOk.out HW.out (by decide)
          obtain ⟨S15, hS15⟩ : ∃ S, S14 ++ h15 = S := ⟨_, rfl⟩
          have HT15 := Lib.hid (show textM c 16 = S15 by rw [textM_succ, HT14.out, hh15, hS15])
          have hcat15 : bs S14 ++ bs h15 = bs S15 := by rw [bs_cat, hS15]
          have m15 : S15.length ≤ 100000 + 6000 := by rw [← hS15, List.length_append]; omega
          have n15 : ¬ 9223372036854775807 < S14.length + h15.length := by omega
          have HR15 := Lib.hid (show shM [113, 117, 101, 117, 101] (c.v 15) = h15 from (row_num c 15 (by unfold isNum; decide)).symm.trans hh15)
          have HSe15 := Lib.hid hS15
          clear hh15 hS15
          obtain ⟨h16, hh16⟩ : ∃ h, rowM c 16 = h := ⟨_, rfl⟩
          have l16 : h16.length ≤ 400 := by rw [← hh16]; exact rowM_len12 HOk.out HW.out (by decide)
          obtain ⟨S16, hS16⟩ : ∃ S, S15 ++ h16 = S := ⟨_, rfl⟩
          have HT16 := Lib.hid (show textM c 17 = S16 by rw [textM_succ, HT15.out, hh16, hS16])
          have hcat16 : bs S15 ++ bs h16 = bs S16 := by rw [bs_cat, hS16]
          have m16 : S16.length ≤ 100000 + 6400 := by rw [← hS16, List.length_append]; omega
          have n16 : ¬ 9223372036854775807 < S15.length + h16.length := by omega
          have HR16 := Lib.hid (show shM [101, 118, 101, 110, 116, 115] (c.v 16) = h16 from (row_num c 16 (by unfold isNum; decide)).symm.trans hh16)
          have HSe16 := Lib.hid hS16
          clear hh16 hS16
          go_wp2_with fail
          refine wp_region_krip (Keep (fun _ => False)) (Keep.refl _) keep0_trans 23 (by kernel_rfl) (by kernel_rfl) (Ts := [none, none, some (.inl (.int .i64 (c.v 12))), some (.inl (.string (bs h12))), none, none, some (.inl (.int .i64 (c.v 13))), some (.inl (.string (bs h13))), none, none, some (.inl (.int .i64 (c.v 14))), some (.inl (.string (bs h14))), none, none, some (.inl (.int .i64 (c.v 15))), some (.inl (.string (bs h15))), none, none, some (.inl (.int .i64 (c.v 16))), some (.inl (.string (bs h16))), none, none, none]) ?_
          simp only [List.take, List.drop]
          refine kAll_p (fun K hK => ?_)
          go_simp
          generalize hZ : (Act.mk _ _) = Z
          refine hK Z ?_
          subst hZ
          clear hK K
          refine kAll_p (fun K hK => ?_)
          go_simp
          generalize hZ : (Act.mk _ _) = Z
          refine hK Z ?_
          subst hZ
          clear hK K
          refine kAll_dn _ (fun W hW hF => kStep_of fun K Q hK => ?_) (fun K hK => ?_)
          · have q1 := (keepD (Keep.refl _ _) hW).cell (c12) (fun h => h)
            go_simp
            exact hK _ _ (Keep.refl _ _) rfl
          go_simp
          generalize hZ : (Act.mk _ _) = Z
          refine hK Z ?_
          subst hZ
          clear hK K
          refine kAll_dn _ (fun W hW hF => kStep_of fun K Q hK => ?_) (fun K hK => ?_)
          · go_simp
            refine (rshown_any [100, 101, 108, 97, 121] (by decide) (c.v 12) (by have := (HOk.out.v 12 (by unfold isNum; decide)).1; omega) (by have := (HOk.out.v 12 (by unfold isNum; decide)).2; omega) W).mono ?_
            rintro e w' ⟨rfl, hk⟩
            rw [HR12.out]
            exact hK _ _ hk rfl
          go_simp
          generalize hZ : (Act.mk _ _) = Z
          refine hK Z ?_
          subst hZ
          clear hK K
          refine kAll_p (fun K hK => ?_)
          go_simp
          generalize hZ : (Act.mk _ _) = Z
          refine hK Z ?_
          subst hZ
          clear hK K
          refine kAll_p (fun K hK => ?_)
          go_simp
          generalize hZ : (Act.mk _ _) = Z
          refine hK Z ?_
          subst hZ
          clear hK K
          refine kAll_dn _ (fun W hW hF => kStep_of fun K Q hK => ?_) (fun K hK => ?_)
          · have q1 := (keepD (Keep.refl _ _) hW).cell (c13) (fun h => h)
            go_simp
            exact hK _ _ (Keep.refl _ _) rfl
          go_simp
          generalize hZ : (Act.mk _ _) = Z
          refine hK Z ?_
          subst hZ
          clear hK K
          refine kAll_dn _ (fun W hW hF => kStep_of fun K Q hK => ?_) (fun K hK => ?_)
          · go_simp
            refine (rshown_any [116, 101, 114, 109] (by decide) (c.v 13) (by have := (HOk.out.v 13 (by unfold isNum; decide)).1; omega) (by have := (HOk.out.v 13 (by unfold isNum; decide)).2; omega) W).mono ?_
            rintro e w' ⟨rfl, hk⟩
            rw [HR13.out]
            exact hK _ _ hk rfl
          go_simp
          generalize hZ : (Act.mk _ _) = Z
          refine hK Z ?_
          subst hZ
          clear hK K
          refine kAll_p (fun K hK => ?_)
          go_simp
          generalize hZ : (Act.mk _ _) = Z
          refine hK Z ?_
          subst hZ
          clear hK K
          refine kAll_p (fun K hK => ?_)
          go_simp
          generalize hZ : (Act.mk _ _) = Z
          refine hK Z ?_
          subst hZ
          clear hK K
          refine kAll_dn _ (fun W hW hF => kStep_of fun K Q hK => ?_) (fun K hK => ?_)
          · have q1 := (keepD (Keep.refl _ _) hW).cell (c14) (fun h => h)
            go_simp
            exact hK _ _ (Keep.refl _ _) rfl
          go_simp
          generalize hZ : (Act.mk _ _) = Z
          refine hK Z ?_
          subst hZ
          clear hK K
          refine kAll_dn _ (fun W hW hF => kStep_of fun K Q hK => ?_) (fun K hK => ?_)
          · go_simp
            refine (rshown_any [104, 111, 108, 100] (by decide) (c.v 14) (by have := (HOk.out.v 14 (by unfold isNum; decide)).1; omega) (by have := (HOk.out.v 14 (by unfold isNum; decide)).2; omega) W).mono ?_
            rintro e w' ⟨rfl, hk⟩
            rw [HR14.out]
            exact hK _ _ hk rfl
          go_simp
          generalize hZ : (Act.mk _ _) = Z
          refine hK Z ?_
          subst hZ
          clear hK K
          refine kAll_p (fun K hK => ?_)
          go_simp
          generalize hZ : (Act.mk _ _) = Z
          refine hK Z ?_
          subst hZ
          clear hK K
          refine kAll_p (fun K hK => ?_)
          go_simp
          generalize hZ : (Act.mk _ _) = Z
          refine hK Z ?_
          subst hZ
          clear hK K
          refine kAll_dn _ (fun W hW hF => kStep_of fun K Q hK => ?_) (fun K hK => ?_)
          · have q1 := (keepD (Keep.refl _ _) hW).cell (c15) (fun h => h)
            go_simp
            exact hK _ _ (Keep.refl _ _) rfl
          go_simp
          generalize hZ : (Act.mk _ _) = Z
          refine hK Z ?_
          subst hZ
          clear hK K
          refine kAll_dn _ (fun W hW hF => kStep_of fun K Q hK => ?_) (fun K hK => ?_)
          · go_simp
            refine (rshown_any [113, 117, 101, 117, 101] (by decide) (c.v 15) (by have := (HOk.out.v 15 (by unfold isNum; decide)).1; omega) (by have := (HOk.out.v 15 (by unfold isNum; decide)).2; omega) W).mono ?_
            rintro e w' ⟨rfl, hk⟩
            rw [HR15.out]
            exact hK _ _ hk rfl
          go_simp
          generalize hZ : (Act.mk _ _) = Z
          refine hK Z ?_
          subst hZ
          clear hK K
          refine kAll_p (fun K hK => ?_)
          go_simp
          generalize hZ : (Act.mk _ _) = Z
          refine hK Z ?_
          subst hZ
          clear hK K
          refine kAll_p (fun K hK => ?_)
          go_simp
          generalize hZ : (Act.mk _ _) = Z
          refine hK Z ?_
          subst hZ
          clear hK K
          refine kAll_dn _ (fun W hW hF => kStep_of fun K Q hK => ?_) (fun K hK => ?_)
          · have q1 := (keepD (Keep.refl _ _) hW).cell (c16) (fun h => h)
            go_simp
            exact hK _ _ (Keep.refl _ _) rfl
          go_simp
          generalize hZ : (Act.mk _ _) = Z
          refine hK Z ?_
          subst hZ
          clear hK K
          refine kAll_dn _ (fun W hW hF => kStep_of fun K Q hK => ?_) (fun K hK => ?_)
          · go_simp
            refine (rshown_any [101, 118, 101, 110, 116, 115] (by decide) (c.v 16) (by have := (HOk.out.v 16 (by unfold isNum; decide)).1; omega) (by have := (HOk.out.v 16 (by unfold isNum; decide)).2; omega) W).mono ?_
            rintro e w' ⟨rfl, hk⟩
            rw [HR16.out]
            exact hK _ _ hk rfl
          go_simp
          generalize hZ : (Act.mk _ _) = Z
          refine hK Z ?_
          subst hZ
          clear hK K
          refine kAll_p (fun K hK => ?_)
          go_simp
          generalize hZ : (Act.mk _ _) = Z
          refine hK Z ?_
          subst hZ
          clear hK K
          refine kAll_p (fun K hK => ?_)
          go_simp
          generalize hZ : (Act.mk _ _) = Z
          refine hK Z ?_
          subst hZ
          clear hK K
          refine kAll_p (fun K hK => ?_)
          go_simp
          generalize hZ : (Act.mk _ _) = Z
          refine hK Z ?_
          subst hZ
          clear hK K
          refine kAll_nil (fun W10 hW hF => ?_)
          have HKv10 := Lib.hid (keep0_trans _ _ _ HKv9.out (keepD (Keep.refl _ _) hW))
          clear hF hW
          go_wp2
          go_ret2
          exact ⟨by rw [HSr.out, HT16.out]; rfl, keep0_trans _ _ _ HK0.out HKv10.out⟩
        · rw [hb11] at c11
          have e11 : h11 = [] := by rw [← HR11.out]; exact row_not (by decide) (of_decide_eq_false hb11)
          have f11 : S10 = S11 := by rw [← HSe11.out, e11, List.append_nil]
          have f11 := f11.symm
          subst e11
          subst f11
          clear hb11 hcat11
          obtain ⟨h12, hh12⟩ : ∃ h, rowM c 12 = h := ⟨_, rfl⟩
          have l12 : h12.length ≤ 400 := by rw [← hh12]; exact rowM_len12 HOk.out HW.out (by decide)
          obtain ⟨S12, hS12⟩ : ∃ S, S11 ++ h12 = S := ⟨_, rfl⟩
          have HT12 := Lib.hid (show textM c 13 = S12 by rw [textM_succ, HT11.out, hh12, hS12])
          have hcat12 : bs S11 ++ bs h12 = bs S12 := by rw [bs_cat, hS12]
          have m12 : S12.length ≤ 100000 + 4800 := by rw [← hS12, List.length_append]; omega
          have n12 : ¬ 9223372036854775807 < S11.length + h12.length := by omega
          have HR12 := Lib.hid (show shM [100, 101, 108, 97, 121] (c.v 12) = h12 from (row_num c 12 (by unfold isNum; decide)).symm.trans hh12)
          have HSe12 := Lib.hid hS12
          clear hh12 hS12
          obtain ⟨h13, hh13⟩ : ∃ h, rowM c 13 = h := ⟨_, rfl⟩
          have l13 : h13.length ≤ 400 := by rw [← hh13]; exact rowM_len12 HOk.out HW.out (by decide)
          obtain ⟨S13, hS13⟩ : ∃ S, S12 ++ h13 = S := ⟨_, rfl⟩
          have HT13 := Lib.hid (show textM c 14 = S13 by rw [textM_succ, HT12.out, hh13, hS13])
          have hcat13 : bs S12 ++ bs h13 = bs S13 := by rw [bs_cat, hS13]
          have m13 : S13.length ≤ 100000 + 5200 := by rw [← hS13, List.length_append]; omega
          have n13 : ¬ 9223372036854775807 < S12.length + h13.length := by omega
          have HR13 := Lib.hid (show shM [116, 101, 114, 109] (c.v 13) = h13 from (row_num c 13 (by unfold isNum; decide)).symm.trans hh13)
          have HSe13 := Lib.hid hS13
          clear hh13 hS13
          obtain ⟨h14, hh14⟩ : ∃ h, rowM c 14 = h := ⟨_, rfl⟩
          have l14 : h14.length ≤ 400 := by rw [← hh14]; exact rowM_len12 HOk.out HW.out (by decide)
          obtain ⟨S14, hS14⟩ : ∃ S, S13 ++ h14 = S := ⟨_, rfl⟩
          have HT14 := Lib.hid (show textM c 15 = S14 by rw [textM_succ, HT13.out, hh14, hS14])
          have hcat14 : bs S13 ++ bs h14 = bs S14 := by rw [bs_cat, hS14]
          have m14 : S14.length ≤ 100000 + 5600 := by rw [← hS14, List.length_append]; omega
          have n14 : ¬ 9223372036854775807 < S13.length + h14.length := by omega
          have HR14 := Lib.hid (show shM [104, 111, 108, 100] (c.v 14) = h14 from (row_num c 14 (by unfold isNum; decide)).symm.trans hh14)
          have HSe14 := Lib.hid hS14
          clear hh14 hS14
          obtain ⟨h15, hh15⟩ : ∃ h, rowM c 15 = h := ⟨_, rfl⟩
          have l15 : h15.length ≤ 400 := by rw [← hh15]; exact rowM_len12 HOk.out HW.out (by decide)
          obtain ⟨S15, hS15⟩ : ∃ S, S14 ++ h15 = S := ⟨_, rfl⟩
          have HT15 := Lib.hid (show textM c 16 = S15 by rw [textM_succ, HT14.out, hh15, hS15])
          have hcat15 : bs S14 ++ bs h15 = bs S15 := by rw [bs_cat, hS15]
          have m15 : S15.length ≤ 100000 + 6000 := by rw [← hS15, List.length_append]; omega
          have n15 : ¬ 9223372036854775807 < S14.length + h15.length := by omega
          have HR15 := Lib.hid (show shM [113, 117, 101, 117, 101] (c.v 15) = h15 from (row_num c 15 (by unfold isNum; decide)).symm.trans hh15)
          have HSe15 := Lib.hid hS15
          clear hh15 hS15
          obtain ⟨h16, hh16⟩ : ∃ h, rowM c 16 = h := ⟨_, rfl⟩
          have l16 : h16.length ≤ 400 := by rw [← hh16]; exact rowM_len12 HOk.out HW.out (by decide)
          obtain ⟨S16, hS16⟩ : ∃ S, S15 ++ h16 = S := ⟨_, rfl⟩
          have HT16 := Lib.hid (show textM c 17 = S16 by rw [textM_succ, HT15.out, hh16, hS16])
          have hcat16 : bs S15 ++ bs h16 = bs S16 := by rw [bs_cat, hS16]
          have m16 : S16.length ≤ 100000 + 6400 := by rw [← hS16, List.length_append]; omega
          have n16 : ¬ 9223372036854775807 < S15.length + h16.length := by omega
          have HR16 := Lib.hid (show shM [101, 118, 101, 110, 116, 115] (c.v 16) = h16 from (row_num c 16 (by unfold isNum; decide)).symm.trans hh16)
          have HSe16 := Lib.hid hS16
          clear hh16 hS16
          go_wp2_with fail
          refine wp_region_krip (Keep (fun _ => False)) (Keep.refl _) keep0_trans 23 (by kernel_rfl) (by kernel_rfl) (Ts := [none, none, some (.inl (.int .i64 (c.v 12))), some (.inl (.string (bs h12))), none, none, some (.inl (.int .i64 (c.v 13))), some (.inl (.string (bs h13))), none, none, some (.inl (.int .i64 (c.v 14))), some (.inl (.string (bs h14))), none, none, some (.inl (.int .i64 (c.v 15))), some (.inl (.string (bs h15))), none, none, some (.inl (.int .i64 (c.v 16))), some (.inl (.string (bs h16))), none, none, none]) ?_
          simp only [List.take, List.drop]
          refine kAll_p (fun K hK => ?_)
          go_simp
          generalize hZ : (Act.mk _ _) = Z
          refine hK Z ?_
          subst hZ
          clear hK K
          refine kAll_p (fun K hK => ?_)
          go_simp
          generalize hZ : (Act.mk _ _) = Z
          refine hK Z ?_
          subst hZ
          clear hK K
          refine kAll_dn _ (fun W hW hF => kStep_of fun K Q hK => ?_) (fun K hK => ?_)
          · have q1 := (keepD (Keep.refl _ _) hW).cell (c12) (fun h => h)
            go_simp
            exact hK _ _ (Keep.refl _ _) rfl
          go_simp
          generalize hZ : (Act.mk _ _) = Z
          refine hK Z ?_
          subst hZ
          clear hK K
          refine kAll_dn _ (fun W hW hF => kStep_of fun K Q hK => ?_) (fun K hK => ?_)
          · go_simp
            refine (rshown_any [100, 101, 108, 97, 121] (by decide) (c.v 12) (by have := (HOk.out.v 12 (by unfold isNum; decide)).1; omega) (by have := (HOk.out.v 12 (by unfold isNum; decide)).2; omega) W).mono ?_
            rintro e w' ⟨rfl, hk⟩
            rw [HR12.out]
            exact hK _ _ hk rfl
          go_simp
          generalize hZ : (Act.mk _ _) = Z
          refine hK Z ?_
          subst hZ
          clear hK K
          refine kAll_p (fun K hK => ?_)
          go_simp
          generalize hZ : (Act.mk _ _) = Z
          refine hK Z ?_
          subst hZ
          clear hK K
          refine kAll_p (fun K hK => ?_)
          go_simp
          generalize hZ : (Act.mk _ _) = Z
          refine hK Z ?_
          subst hZ
          clear hK K
          refine kAll_dn _ (fun W hW hF => kStep_of fun K Q hK => ?_) (fun K hK => ?_)
          · have q1 := (keepD (Keep.refl _ _) hW).cell (c13) (fun h => h)
            go_simp
            exact hK _ _ (Keep.refl _ _) rfl
          go_simp
          generalize hZ : (Act.mk _ _) = Z
          refine hK Z ?_
          subst hZ
          clear hK K
          refine kAll_dn _ (fun W hW hF => kStep_of fun K Q hK => ?_) (fun K hK => ?_)
          · go_simp
            refine (rshown_any [116, 101, 114, 109] (by decide) (c.v 13) (by have := (HOk.out.v 13 (by unfold isNum; decide)).1; omega) (by have := (HOk.out.v 13 (by unfold isNum; decide)).2; omega) W).mono ?_
            rintro e w' ⟨rfl, hk⟩
            rw [HR13.out]
            exact hK _ _ hk rfl
          go_simp
          generalize hZ : (Act.mk _ _) = Z
          refine hK Z ?_
          subst hZ
          clear hK K
          refine kAll_p (fun K hK => ?_)
          go_simp
          generalize hZ : (Act.mk _ _) = Z
          refine hK Z ?_
          subst hZ
          clear hK K
          refine kAll_p (fun K hK => ?_)
          go_simp
          generalize hZ : (Act.mk _ _) = Z
          refine hK Z ?_
          subst hZ
          clear hK K
          refine kAll_dn _ (fun W hW hF => kStep_of fun K Q hK => ?_) (fun K hK => ?_)
          · have q1 := (keepD (Keep.refl _ _) hW).cell (c14) (fun h => h)
            go_simp
            exact hK _ _ (Keep.refl _ _) rfl
          go_simp
          generalize hZ : (Act.mk _ _) = Z
          refine hK Z ?_
          subst hZ
          clear hK K
          refine kAll_dn _ (fun W hW hF => kStep_of fun K Q hK => ?_) (fun K hK => ?_)
          · go_simp
            refine (rshown_any [104, 111, 108, 100] (by decide) (c.v 14) (by have := (HOk.out.v 14 (by unfold isNum; decide)).1; omega) (by have := (HOk.out.v 14 (by unfold isNum; decide)).2; omega) W).mono ?_
            rintro e w' ⟨rfl, hk⟩
            rw [HR14.out]
            exact hK _ _ hk rfl
          go_simp
          generalize hZ : (Act.mk _ _) = Z
          refine hK Z ?_
          subst hZ
          clear hK K
          refine kAll_p (fun K hK => ?_)
          go_simp
          generalize hZ : (Act.mk _ _) = Z
          refine hK Z ?_
          subst hZ
          clear hK K
          refine kAll_p (fun K hK => ?_)
          go_simp
          generalize hZ : (Act.mk _ _) = Z
          refine hK Z ?_
          subst hZ
          clear hK K
          refine kAll_dn _ (fun W hW hF => kStep_of fun K Q hK => ?_) (fun K hK => ?_)
          · have q1 := (keepD (Keep.refl _ _) hW).cell (c15) (fun h => h)
            go_simp
            exact hK _ _ (Keep.refl _ _) rfl
          go_simp
          generalize hZ : (Act.mk _ _) = Z
          refine hK Z ?_
          subst hZ
          clear hK K
          refine kAll_dn _ (fun W hW hF => kStep_of fun K Q hK => ?_) (fun K hK => ?_)
          · go_simp
            refine (rshown_any [113, 117, 101, 117, 101] (by decide) (c.v 15) (by have := (HOk.out.v 15 (by unfold isNum; decide)).1; omega) (by have := (HOk.out.v 15 (by unfold isNum; decide)).2; omega) W).mono ?_
            rintro e w' ⟨rfl, hk⟩
            rw [HR15.out]
            exact hK _ _ hk rfl
          go_simp
          generalize hZ : (Act.mk _ _) = Z
          refine hK Z ?_
          subst hZ
          clear hK K
          refine kAll_p (fun K hK => ?_)
          go_simp
          generalize hZ : (Act.mk _ _) = Z
          refine hK Z ?_
          subst hZ
          clear hK K
          refine kAll_p (fun K hK => ?_)
          go_simp
          generalize hZ : (Act.mk _ _) = Z
          refine hK Z ?_
          subst hZ
          clear hK K
          refine kAll_dn _ (fun W hW hF => kStep_of fun K Q hK => ?_) (fun K hK => ?_)
          · have q1 := (keepD (Keep.refl _ _) hW).cell (c16) (fun h => h)
            go_simp
            exact hK _ _ (Keep.refl _ _) rfl
          go_simp
          generalize hZ : (Act.mk _ _) = Z
          refine hK Z ?_
          subst hZ
          clear hK K
          refine kAll_dn _ (fun W hW hF => kStep_of fun K Q hK => ?_) (fun K hK => ?_)
          · go_simp
            refine (rshown_any [101, 118, 101, 110, 116, 115] (by decide) (c.v 16) (by have := (HOk.out.v 16 (by unfold isNum; decide)).1; omega) (by have := (HOk.out.v 16 (by unfold isNum; decide)).2; omega) W).mono ?_
            rintro e w' ⟨rfl, hk⟩
            rw [HR16.out]
            exact hK _ _ hk rfl
          go_simp
          generalize hZ : (Act.mk _ _) = Z
          refine hK Z ?_
          subst hZ
          clear hK K
          refine kAll_p (fun K hK => ?_)
          go_simp
          generalize hZ : (Act.mk _ _) = Z
          refine hK Z ?_
          subst hZ
          clear hK K
          refine kAll_p (fun K hK => ?_)
          go_simp
          generalize hZ : (Act.mk _ _) = Z
          refine hK Z ?_
          subst hZ
          clear hK K
          refine kAll_p (fun K hK => ?_)
          go_simp
          generalize hZ : (Act.mk _ _) = Z
          refine hK Z ?_
          subst hZ
          clear hK K
          refine kAll_nil (fun W10 hW hF => ?_)
          have HKv10 := Lib.hid (keep0_trans _ _ _ HKv9.out (keepD (Keep.refl _ _) hW))
          clear hF hW
          go_wp2
          go_ret2
          exact ⟨by rw [HSr.out, HT16.out]; rfl, keep0_trans _ _ _ HK0.out HKv10.out⟩
end Go.Proofs.YtjgkalcldekmpaaGreatDoor
