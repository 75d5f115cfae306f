/-
  ConfigFirst. Written by gen_first.py.
-/
import Derived.Test.YtjgkalcldekmpaaGreatDoorCfgU
import Derived.Test.YtjgkalcldekmpaaGreatDoorCfgDoor
namespace Go.Proofs.YtjgkalcldekmpaaGreatDoor
open Go.RowKit Go Go.Shelf
set_option maxRecDepth 100000
attribute [local go_sem] bs_toList bs_size bs_zero

theorem rd_take {w : World} {A : Option Addr} {n : Nat} {xs : List Value} (h : RdK w 1 A n xs) {k : Nat} (hk : k ≤ n) : RdK w 1 A k (xs.take k) :=
  ⟨by have := h.1; rw [List.length_take]; omega, fun j hj => by
    obtain ⟨g, off, v, e1, e2, e3⟩ := h.2 j (by omega)
    exact ⟨g, off, v, e1, by rw [List.getElem?_take, if_pos (by omega)]; exact e2, e3⟩⟩
theorem below_of {w w' : World} (h : Keep (fun _ => False) w w') : Below w.heap.size w w' := h.below (Nat.le_refl _) (fun _ h => h.elim)
set_option maxHeartbeats 8000000 in
theorem walkConfigFirst (s0 : ByteArray) (_w0 : s0.size ≤ maxLen) (s1 : ByteArray) (_w1 : s1.size ≤ maxLen) {w : World} (hE : Env w) :
    Calls Tryz.prog 4 #[.string s0, .string s1] w fun e w' => e = .returned (.bool true) ∧ Below w.heap.size w w' := by
  obtain ⟨s, rfl⟩ : ∃ s, s0 = bs s := ⟨s0.data.toList, (bs_of s0).symm⟩
  obtain ⟨b, rfl⟩ : ∃ s, s1 = bs s := ⟨s1.data.toList, (bs_of s1).symm⟩
  have HE := Lib.hid hE
  clear hE _w0 _w1
  go_enter Tryz.func4, Tryz.ntmps4
  by_cases h1 : 3000 < s.length
  · have q1 : (3000 : Int) < (s.length : Int) := by omega
    go_wp2_with fail
    refine (awake_any w HE.out).mono ?_
    rintro e W1 ⟨rfl, hk⟩
    have HK := Lib.hid hk
    clear hk
    go_wp2
    go_ret
    exact ⟨rfl, below_of HK.out⟩
  have q1 : ¬ (3000 : Int) < (s.length : Int) := by omega
  by_cases h2 : 1000 < b.length
  · have q2 : (1000 : Int) < (b.length : Int) := by omega
    go_wp2_with fail
    refine (awake_any w HE.out).mono ?_
    rintro e W1 ⟨rfl, hk⟩
    have HK := Lib.hid hk
    clear hk
    go_wp2
    go_ret
    exact ⟨rfl, below_of HK.out⟩
  have q2 : ¬ (1000 : Int) < (b.length : Int) := by omega
  go_wp2_with fail
  refine (awake_any w HE.out).mono ?_
  rintro e W0 ⟨rfl, hk⟩
  have HK0 := Lib.hid hk
  clear hk
  rcases parse_cases s with ⟨c, f, hp, hf⟩ | ⟨k, er, hk, hp, her, ⟨st, hst⟩, hbe⟩
  · have HP := Lib.hid hp
    clear hp
    rcases hf with rfl | rfl
    all_goals
      go_wp2_with fail
      refine (parse_is HP.out _ (HE.out.keep0 HK0.out) (by omega)).mono ?_
      rintro e W1 ⟨row, A1, cap1, rfl, hs, hr, hk⟩
      have HR1 := Lib.hid hs.rd
      have HKw1 := Lib.hid (keep0_trans _ _ _ HK0.out hk)
      clear hs hr hk
      go_wp2_with (first | (refine wpList_store_row rfl 25 _ _ rfl W1.heap.size (cfgA (.slice A1 c.seeds.length cap1) c.v) rfl rfl 25 _ (Blk.new _ _ _) infoCfg rfl (cfgA_one _ _ _ _) ?_; obtain ⟨hbv, hkv⟩ := row_new (t := 25) W1 zc (cfgA (.slice A1 c.seeds.length cap1) c.v); unfold zc at hbv hkv; have HBn := Lib.hid hbv; have HKn := Lib.hid hkv; clear hbv hkv; generalize (W1.alloc (.cells #[.slice none 0 0, .int .i64 0, .int .i64 0, .int .i64 0, .int .i64 0, .int .i64 0, .int .i64 0, .int .i64 0, .int .u8 0, .int .i64 0, .bool false, .bool false, .int .i64 0, .int .i64 0, .int .i64 0, .int .i64 0, .int .i64 0] 25)).setRow W1.heap.size (cfgA (.slice A1 c.seeds.length cap1) c.v) = V1 at *) | fail)
      have HKV1 := Lib.hid (keep0_trans _ _ _ HKw1.out HKn.out)
      have HRV1 := Lib.hid (HR1.out.keep0 HKn.out)
      have HB1 := Lib.hid HBn.out
      clear HBn HKn HR1 HKw1
      clear HRV1 HB1
      go_ret
      exact ⟨rfl, below_of HKV1.out⟩
  obtain ⟨c2, f, hp2, hf⟩ := first_ahead hst
  have hp3 := first_behind (b := b) hbe
  rw [List.append_assoc, show ([10] : Bs) ++ b = 10 :: b from rfl] at hp3
  have hJ2 : (Lib.join ((spl 10 s).take k) [10]).length ≤ s.length := by have := join_take_len (spl 10 s) [10] k; rwa [join_spl] at this
  have hJ3 : (Lib.join ((spl 10 s).take (k + 1)) [10]).length ≤ s.length := by have := join_take_len (spl 10 s) [10] (k + 1); rwa [join_spl] at this
  have HP := Lib.hid hp
  have HP2 := Lib.hid hp2
  have HP3 := Lib.hid hp3
  have HLm := Lib.hid (fun x hx => Nat.le_trans (spl_len 10 s x hx) (by omega : s.length ≤ 1000000))
  have hcn := spl_count 10 s
  have HNe := Lib.hid (spl_ne 10 s)
  clear hp hp2 hp3 hst hbe
  obtain ⟨ls, hls⟩ : ∃ ls, spl 10 s = ls := ⟨_, rfl⟩
  have HLs := Lib.hid hls
  rw [hls] at HP2 HP3 HLm hcn HNe hJ2 hJ3 hk
  clear hls
  have q3 : ¬ (k : Int) + 1 = 0 := by omega
  have e1 : IntKind.i64.wrap ((k : Int) + 1 - 1) = (k : Int) := by rw [show (k : Int) + 1 - 1 = k by omega]; exact IntWalk.i64_in _ (by omega)
  go_wp2_with fail
  refine (parse_is HP.out _ (HE.out.keep0 HK0.out) (by omega)).mono ?_
  rintro e W1 ⟨row, A1, cap1, rfl, hs, hr, hk⟩
  have HR1 := Lib.hid hs.rd
  have HKw1 := Lib.hid (keep0_trans _ _ _ HK0.out hk)
  clear hs hr hk
  go_wp2_with (first | (refine wpList_store_row rfl 25 _ _ rfl W1.heap.size (cfgA (.slice A1 zeroCfg.seeds.length cap1) zeroCfg.v) rfl rfl 25 _ (Blk.new _ _ _) infoCfg rfl (cfgA_one _ _ _ _) ?_; obtain ⟨hbv, hkv⟩ := row_new (t := 25) W1 zc (cfgA (.slice A1 zeroCfg.seeds.length cap1) zeroCfg.v); unfold zc at hbv hkv; have HBn := Lib.hid hbv; have HKn := Lib.hid hkv; clear hbv hkv; generalize (W1.alloc (.cells #[.slice none 0 0, .int .i64 0, .int .i64 0, .int .i64 0, .int .i64 0, .int .i64 0, .int .i64 0, .int .i64 0, .int .u8 0, .int .i64 0, .bool false, .bool false, .int .i64 0, .int .i64 0, .int .i64 0, .int .i64 0, .int .i64 0] 25)).setRow W1.heap.size (cfgA (.slice A1 zeroCfg.seeds.length cap1) zeroCfg.v) = V1 at *) | fail)
  have HKV1 := Lib.hid (keep0_trans _ _ _ HKw1.out HKn.out)
  have HRV1 := Lib.hid (HR1.out.keep0 HKn.out)
  have HB1 := Lib.hid HBn.out
  clear HBn HKn HR1 HKw1
  clear HRV1 HB1
  refine (lawLines_any s _ (by omega)).mono ?_
  rintro e W2 ⟨row, A, cap, rfl, hs, _, hk2⟩
  rw [HLs.out] at hs ⊢
  have hpos : 0 < ls.length := List.length_pos_iff.2 HNe.out
  obtain ⟨g, off, v0, rfl, _, _⟩ := hs.rd.2 0 (by omega)
  have hcap := hs.2.1
  have HSl := Lib.hid hs.rd
  have HK2 := Lib.hid (keep0_trans _ _ _ HKV1.out hk2)
  clear hs hk2
  have q4 : ¬ (ls.length : Int) < (k : Int) + 1 := by omega
  have q5 : (k : Int) ≤ (cap : Int) := by omega
  have q6 : (k : Int) + 1 ≤ (cap : Int) := by omega
  have q7 : (0 : Int) ≤ (k : Int) := by omega
  have q8 : (0 : Int) ≤ (k : Int) + 1 := by omega
  have her2 : er = 4 ∨ er = 6 := her
  clear her
  have rest : ∀ er2 : Int, er2 = er → Hid (er2 = 4 ∨ er2 = 6) := fun e h => Lib.hid (h ▸ her2)
  rcases her2 with rfl | rfl
  all_goals
    go_wp2_with fail
    refine (together_any (ls.take k) (some ⟨g, off, none⟩) k cap _ (by rw [List.map_take]; exact rd_take HSl.out (by omega)) (by omega) (fun x hx => HLm.out x (List.mem_of_mem_take hx))).mono ?_
    rintro e W3 ⟨rfl, hk3⟩
    have HK3 := Lib.hid (keep0_trans _ _ _ HK2.out hk3)
    have HSl3 := Lib.hid (HSl.out.keep0 hk3)
    clear hk3
    go_wp2_with fail
    refine (parse_is HP2.out _ (HE.out.keep0 HK3.out) (by omega)).mono ?_
    rintro e W4 ⟨row, A4, cap4, rfl, hs, hr, hk⟩
    have hk4x := Lib.hid hk
    have HR4 := Lib.hid hs.rd
    have HKw4 := Lib.hid (keep0_trans _ _ _ HK3.out hk)
    clear hs hr hk
    go_wp2_with (first | (refine wpList_store_row rfl 25 _ _ rfl W4.heap.size (cfgA (.slice A4 c2.seeds.length cap4) c2.v) rfl rfl 25 _ (Blk.new _ _ _) infoCfg rfl (cfgA_one _ _ _ _) ?_; obtain ⟨hbv, hkv⟩ := row_new (t := 25) W4 zc (cfgA (.slice A4 c2.seeds.length cap4) c2.v); unfold zc at hbv hkv; have HBn := Lib.hid hbv; have HKn := Lib.hid hkv; clear hbv hkv; generalize (W4.alloc (.cells #[.slice none 0 0, .int .i64 0, .int .i64 0, .int .i64 0, .int .i64 0, .int .i64 0, .int .i64 0, .int .i64 0, .int .u8 0, .int .i64 0, .bool false, .bool false, .int .i64 0, .int .i64 0, .int .i64 0, .int .i64 0, .int .i64 0] 25)).setRow W4.heap.size (cfgA (.slice A4 c2.seeds.length cap4) c2.v) = V4 at *; have HSl4 := Lib.hid ((HSl3.out.keep0 hk4x.out).keep0 HKn.out)) | fail)
    have HKV4 := Lib.hid (keep0_trans _ _ _ HKw4.out HKn.out)
    have HRV4 := Lib.hid (HR4.out.keep0 HKn.out)
    have HB4 := Lib.hid HBn.out
    clear HBn HKn HR4 HKw4
    clear HRV4 HB4
    refine (together_any (ls.take (k + 1)) (some ⟨g, off, none⟩) (k + 1) cap _ (by rw [List.map_take]; exact rd_take (HSl4.out) (by omega)) (by omega) (fun x hx => HLm.out x (List.mem_of_mem_take hx))).mono ?_
    rintro e W5 ⟨rfl, hk5⟩
    have HK5 := Lib.hid (keep0_trans _ _ _ HKV4.out hk5)
    clear hk5
    obtain ⟨J, hJ⟩ : ∃ J, Lib.join (ls.take (k + 1)) [10] = J := ⟨_, rfl⟩
    rw [hJ] at HP3 hJ3 ⊢
    have q9 : ¬ 9223372036854775807 < J.length + 1 := by omega
    have q10 : ¬ 9223372036854775807 < J.length + 1 + b.length := by omega
    have hcat : bs J ++ ({ data := #[10] } : ByteArray) ++ bs b = bs (J ++ 10 :: b) := by rw [show J ++ 10 :: b = J ++ [10] ++ b by simp, ← bs_cat, ← bs_cat]; rfl
    have hlen3 : (J ++ 10 :: b).length ≤ 40000000 := by simp; omega
    clear hJ
    go_wp2_with fail
    clear hcat
    rcases hf with rfl | rfl
    all_goals
      refine (parse_is HP3.out _ (HE.out.keep0 HK5.out) hlen3).mono ?_
      rintro e W6 ⟨row, A6, cap6, rfl, hs, hr, hk⟩
      have HR6 := Lib.hid hs.rd
      have HKw6 := Lib.hid (keep0_trans _ _ _ HK5.out hk)
      clear hs hr hk
      go_wp2_with (first | (refine wpList_store_row rfl 25 _ _ rfl W6.heap.size (cfgA (.slice A6 zeroCfg.seeds.length cap6) zeroCfg.v) rfl rfl 25 _ (Blk.new _ _ _) infoCfg rfl (cfgA_one _ _ _ _) ?_; obtain ⟨hbv, hkv⟩ := row_new (t := 25) W6 zc (cfgA (.slice A6 zeroCfg.seeds.length cap6) zeroCfg.v); unfold zc at hbv hkv; have HBn := Lib.hid hbv; have HKn := Lib.hid hkv; clear hbv hkv; generalize (W6.alloc (.cells #[.slice none 0 0, .int .i64 0, .int .i64 0, .int .i64 0, .int .i64 0, .int .i64 0, .int .i64 0, .int .i64 0, .int .u8 0, .int .i64 0, .bool false, .bool false, .int .i64 0, .int .i64 0, .int .i64 0, .int .i64 0, .int .i64 0] 25)).setRow W6.heap.size (cfgA (.slice A6 zeroCfg.seeds.length cap6) zeroCfg.v) = V6 at *) | fail)
      have HKV6 := Lib.hid (keep0_trans _ _ _ HKw6.out HKn.out)
      have HRV6 := Lib.hid (HR6.out.keep0 HKn.out)
      have HB6 := Lib.hid HBn.out
      clear HBn HKn HR6 HKw6
      clear HRV6 HB6
      go_ret
      exact ⟨rfl, below_of HKV6.out⟩
end Go.Proofs.YtjgkalcldekmpaaGreatDoor
