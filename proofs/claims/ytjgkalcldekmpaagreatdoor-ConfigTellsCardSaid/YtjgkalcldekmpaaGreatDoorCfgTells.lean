/-
  ConfigTells. Written by gen_tells.py.
-/
import Derived.Test.YtjgkalcldekmpaaGreatDoorCfgRD
import Derived.Test.YtjgkalcldekmpaaGreatDoorCfgRE
import Derived.Test.YtjgkalcldekmpaaGreatDoorCfgRF
import Derived.Test.YtjgkalcldekmpaaGreatDoorCfgOp
import Derived.Test.YtjgkalcldekmpaaGreatDoorCfgFirst
namespace Go.Proofs.YtjgkalcldekmpaaGreatDoor
open Go.RowKit Go Go.Shelf
set_option maxRecDepth 100000
attribute [local go_sem] bs_toList bs_size bs_zero
attribute [local irreducible] kAll
attribute [local go_sem] kQuiet kQuietUpon

theorem rparse_is {s : Bs} {c : Cfg} {l er : Int} (hp : parseM s = (c, l, er)) (w : World) (hE : Env w) (hs : s.length ≤ 100000) :
    Calls Tryz.prog 19 #[.string (bs s)] w fun e w' => ∃ (row : Option Nat) (A : Option Addr) (cap : Nat), e = .returned (.tuple #[.agg (cfgA (.slice A c.seeds.length cap) c.v), .int .i64 l, .int .i64 er]) ∧
      SlK w' 3 1 row A c.seeds.length cap (c.seeds.map (Value.int .i64)) ∧ (∀ g, row = some g → w.heap.size ≤ g) ∧ Keep (fun _ => False) w w' := by
  have h := rparse_any s hs w hE.nine
  rw [hp] at h
  exact h
theorem emp_slk (W : World) : SlK (W.alloc (.cells #[] 3)) 3 1 (some W.heap.size) (some ⟨W.heap.size, 0, none⟩) 0 0 [] :=
  ⟨rfl, Nat.le_refl _, by unfold maxLen; omega, .inr ⟨_, 0, #[], rfl, rfl, Blk.new _ _ _, by simp, fun j hj => by omega⟩⟩
/-- own memory that may be written over -/
def OwnI (b : Nat) (A : Option Addr) (n : Nat) (w : World) : Prop := n = 0 ∨ ∃ g off cur, A = some ⟨g, off, none⟩ ∧ Blk w g 3 cur ∧ off + n ≤ cur.size ∧ b ≤ g
theorem own_of {b : Nat} {row : Option Nat} {A : Option Addr} {n c : Nat} {xs : List Value} {w : World} (h : SlK w 3 1 row A n c xs) (hr : ∀ g, row = some g → b ≤ g) : OwnI b A n w := by
  rcases h.2.2.2 with ⟨_, _, hc⟩ | ⟨g, off, cur, q1, q2, hb, hs, _⟩
  · left; have := h.2.1; omega
  · right; exact ⟨g, off, cur, q2, hb, by have := h.2.1; omega, hr g q1⟩
theorem OwnI.keep0 {b : Nat} {A : Option Addr} {n : Nat} {w w' : World} (h : OwnI b A n w) (hk : Keep (fun _ => False) w w') : OwnI b A n w' :=
  h.imp id fun ⟨g, off, cur, h1, h2, h3⟩ => ⟨g, off, cur, h1, h2.keep hk (fun h => h), h3⟩
set_option maxHeartbeats 16000000 in
theorem walkConfigTells {w : World} (v0 : Value) (w0 : IsCfgW w v0) (v1 : Value) (w1 : IsCfgW w v1) (s2 : ByteArray) (_w2 : s2.size ≤ maxLen) (hE : Env w) :
    Calls Tryz.prog 6 #[v0, v1, .string s2] w fun e w' => e = .returned (.bool true) ∧ Below w.heap.size w w' := by
  obtain ⟨s, rfl⟩ : ∃ s, s2 = bs s := ⟨s2.data.toList, (bs_of s2).symm⟩
  obtain ⟨A, cap, c, rfl, hml, hRa, hs64, hv64, h8a, h8b⟩ := w0
  obtain ⟨B, capb, d, rfl, hmlb, hRb, hs64b, hv64b, h8ab, h8bb⟩ := w1
  clear _w2
  obtain ⟨i0, hi, hz0, hz1, hz2⟩ := info_parts infoI
  have HI0 := Lib.hid hi
  have HZ0 := Lib.hid hz0
  have HZ1 := Lib.hid hz1
  have HZ2 := Lib.hid hz2
  clear hi hz0 hz1 hz2
  have hk0 : Keep (fun _ => False) w ((w.alloc (.cells (cfgA (.slice A c.seeds.length cap) c.v) 25)).alloc (.cells (cfgA (.slice B d.seeds.length capb) d.v) 25)) := ((Keep.refl _ w).alloc _).alloc _
  have hX := (Blk.new w 25 (cfgA (.slice A c.seeds.length cap) c.v)).alloc (.cells (cfgA (.slice B d.seeds.length capb) d.v) 25)
  have hY : Blk ((w.alloc (.cells (cfgA (.slice A c.seeds.length cap) c.v) 25)).alloc (.cells (cfgA (.slice B d.seeds.length capb) d.v) 25)) (w.heap.size + 1) 25 (cfgA (.slice B d.seeds.length capb) d.v) := Blk.new_ (by simp) _ _
  obtain ⟨W0, hW0⟩ : ∃ W0, (w.alloc (.cells (cfgA (.slice A c.seeds.length cap) c.v) 25)).alloc (.cells (cfgA (.slice B d.seeds.length capb) d.v) 25) = W0 := ⟨_, rfl⟩
  rw [hW0] at hk0 hX hY
  have x0 := hX.cell 0
  have y0 := hY.cell 0
  rw [cfgA_get _ _ (by decide)] at x0 y0
  simp only [cfgC, if_true] at x0 y0
  have HA := Lib.hid hX
  have HB := Lib.hid hY
  have HK0 := Lib.hid hk0
  have HE := Lib.hid hE
  have HE0 := Lib.hid (hE.keep0 hk0)
  have HRa := Lib.hid (hRa.keep0 hk0)
  have HRb := Lib.hid (hRb.keep0 hk0)
  have HRa00 := Lib.hid hRa
  have HRb00 := Lib.hid hRb
  clear hX hY hk0 hE hRa hRb
  go_enter Tryz.func6, Tryz.ntmps6
  by_cases h1 : 3000 < s.length
  · have q1 : (3000 : Int) < (s.length : Int) := by omega
    go_wp2_with fail
    refine (awake_any W0 HE0.out).mono ?_
    rintro e W1 ⟨rfl, hk⟩
    have HK := Lib.hid (keep0_trans _ _ _ HK0.out hk)
    clear hk hW0
    go_wp2
    go_ret
    exact ⟨rfl, below_of HK.out⟩
  have q1 : ¬ (3000 : Int) < (s.length : Int) := by omega
  by_cases h2 : 100 < c.seeds.length
  · have q2 : (100 : Int) < (c.seeds.length : Int) := by omega
    go_wp2_with fail
    refine (awake_any W0 HE0.out).mono ?_
    rintro e W1 ⟨rfl, hk⟩
    have HK := Lib.hid (keep0_trans _ _ _ HK0.out hk)
    clear hk hW0
    go_wp2
    go_ret
    exact ⟨rfl, below_of HK.out⟩
  have q2 : ¬ (100 : Int) < (c.seeds.length : Int) := by omega
  by_cases h3 : 100 < d.seeds.length
  · have q3 : (100 : Int) < (d.seeds.length : Int) := by omega
    go_wp2_with fail
    refine (awake_any W0 HE0.out).mono ?_
    rintro e W1 ⟨rfl, hk⟩
    have HK := Lib.hid (keep0_trans _ _ _ HK0.out hk)
    clear hk hW0
    go_wp2
    go_ret
    exact ⟨rfl, below_of HK.out⟩
  have q3 : ¬ (100 : Int) < (d.seeds.length : Int) := by omega
  have HW := Lib.hid (show WfC c from ⟨hs64, hv64, ⟨h8a, h8b⟩, by omega⟩)
  have HWb := Lib.hid (show WfC d from ⟨hs64b, hv64b, ⟨h8ab, h8bb⟩, by omega⟩)
  clear hs64 hv64 h8a h8b hml hs64b hv64b h8ab h8bb hmlb
  go_upto_region 4 with (first | (refine wpList_load_row rfl 25 _ rfl w.heap.size rfl 25 _ (0, 0) _ HA.out Tryz.underlying25 rfl infoCfg ?_) | (refine wpList_store_row rfl 25 _ _ rfl W0.heap.size (cfgA (.slice A c.seeds.length cap) c.v) rfl rfl 25 _ (Blk.new _ _ _) infoCfg rfl (cfgA_one _ _ _ _) ?_; obtain ⟨hbv, hkv⟩ := row_new (t := 25) W0 zc (cfgA (.slice A c.seeds.length cap) c.v); unfold zc at hbv hkv; have HBn := Lib.hid hbv; have HKn := Lib.hid hkv; clear hbv hkv; generalize (W0.alloc (.cells #[.slice none 0 0, .int .i64 0, .int .i64 0, .int .i64 0, .int .i64 0, .int .i64 0, .int .i64 0, .int .i64 0, .int .u8 0, .int .i64 0, .bool false, .bool false, .int .i64 0, .int .i64 0, .int .i64 0, .int .i64 0, .int .i64 0] 25)).setRow W0.heap.size (cfgA (.slice A c.seeds.length cap) c.v) = V0 at *))
  clear hW0
  have HN0 := Lib.hid (show w.heap.size + 1 < W0.heap.size from HB.out.lt)
  obtain ⟨n0, hn0⟩ : ∃ n, W0.heap.size = n := ⟨_, rfl⟩
  rw [hn0] at HBn HN0 ⊢
  have x0 := (HA.out.keep HKn.out (fun h => h)).cell 0
  rw [cfgA_get _ _ (by decide)] at x0
  simp only [cfgC, if_true] at x0
  have hn0w : n0 < V0.heap.size := HBn.out.lt
  have HRq := Lib.hid ((HRa.out.keep0 HKn.out).keep0 ((Keep.refl (fun _ => False) V0).alloc (.cells #[] 3)))
  have x0b := ((HA.out.keep HKn.out (fun h => h)).keep ((Keep.refl (fun _ => False) V0).alloc (.cells #[] 3)) (fun h => h)).cell 0
  rw [cfgA_get _ _ (by decide)] at x0b
  simp only [cfgC, if_true] at x0b
  clear y0 hn0
  go_upto_region 5 with (at_builtin; refine wpList_append_slK rfl _ _ _ rfl i0 _ 8 Tryz.underlying23 HI0.out HZ0.out HZ1.out HZ2.out rfl (by omega) (emp_slk V0) rfl rfl HRq.out (fun u hu => by obtain ⟨y, _, rfl⟩ := List.mem_map.1 hu; rfl) (by unfold maxLen; omega) (by omega) ?_; intro row2 A3 c5 w4 hs4 hr4
                         have hkA : Keep (fun _ => False) V0 (V0.alloc (.cells #[] 3)) := (Keep.refl _ _).alloc _
                         have hkq : Keep (fun _ => False) V0 w4 := by
                           rcases hr4 with ⟨_, _, _, _, q⟩ | q
                           · rw [q]; exact hkA
                           · exact q.keep0 hkA (fun g e => by injection e with e; omega)
                         have hb4 := HBn.out.keep hkq (fun h => h)
                         have c0' := hb4.cell 0
                         rw [cfgA_get _ _ (by decide)] at c0'
                         simp only [cfgC, if_true] at c0'
                         have f0' := hb4.frozen 0
                         rw [Nat.zero_add, List.nil_append] at hs4
                         have hx4 := hb4.set_ 0 (.slice A3 c.seeds.length c5)
                         rw [cfgA_set0] at hx4
                         have hkx : Keep (fun g => g = n0) w4 (w4.setCell ⟨n0, 0, none⟩ (.slice A3 c.seeds.length c5)) := (Keep.refl (fun g => g = n0) w4).setCell (fun _ => rfl) _
                         have HX1 := Lib.hid hx4
                         have HRx1 := Lib.hid ((hs4.keep hkx (fun g e q => hs4.row_ne hb4 (by decide) (q ▸ e))).rd)
                         have HKq := Lib.hid hkq
                         have HKx := Lib.hid hkx
                         clear hs4 hr4 hkA hkq hb4 hx4 hkx)
  have HKc := Lib.hid (show Keep (fun _ => False) w (w4.setCell ⟨n0, 0, none⟩ (.slice A3 c.seeds.length c5)) from ((keep0_trans _ _ _ HK0.out HKn.out).trans (HKq.out.mono fun _ _ h => h.elim)).trans (HKx.out.mono fun g _ q => .inr (by have := HN0.out; omega)))
  have HA1 := Lib.hid (((HA.out.keep HKn.out (fun h => h)).keep HKq.out (fun h => h)).keep HKx.out (fun q => by have := HN0.out; omega))
  have HB1 := Lib.hid (((HB.out.keep HKn.out (fun h => h)).keep HKq.out (fun h => h)).keep HKx.out (fun q => by have := HN0.out; omega))
  have HRa1 := Lib.hid (HRa00.out.keep0 HKc.out)
  have HRb1 := Lib.hid (HRb00.out.keep0 HKc.out)
  clear c0' f0' x0 x0b HKx HKq HKn HBn HRq HRa HRb HA HB hn0w
  generalize w4.setCell ⟨n0, 0, none⟩ (.slice A3 c.seeds.length c5) = V1 at *
  obtain ⟨⟨U, ee⟩, hsr⟩ : ∃ x, showR c = x := ⟨_, rfl⟩
  have HSr := Lib.hid hsr
  clear hsr
  go_wp2_with (refine wpList_load_row rfl 25 _ rfl n0 rfl 25 _ (0, 0) _ HX1.out Tryz.underlying25 rfl infoCfg ?_)
  refine (cshow_any c A3 c5 HW.out V1 (HE.out.keep0 HKc.out) HRx1.out).mono ?_
  rintro e W2 ⟨rfl, hk⟩
  have HK2 := Lib.hid (keep0_trans _ _ _ HKc.out hk)
  have HA2 := Lib.hid (HA1.out.keep hk (fun h => h))
  have HB2 := Lib.hid (HB1.out.keep hk (fun h => h))
  have HX2 := Lib.hid (HX1.out.keep hk (fun h => h))
  have HRa2 := Lib.hid (HRa1.out.keep0 hk)
  have HRb2 := Lib.hid (HRb1.out.keep0 hk)
  have HRx2 := Lib.hid (HRx1.out.keep0 hk)
  rw [HSr.out]
  clear hk HA1 HB1 HX1 HRa1 HRb1 HRx1 HKc
  go_wp2_with (refine wpList_load_row rfl 25 _ rfl w.heap.size rfl 25 _ (0, 0) _ HA2.out Tryz.underlying25 rfl infoCfg ?_)
  refine (rshow_any c A cap W2 HRa2.out (by omega)).mono ?_
  rintro e W3 ⟨rfl, hk⟩
  have HK3 := Lib.hid (keep0_trans _ _ _ HK2.out hk)
  have HA3 := Lib.hid (HA2.out.keep hk (fun h => h))
  have HB3 := Lib.hid (HB2.out.keep hk (fun h => h))
  have HX3 := Lib.hid (HX2.out.keep hk (fun h => h))
  have HRa3 := Lib.hid (HRa2.out.keep0 hk)
  have HRb3 := Lib.hid (HRb2.out.keep0 hk)
  have HRx3 := Lib.hid (HRx2.out.keep0 hk)
  rw [HSr.out]
  clear hk HA2 HB2 HX2 HRa2 HRb2 HRx2 HK2
  obtain ⟨m, hm⟩ : ∃ m, mayM c = m := ⟨_, rfl⟩
  have Hm := Lib.hid hm
  obtain ⟨p, hp⟩ : ∃ p, sameM c d = p := ⟨_, rfl⟩
  have Hp := Lib.hid hp
  clear hm hp
  go_wp2_with fail
  refine wp_region_krip (Keep (fun _ => False)) (Keep.refl _) keep0_trans 30 (by kernel_rfl) (by kernel_rfl) (Ts := [none, none, none, none, none, none, none, none, none, some (.inl (.agg (cfgA (.slice A3 c.seeds.length c5) c.v))), some (.inl (.bool m)), some (.inl (.agg (cfgA (.slice A c.seeds.length cap) c.v))), some (.inl (.bool m)), none, none, none, some (.inl (.agg (cfgA (.slice A3 c.seeds.length c5) c.v))), some (.inl (.agg (cfgA (.slice B d.seeds.length capb) d.v))), some (.inl (.bool p)), some (.inl (.agg (cfgA (.slice A c.seeds.length cap) c.v))), some (.inl (.agg (cfgA (.slice B d.seeds.length capb) d.v))), some (.inl (.bool p)), none, none, none, some (.inl (.agg (cfgA (.slice A3 c.seeds.length c5) c.v))), some (.inl (.agg (cfgA (.slice A c.seeds.length cap) c.v))), some (.inl (.bool true)), none, none]) ?_
  simp only [List.take, List.drop]
  refine kAll_p (fun K hK => ?_)
  go_simp
  generalize hZ : (Act.mk _ _) = Z
  refine hK Z ?_
  subst hZ
  clear hK K
  refine kAll_p (fun K hK => ?_)
  go_simp
  generalize hZ : (Act.mk _ _) = Z
  refine hK Z ?_
  subst hZ
  clear hK K
  refine kAll_p (fun K hK => ?_)
  go_simp
  generalize hZ : (Act.mk _ _) = Z
  refine hK Z ?_
  subst hZ
  clear hK K
  refine kAll_p (fun K hK => ?_)
  go_simp
  generalize hZ : (Act.mk _ _) = Z
  refine hK Z ?_
  subst hZ
  clear hK K
  refine kAll_pw (by kernel_rfl) (fun K hK => ?_)
  go_simp
  generalize hZ : (Act.mk _ _) = Z
  refine hK Z ?_
  subst hZ
  clear hK K
  refine kAll_pw (by kernel_rfl) (fun K hK => ?_)
  go_simp
  generalize hZ : (Act.mk _ _) = Z
  refine hK Z ?_
  subst hZ
  clear hK K
  refine kAll_pw (by kernel_rfl) (fun K hK => ?_)
  go_simp
  generalize hZ : (Act.mk _ _) = Z
  refine hK Z ?_
  subst hZ
  clear hK K
  refine kAll_p (fun K hK => ?_)
  go_simp
  generalize hZ : (Act.mk _ _) = Z
  refine hK Z ?_
  subst hZ
  clear hK K
  refine kAll_p (fun K hK => ?_)
  go_simp
  generalize hZ : (Act.mk _ _) = Z
  refine hK Z ?_
  subst hZ
  clear hK K
  refine kAll_dn _ (fun W hW hF => kStep_w (by kernel_rfl) fun K Q hK => ?_) (fun K hK => ?_)
  · exact wp_load_row 25 _ rfl n0 rfl 25 _ (0, 0) _ (HX3.out.keep (keepD (Keep.refl _ _) hW) (fun h => h)) Tryz.underlying25 rfl infoCfg (hK _ _ (Keep.refl _ _) rfl)
  go_simp
  generalize hZ : (Act.mk _ _) = Z
  refine hK Z ?_
  subst hZ
  clear hK K
  refine kAll_dn _ (fun W hW hF => kStep_w (by kernel_rfl) fun K Q hK => ?_) (fun K hK => ?_)
  · go_simp
    refine (mayM_any c A3 c5 W (HRx3.out.keep0 (keepD (Keep.refl _ _) hW)) (by omega)).mono ?_
    rintro e w' ⟨rfl, hk⟩
    rw [Hm.out]
    exact hK _ _ hk rfl
  go_simp
  generalize hZ : (Act.mk _ _) = Z
  refine hK Z ?_
  subst hZ
  clear hK K
  refine kAll_dn _ (fun W hW hF => kStep_w (by kernel_rfl) fun K Q hK => ?_) (fun K hK => ?_)
  · exact wp_load_row 25 _ rfl w.heap.size rfl 25 _ (0, 0) _ (HA3.out.keep (keepD (Keep.refl _ _) hW) (fun h => h)) Tryz.underlying25 rfl infoCfg (hK _ _ (Keep.refl _ _) rfl)
  go_simp
  generalize hZ : (Act.mk _ _) = Z
  refine hK Z ?_
  subst hZ
  clear hK K
  refine kAll_dn _ (fun W hW hF => kStep_w (by kernel_rfl) fun K Q hK => ?_) (fun K hK => ?_)
  · go_simp
    refine (rmay_any c A cap W (HRa3.out.keep0 (keepD (Keep.refl _ _) hW)) (by omega)).mono ?_
    rintro e w' ⟨rfl, hk⟩
    rw [Hm.out]
    exact hK _ _ hk rfl
  go_simp
  generalize hZ : (Act.mk _ _) = Z
  refine hK Z ?_
  subst hZ
  clear hK K
  refine kAll_pw (by kernel_rfl) (fun K hK => ?_)
  go_simp
  generalize hZ : (Act.mk _ _) = Z
  refine hK Z ?_
  subst hZ
  clear hK K
  refine kAll_p (fun K hK => ?_)
  go_simp
  generalize hZ : (Act.mk _ _) = Z
  refine hK Z ?_
  subst hZ
  clear hK K
  refine kAll_p (fun K hK => ?_)
  go_simp
  generalize hZ : (Act.mk _ _) = Z
  refine hK Z ?_
  subst hZ
  clear hK K
  refine kAll_dn _ (fun W hW hF => kStep_w (by kernel_rfl) fun K Q hK => ?_) (fun K hK => ?_)
  · exact wp_load_row 25 _ rfl n0 rfl 25 _ (0, 0) _ (HX3.out.keep (keepD (Keep.refl _ _) hW) (fun h => h)) Tryz.underlying25 rfl infoCfg (hK _ _ (Keep.refl _ _) rfl)
  go_simp
  generalize hZ : (Act.mk _ _) = Z
  refine hK Z ?_
  subst hZ
  clear hK K
  refine kAll_dn _ (fun W hW hF => kStep_w (by kernel_rfl) fun K Q hK => ?_) (fun K hK => ?_)
  · exact wp_load_row 25 _ rfl (w.heap.size + 1) rfl 25 _ (0, 0) _ (HB3.out.keep (keepD (Keep.refl _ _) hW) (fun h => h)) Tryz.underlying25 rfl infoCfg (hK _ _ (Keep.refl _ _) rfl)
  go_simp
  generalize hZ : (Act.mk _ _) = Z
  refine hK Z ?_
  subst hZ
  clear hK K
  refine kAll_dn _ (fun W hW hF => kStep_w (by kernel_rfl) fun K Q hK => ?_) (fun K hK => ?_)
  · go_simp
    refine (same_any c d A3 B c5 capb HW.out HWb.out W (HE.out.keep0 (keep0_trans _ _ _ HK3.out (keepD (Keep.refl _ _) hW))) (HRx3.out.keep0 (keepD (Keep.refl _ _) hW)) (HRb3.out.keep0 (keepD (Keep.refl _ _) hW))).mono ?_
    rintro e w' ⟨rfl, hk⟩
    rw [Hp.out]
    exact hK _ _ hk rfl
  go_simp
  generalize hZ : (Act.mk _ _) = Z
  refine hK Z ?_
  subst hZ
  clear hK K
  refine kAll_dn _ (fun W hW hF => kStep_w (by kernel_rfl) fun K Q hK => ?_) (fun K hK => ?_)
  · exact wp_load_row 25 _ rfl w.heap.size rfl 25 _ (0, 0) _ (HA3.out.keep (keepD (Keep.refl _ _) hW) (fun h => h)) Tryz.underlying25 rfl infoCfg (hK _ _ (Keep.refl _ _) rfl)
  go_simp
  generalize hZ : (Act.mk _ _) = Z
  refine hK Z ?_
  subst hZ
  clear hK K
  refine kAll_dn _ (fun W hW hF => kStep_w (by kernel_rfl) fun K Q hK => ?_) (fun K hK => ?_)
  · exact wp_load_row 25 _ rfl (w.heap.size + 1) rfl 25 _ (0, 0) _ (HB3.out.keep (keepD (Keep.refl _ _) hW) (fun h => h)) Tryz.underlying25 rfl infoCfg (hK _ _ (Keep.refl _ _) rfl)
  go_simp
  generalize hZ : (Act.mk _ _) = Z
  refine hK Z ?_
  subst hZ
  clear hK K
  refine kAll_dn _ (fun W hW hF => kStep_w (by kernel_rfl) fun K Q hK => ?_) (fun K hK => ?_)
  · go_simp
    refine (rsame_any c d A B cap capb HW.out HWb.out W (HRa3.out.keep0 (keepD (Keep.refl _ _) hW)) (HRb3.out.keep0 (keepD (Keep.refl _ _) hW))).mono ?_
    rintro e w' ⟨rfl, hk⟩
    rw [Hp.out]
    exact hK _ _ hk rfl
  go_simp
  generalize hZ : (Act.mk _ _) = Z
  refine hK Z ?_
  subst hZ
  clear hK K
  refine kAll_pw (by kernel_rfl) (fun K hK => ?_)
  go_simp
  generalize hZ : (Act.mk _ _) = Z
  refine hK Z ?_
  subst hZ
  clear hK K
  refine kAll_p (fun K hK => ?_)
  go_simp
  generalize hZ : (Act.mk _ _) = Z
  refine hK Z ?_
  subst hZ
  clear hK K
  refine kAll_p (fun K hK => ?_)
  go_simp
  generalize hZ : (Act.mk _ _) = Z
  refine hK Z ?_
  subst hZ
  clear hK K
  refine kAll_dn _ (fun W hW hF => kStep_w (by kernel_rfl) fun K Q hK => ?_) (fun K hK => ?_)
  · exact wp_load_row 25 _ rfl n0 rfl 25 _ (0, 0) _ (HX3.out.keep (keepD (Keep.refl _ _) hW) (fun h => h)) Tryz.underlying25 rfl infoCfg (hK _ _ (Keep.refl _ _) rfl)
  go_simp
  generalize hZ : (Act.mk _ _) = Z
  refine hK Z ?_
  subst hZ
  clear hK K
  refine kAll_dn _ (fun W hW hF => kStep_w (by kernel_rfl) fun K Q hK => ?_) (fun K hK => ?_)
  · exact wp_load_row 25 _ rfl w.heap.size rfl 25 _ (0, 0) _ (HA3.out.keep (keepD (Keep.refl _ _) hW) (fun h => h)) Tryz.underlying25 rfl infoCfg (hK _ _ (Keep.refl _ _) rfl)
  go_simp
  generalize hZ : (Act.mk _ _) = Z
  refine hK Z ?_
  subst hZ
  clear hK K
  refine kAll_dn _ (fun W hW hF => kStep_w (by kernel_rfl) fun K Q hK => ?_) (fun K hK => ?_)
  · go_simp
    refine (rsame_any c c A3 A c5 cap HW.out HW.out W (HRx3.out.keep0 (keepD (Keep.refl _ _) hW)) (HRa3.out.keep0 (keepD (Keep.refl _ _) hW))).mono ?_
    rintro e w' ⟨rfl, hk⟩
    rw [sameM_refl]
    exact hK _ _ hk rfl
  go_simp
  generalize hZ : (Act.mk _ _) = Z
  refine hK Z ?_
  subst hZ
  clear hK K
  refine kAll_pw (by kernel_rfl) (fun K hK => ?_)
  go_simp
  generalize hZ : (Act.mk _ _) = Z
  refine hK Z ?_
  subst hZ
  clear hK K
  refine kAll_p (fun K hK => ?_)
  go_simp
  generalize hZ : (Act.mk _ _) = Z
  refine hK Z ?_
  subst hZ
  clear hK K
  refine kAll_nil (fun W4 hW hF => ?_)
  have HK4 := Lib.hid (keep0_trans _ _ _ HK3.out (keepD (Keep.refl _ _) hW))
  clear hF hW HA3 HB3 HX3 HRa3 HRb3 HRx3
  obtain ⟨⟨q, l, er⟩, hp⟩ : ∃ x, parseM s = x := ⟨_, rfl⟩
  have HP := Lib.hid hp
  have HWq := Lib.hid (show WfC q by have := parse_wf s; rwa [hp] at this)
  clear hp
  go_wp2
  go_loopw [12] (fun j wr => ∃ i : Nat, i ≤ 2 ∧ j = .int .i64 (i : Int) ∧ Hid (Keep (fun _ => False) w wr)) (fun j _ => 2 - (intOf j).toNat)
  case atStart => exact ⟨0, by omega, rfl, HK4⟩
  case round =>
    obtain ⟨i, hi, rfl, HKk⟩ := hrel
    have e2 : IntKind.i64.wrap ((i : Int) + 1) = (i : Int) + 1 := IntWalk.i64_in _ (by omega)
    by_cases hlt : i < 2
    · have q4 : (i : Int) < 2 := by omega
      go_wp2_with fail
      refine (parse_is HP.out _ (HE.out.keep0 HKk.out) (by omega)).mono ?_
      rintro e W6 ⟨row6, A6, cap6, rfl, hs, hr, hk⟩
      have hk6x := Lib.hid hk
      have HSk6 := Lib.hid hs
      have HRo6 := Lib.hid hr
      have HR6 := Lib.hid hs.rd
      have HKw6 := Lib.hid (keep0_trans _ _ _ HKk.out hk)
      clear hs hr hk
      go_wp2_with (first | (refine wpList_store_row rfl 25 _ _ rfl W6.heap.size (cfgA (.slice A6 q.seeds.length cap6) q.v) rfl rfl 25 _ (Blk.new _ _ _) infoCfg rfl (cfgA_one _ _ _ _) ?_; obtain ⟨hbv, hkv⟩ := row_new (t := 25) W6 zc (cfgA (.slice A6 q.seeds.length cap6) q.v); unfold zc at hbv hkv; have HBn := Lib.hid hbv; have HKn := Lib.hid hkv; clear hbv hkv; generalize (W6.alloc (.cells #[.slice none 0 0, .int .i64 0, .int .i64 0, .int .i64 0, .int .i64 0, .int .i64 0, .int .i64 0, .int .i64 0, .int .u8 0, .int .i64 0, .bool false, .bool false, .int .i64 0, .int .i64 0, .int .i64 0, .int .i64 0, .int .i64 0] 25)).setRow W6.heap.size (cfgA (.slice A6 q.seeds.length cap6) q.v) = V6 at *; have HK6o := Lib.hid HKn.out) | fail)
      have HKV6 := Lib.hid (keep0_trans _ _ _ HKw6.out HKn.out)
      have HRV6 := Lib.hid (HR6.out.keep0 HKn.out)
      have HB6 := Lib.hid HBn.out
      clear HBn HKn HR6 HKw6
      refine (rparse_is HP.out _ (HE.out.keep0 HKV6.out) (by omega)).mono ?_
      rintro e W7 ⟨row7, A7, cap7, rfl, hs, hr, hk⟩
      have hk7x := Lib.hid hk
      have HSk7 := Lib.hid hs
      have HRo7 := Lib.hid hr
      have HR7 := Lib.hid hs.rd
      have HKw7 := Lib.hid (keep0_trans _ _ _ HKV6.out hk)
      clear hs hr hk
      go_wp2_with (first | (refine wpList_store_row rfl 25 _ _ rfl W7.heap.size (cfgA (.slice A7 q.seeds.length cap7) q.v) rfl rfl 25 _ (Blk.new _ _ _) infoCfg rfl (cfgA_one _ _ _ _) ?_; obtain ⟨hbv, hkv⟩ := row_new (t := 25) W7 zc (cfgA (.slice A7 q.seeds.length cap7) q.v); unfold zc at hbv hkv; have HBn := Lib.hid hbv; have HKn := Lib.hid hkv; clear hbv hkv; generalize (W7.alloc (.cells #[.slice none 0 0, .int .i64 0, .int .i64 0, .int .i64 0, .int .i64 0, .int .i64 0, .int .i64 0, .int .i64 0, .int .u8 0, .int .i64 0, .bool false, .bool false, .int .i64 0, .int .i64 0, .int .i64 0, .int .i64 0, .int .i64 0] 25)).setRow W7.heap.size (cfgA (.slice A7 q.seeds.length cap7) q.v) = V7 at *; have hk6y := Lib.hid (keep0_trans _ _ _ hk7x.out HKn.out); have HB6x := Lib.hid (HB6.out.keep hk6y.out (fun h => h)); have HR6x := Lib.hid (HRV6.out.keep0 hk6y.out)) | (first | (refine wpList_load_row rfl 25 _ rfl W6.heap.size rfl 25 _ (0, 0) _ HB6x.out Tryz.underlying25 rfl infoCfg ?_) | (refine wpList_load_row rfl 25 _ rfl W7.heap.size rfl 25 _ (0, 0) _ HBn.out Tryz.underlying25 rfl infoCfg ?_)))
      have HKV7 := Lib.hid (keep0_trans _ _ _ HKw7.out HKn.out)
      have HRV7 := Lib.hid (HR7.out.keep0 HKn.out)
      have HB7 := Lib.hid HBn.out
      clear HBn HKn HR7 HKw7
      refine (rsame_any q q A6 A7 cap6 cap7 HWq.out HWq.out V7 HR6x.out HRV7.out).mono ?_
      rintro e W8 ⟨rfl, hk8⟩
      rw [sameM_refl]
      have HK8 := Lib.hid (keep0_trans _ _ _ HKV7.out hk8)
      have HB8 := Lib.hid (HB6x.out.keep hk8 (fun h => h))
      have hszk := HKk.out.size
      have HO8 := Lib.hid ((own_of (b := w.heap.size) HSk6.out (fun g e => Nat.le_trans hszk (HRo6.out g e))).keep0 (keep0_trans _ _ _ HK6o.out (keep0_trans _ _ _ hk6y.out hk8)))
      have hb6 : w.heap.size ≤ W6.heap.size := Nat.le_trans hszk hk6x.out.size
      clear hk8 hszk
      generalize W6.heap.size = b6 at *
      go_wp2
      go_loopw [19] (fun j wz => ∃ k : Nat, k ≤ q.seeds.length ∧ j = .int .i64 (k : Int) ∧ Hid (Blk wz b6 25 (cfgA (.slice A6 q.seeds.length cap6) q.v)) ∧ Hid (OwnI w.heap.size A6 q.seeds.length wz) ∧ Hid (Keep (fun _ => False) w wz)) (fun j _ => q.seeds.length - (intOf j).toNat)
      case atStart => exact ⟨0, Nat.zero_le _, rfl, HB8, HO8, HK8⟩
      case round =>
        obtain ⟨k, hk, rfl, HBk, HOk, HKz⟩ := hrel
        have hql := HWq.out.len
        have e3 : IntKind.i64.wrap ((k : Int) + 1) = (k : Int) + 1 := IntWalk.i64_in _ (by omega)
        have c0 := HBk.out.cell 0
        rw [cfgA_get _ _ (by decide)] at c0
        simp only [cfgC, if_true] at c0
        by_cases hlk : k < q.seeds.length
        · have q5 : (k : Int) < (q.seeds.length : Int) := by omega
          have q6 : (0 : Int) ≤ (k : Int) := by omega
          rcases HOk.out with hz | ⟨g, off, cur, rfl, hb, hsz, hg⟩
          · omega
          have ck : World.cell? wr ⟨g, off + k, none⟩ = some (cur[off + k]'(by omega)) := by rw [hb.cell, Array.getElem?_eq_getElem]
          have fk := hb.frozen (off + k)
          have hkk : Keep (fun x => x = g) wr (wr.setCell ⟨g, off + k, none⟩ (.int .i64 (-7))) := (Keep.refl (fun x => x = g) wr).setCell (fun _ => rfl) _
          have HBk2 := Lib.hid (HBk.out.keep hkk (fun e => by subst e; exact Blk.ne_ HBk.out hb (by decide) rfl))
          have HOk2 := Lib.hid (show OwnI w.heap.size (some ⟨g, off, none⟩) q.seeds.length _ from .inr ⟨g, off, _, rfl, hb.set_ (off + k) (.int .i64 (-7)), by rw [Array.size_setIfInBounds]; exact hsz, hg⟩)
          have HKz2 := Lib.hid (HKz.out.trans (hkk.mono fun x _ e => .inr (by omega)))
          clear hb hkk
          go_wp2
          go_roundw
          case rel => exact ⟨k + 1, by omega, by go_num, HBk2, HOk2, HKz2⟩
          case measure => simp [intOf]; omega
        · have q5 : ¬ (k : Int) < (q.seeds.length : Int) := by omega
          go_wp2
          go_roundw
          case rel => exact ⟨i + 1, by omega, by go_num, HKz⟩
          case measure => simp [intOf]; omega
    · have q4 : ¬ (i : Int) < 2 := by omega
      go_wp2_with fail
      refine (awake_any wr (HE.out.keep0 HKk.out)).mono ?_
      rintro e W1 ⟨rfl, hk⟩
      have HK := Lib.hid (keep0_trans _ _ _ HKk.out hk)
      clear hk
      go_wp2
      go_ret
      exact ⟨rfl, below_of HK.out⟩
end Go.Proofs.YtjgkalcldekmpaaGreatDoor
