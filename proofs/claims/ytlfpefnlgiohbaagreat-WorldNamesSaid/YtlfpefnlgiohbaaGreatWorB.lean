/-
  world.New (a configuration without Lease).
-/
import Derived.Test.YtlfpefnlgiohbaaGreatWorA
import Derived.Test.YtlfpefnlgiohbaaGreatSlK2
namespace Go.Proofs.YtlfpefnlgiohbaaGreat
open Go.RowKit Go
set_option maxRecDepth 100000

theorem grew_newA {w w1 w2 : World} {row row2 : Option Nat} {A A2 : Option Addr} {c c2 m : Nat} (h : (m = 0 ∧ row2 = row ∧ A2 = A ∧ c2 = c ∧ w2 = w1) ∨ Grew row A c w1 row2 A2 c2 w2) (hk : Keep (fun _ => False) w w1) (hr : ∀ g, row = some g → w.heap.size ≤ g) :
    Keep (fun _ => False) w w2 ∧ ∀ g, row2 = some g → w.heap.size ≤ g := by
  rcases h with ⟨_, e1, _, _, e2⟩ | h
  · rw [e1, e2]; exact ⟨hk, hr⟩
  · exact ⟨h.keep0 hk hr, h.own hk.size hr⟩
theorem infoInt : (Tryz.prog.info? 3).map (fun i => (i.zero, i.size, i.bytes)) = some (some (.int .i64 0), 1, 8) := by kernel_rfl
theorem one_ints (l : List Int) : ∀ u ∈ l.map (Value.int .i64), u.oneCell' = true := by
  intro u hu
  rw [List.mem_map] at hu
  obtain ⟨x, _, rfl⟩ := hu
  rfl
set_option maxHeartbeats 1000000 in
theorem wldNew_bad (c : NC) (A : Option Addr) (n cap : Nat) (w : World) (hr : RdN w A n c.seeds) (hn : n ≤ 1000000) (hc : mayNC c = false) :
    Calls Tryz.prog 5 #[.agg (cca (.slice A n cap) c)] w (Tell (.tuple #[.pointer none, .int .i64 1]) w) := by
  have HR := Lib.hid hr
  have HM := Lib.hid hc
  clear hr hc
  go_enter Tryz.func5, Tryz.ntmps5
  obtain ⟨W0, hW0⟩ : ∃ V, w.alloc (.cells (cca (.slice A n cap) c) 45) = V := ⟨_, rfl⟩
  have hb := Blk.new w 45 (cca (.slice A n cap) c)
  have hk : Keep (fun _ => False) w W0 := by rw [← hW0]; exact (Keep.refl _ _).alloc _
  rw [hW0] at hb
  have HB := Lib.hid hb
  have HK := Lib.hid hk
  clear hb hk
  go_wp2_with (first | (refine wpList_load_row rfl 45 _ rfl w.heap.size rfl 45 _ (0, 0) _ HB.out Tryz.underlying45 rfl (by kernel_rfl) ?_) | fail)
  refine (mayNC_any c A n cap _ (HR.out.keep0 HK.out) (by omega)).mono ?_
  rintro e W ⟨rfl, hk⟩
  rw [HM.out]
  have HK2 := Lib.hid (keep0_trans _ _ _ HK.out hk)
  clear hk hW0
  go_wp2
  go_ret2
  exact ⟨rfl, HK2.out⟩
def MadeWd (c : NC) (w : World) (e : Ending) (w' : World) : Prop :=
  ∃ (b : Nat) (row : Option Nat) (A : Option Addr) (cap bn : Nat), e = .returned (.tuple #[.pointer (some ⟨b, 0, none⟩), .int .i64 0]) ∧ Wd w' b row A cap c (fun _ => .pointer none) (fun _ => 0) 0 bn ∧ w.heap.size ≤ b ∧ w.heap.size ≤ bn ∧ (∀ g, row = some g → w.heap.size ≤ g) ∧ Keep (fun _ => False) w w'
set_option maxHeartbeats 2000000 in
theorem wldNew_ok (c : NC) (A : Option Addr) (n cap : Nat) (w : World) (hr : RdN w A n c.seeds) (hn : n ≤ 1000000) (hc : mayNC c = true) (h4 : c.strategy ≠ 4) :
    Calls Tryz.prog 5 #[.agg (cca (.slice A n cap) c)] w (MadeWd c w) := by
  obtain ⟨i0, hi, hz0, hz1, hz2⟩ := info_parts infoInt
  have HI := Lib.hid hi
  have HZ0 := Lib.hid hz0
  have HZ1 := Lib.hid hz1
  have HZ2 := Lib.hid hz2
  obtain rfl : n = c.seeds.length := (RdN.len hr).symm
  have HR := Lib.hid hr
  have HM := Lib.hid hc
  have HN := Lib.hid hn
  clear hr hc hi hz0 hz1 hz2 hn
  go_enter Tryz.func5, Tryz.ntmps5
  obtain ⟨W0, hW0⟩ : ∃ V, w.alloc (.cells (cca (.slice A c.seeds.length cap) c) 45) = V := ⟨_, rfl⟩
  have hb := Blk.new w 45 (cca (.slice A c.seeds.length cap) c)
  have hk : Keep (fun _ => False) w W0 := by rw [← hW0]; exact (Keep.refl _ _).alloc _
  rw [hW0] at hb
  have HB := Lib.hid hb
  have HK := Lib.hid hk
  clear hb hk
  go_wp2_with (first | (refine wpList_load_row rfl 45 _ rfl w.heap.size rfl 45 _ (0, 0) _ HB.out Tryz.underlying45 rfl (by kernel_rfl) ?_) | fail)
  refine (mayNC_any c A _ cap _ (HR.out.keep0 HK.out) (by have := HN.out; omega)).mono ?_
  rintro e W ⟨rfl, hk⟩
  rw [HM.out]
  replace HB := Lib.hid (HB.out.keep hk (fun h => h))
  replace HK := Lib.hid (keep0_trans _ _ _ HK.out hk)
  clear hk hW0
  generalize hbc : w.heap.size = bc at *
  have HBC := Lib.hid hbc
  clear hbc
  obtain ⟨W1, hW1⟩ : ∃ V, W.alloc (.cells #[] 3) = V := ⟨_, rfl⟩
  have hb1 : Blk W1 W.heap.size 3 #[] := by rw [← hW1]; exact Blk.new _ _ _
  have hk1 : Keep (fun _ => False) W W1 := by rw [← hW1]; exact (Keep.refl _ _).alloc _
  have HE : Hid (SlK W1 3 1 (some W.heap.size) (some ⟨W.heap.size, 0, none⟩) 0 0 []) := Lib.hid ⟨rfl, Nat.le_refl _, by simp [maxLen], .inr ⟨_, 0, _, rfl, rfl, hb1, by simp, fun j hj => by omega⟩⟩
  have HK1 := Lib.hid (keep0_trans _ _ _ HK.out hk1)
  have HB1 := Lib.hid (HB.out.keep hk1 (fun h => h))
  clear hb1 hk1
  have c0 := HB1.out.cell 0
  simp at c0
  go_wp2_with (at_builtin; refine wpList_append_slK rfl _ _ _ rfl i0 _ 8 Tryz.underlying43 HI.out HZ0.out HZ1.out HZ2.out rfl (by omega) HE.out rfl rfl (HR.out.keep0 HK1.out) (one_ints _) (by have := HN.out; unfold maxLen; omega) (by have := HN.out; omega) ?_; intro row1 A1 c1 W2 hs2 hr2
               have hB2 := HB1.out.keep (grew_keep hr2) (fun e => by have e := Option.some.inj e; have := HB.out.lt; omega)
               obtain ⟨hk3, hw3⟩ := grew_newA hr2 HK1.out (fun g hg => by injection hg with hg; have := HK.out.size; omega)
               have HB2 := Lib.hid hB2
               have HS2 := Lib.hid hs2
               have HK3 := Lib.hid hk3
               have HW3 := Lib.hid hw3
               have b0 := hB2.cell 0
               have f0 := hB2.frozen 0
               simp at b0
               clear hs2 hr2 hk3 hw3 hB2 c0)
  have kc := (Keep.refl (fun g => g = bc) W2).setCell (p := ⟨bc, 0, none⟩) (fun _ => rfl) (.slice A1 (0 + c.seeds.length) c1)
  have hB3 : Blk (W2.setCell ⟨bc, 0, none⟩ (.slice A1 (0 + c.seeds.length) c1)) bc 45 (cca (.slice A1 c.seeds.length c1) c) := by have := HB2.out.set_ 0 (.slice A1 (0 + c.seeds.length) c1); simpa using this
  have hS3 := HS2.out.keep kc (fun q hq e => HS2.out.row_ne HB2.out (by decide) (by rw [hq, e]))
  have hK3 := HK3.out.new (p := ⟨bc, 0, none⟩) (by show w.heap.size ≤ bc; rw [HBC.out]; exact Nat.le_refl _) (.slice A1 (0 + c.seeds.length) c1)
  simp only [Nat.zero_add, List.nil_append] at hB3 hS3 hK3 ⊢
  refine (netNew_ok 4096 _ (by omega) (by omega)).mono ?_
  rintro e W3 ⟨bn, rfl, hbn, hnl, hk4⟩
  have HB4 := Lib.hid (hB3.keep hk4 (fun h => h))
  have HS4 := Lib.hid (hS3.keep hk4 (fun _ _ h => h))
  have HN4 := Lib.hid hbn
  have HL4 := Lib.hid (Nat.le_trans hK3.size hnl)
  have HK4 := Lib.hid (keep0_trans _ _ _ hK3 hk4)
  clear kc hB3 hS3 hK3 hbn hnl hk4 b0 f0 hW1
  go_upto_region 5 with (fail)
  go_upto_region 6 with (first | (refine wpList_load_row rfl 45 _ rfl bc rfl 45 _ (0, 0) _ HB4.out Tryz.underlying45 rfl (by kernel_rfl) ?_) | fail)
  have c8 := (HB4.out.keep ((Keep.refl (fun _ => False) W3).alloc (.cells (wldA (.slice A1 c.seeds.length c1) c (fun _ => .pointer none) (fun _ => 0) 0 bn) 70)) (fun h => h)).cell 8
  simp at c8
  have h4b : (c.strategy == 4) = false := by simpa using h4
  go_wp2
  go_ret2
  have hz := HK4.out.size
  refine ⟨W3.heap.size, row1, A1, c1, bn, rfl, ⟨Blk.new _ _ _, HS4.out.keep ((Keep.refl (fun _ => False) W3).alloc _) (fun _ _ h => h), HN4.out.keep ((Keep.refl (fun _ => False) W3).alloc _) (fun h => h)⟩, hz, HL4.out, HW3.out, HK4.out.alloc _⟩
end Go.Proofs.YtlfpefnlgiohbaaGreat
