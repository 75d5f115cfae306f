/-
  EntryNames.
-/
import Derived.Test.YtlnflbobcbnhhaaEntL
namespace Go.Proofs.Ytlnflbobcbnhhaa
open Go.RowKit

def nA : E := tickN 5 (newE [1, 2] 3 1)
set_option maxRecDepth 100000 in
set_option maxHeartbeats 8000000 in
theorem walkEntryNames {w : World} : Calls Try.prog 7 #[] w fun e w' => e = .returned (.bool true) ∧ Below w.heap.size w w' := by
  go_enter Try.func7, Try.ntmps7
  go_wp2_with fail
  refine (tick_nil w).mono ?_
  rintro e wx ⟨rfl, hw⟩
  rw [hw]
  clear hw wx
  go_wp2_with fail
  refine (answered_nil w).mono ?_
  rintro e wx ⟨rfl, hw⟩
  rw [hw]
  clear hw wx
  go_wp2_with fail
  refine (works_any w).mono ?_
  rintro e w1 ⟨rfl, hb1⟩
  go_wp2_with fail
  refine (ticks_nil w1).mono ?_
  rintro e wx ⟨rfl, hw⟩
  rw [hw]
  clear hw wx
  go_wp2_with fail
  refine (copy_nil w1).mono ?_
  rintro e wx ⟨rfl, hw⟩
  rw [hw]
  clear hw wx
  go_wp2
  go_loopw [54] (fun i wr => ∃ k : Int, 0 ≤ k ∧ k ≤ 3 ∧ i = .int .i64 k ∧ Below w.heap.size w wr ∧ Blk wr w1.heap.size 3 #[.int .i64 0, .int .i64 (-1), .int .i64 4097]) (fun i _ => 3 - (intOf i).toNat)
  case atStart => exact ⟨0, by decide, by decide, rfl, hb1.alloc hb1.size _, Blk.new _ _ _⟩
  case round =>
    obtain ⟨k, hk0, hk, rfl, hb, hB⟩ := hrel
    clear hb1
    rcases (show k = 0 ∨ k = 1 ∨ k = 2 ∨ k = 3 by omega) with rfl | rfl | rfl | rfl
    · have c0 := hB.cell 0
      simp at c0
      have HB := Lib.hid hB
      have HO := Lib.hid hb
      clear hB hb hk hk0
      go_wp2_with fail
      refine (new_bad _ _ _ _ _ 0 _ _ _ _ _ _ _ _ _ _ _ 1 1 wr (by decide)).mono ?_
      rintro e w2 ⟨rfl, hb2⟩
      go_wp2
      go_roundw
      case rel => exact ⟨1, by decide, by decide, rfl, HO.out.trans (hb2.mono HO.out.size), HB.out.below hb2⟩
      case measure => decide
    · have c0 := hB.cell 1
      simp at c0
      have HB := Lib.hid hB
      have HO := Lib.hid hb
      clear hB hb hk hk0
      go_wp2_with fail
      refine (new_bad _ _ _ _ _ (-1) _ _ _ _ _ _ _ _ _ _ _ 1 1 wr (by decide)).mono ?_
      rintro e w2 ⟨rfl, hb2⟩
      go_wp2
      go_roundw
      case rel => exact ⟨2, by decide, by decide, rfl, HO.out.trans (hb2.mono HO.out.size), HB.out.below hb2⟩
      case measure => decide
    · have c0 := hB.cell 2
      simp at c0
      have HB := Lib.hid hB
      have HO := Lib.hid hb
      clear hB hb hk hk0
      go_wp2_with fail
      refine (new_bad _ _ _ _ _ 4097 _ _ _ _ _ _ _ _ _ _ _ 1 1 wr (by decide)).mono ?_
      rintro e w2 ⟨rfl, hb2⟩
      go_wp2
      go_roundw
      case rel => exact ⟨3, by decide, by decide, rfl, HO.out.trans (hb2.mono HO.out.size), HB.out.below hb2⟩
      case measure => decide
    · go_wp2_with fail
      refine (two_any wr).mono ?_
      rintro e w2 ⟨rfl, hk2, hs2⟩
      have hO := hb.trans (hk2.below hb.size (fun _ h => h.elim))
      clear hb hB hk2 hs2 hk hk0
      go_wp2_with fail
      refine (new_bad _ _ _ _ _ 3 _ _ _ _ _ _ _ _ _ _ _ 13 1 w2 (by decide)).mono ?_
      rintro e w3 ⟨rfl, hb3⟩
      have hN : ENs w [] w3 := ENs.nil_ (hO.trans (hb3.mono hO.size))
      clear hO hb3
      go_wp2_with fail
      refine (two_any w3).mono ?_
      rintro e w4 ⟨rfl, hk4, hs4⟩
      have hN4 := hN.keep0 hk4
      clear hN hk4
      go_wp2_with fail
      refine (new_ok [1, 2] _ _ _ _ 3 _ _ _ _ _ _ _ _ _ _ _ 1 1 w4 (by decide) (by decide) (by decide) hs4.rd (by decide)).mono ?_
      rintro e w5 ⟨b1, row, rfl, hE, hbn, hr, hk⟩
      have hN5 : ENs w [(b1, newE [1, 2] 3 1)] w5 := hN4.made (newE_ok (seeds := [1, 2]) (retry := 3) (own := 1) (by decide) (by decide) (by decide)) hE hbn hr hk
      clear hN4 hs4 hE hbn hr hk
      go_wp2_with fail
      refine (ens_ticksT [] [] [[50], [45], [45], [50], [45]] (hN5.keep0 ((Keep.refl (fun _ => False) w5).alloc _)) (Blk.new w5 _ _) rfl (by decide) rfl (by decide) (by decide)).mono ?_
      clear hN5
      rintro e w6 ⟨rfl, hN6⟩
      go_wp2_with fail
      refine (ens_copy [] [] hN6).mono ?_
      clear hN6
      rintro e w7 ⟨b2, rfl, hN7⟩
      have hN7' : ENs w [(b1, nA), (b2, nA)] w7 := hN7
      clear hN7
      go_wp2_with fail
      refine (ens_answered [] [(b2, nA)] hN7').mono ?_
      clear hN7'
      rintro e w8 ⟨rfl, hN8⟩
      have hN8' : ENs w [(b1, nA.answer), (b2, nA)] w8 := hN8
      clear hN8
      go_wp2_with fail
      refine (new_ok [4] _ _ _ _ 1 _ _ _ _ _ _ _ _ _ _ _ 4 9 _ (by decide) (by decide) (by decide) (by exact blk_rd (xs := [.int .i64 4]) (Blk.new w8 _ _)) (by decide)).mono ?_
      rintro e w9 ⟨b3, row, rfl, hE, hbn, hr, hk⟩
      have hN9 : ENs w [(b1, nA.answer), (b2, nA), (b3, newE [4] 1 4)] w9 := (hN8'.keep0 ((Keep.refl (fun _ => False) w8).alloc _)).made (newE_ok (seeds := [4]) (retry := 1) (own := 4) (by decide) (by decide) (by decide)) hE hbn hr hk
      clear hN8' hE hbn hr hk
      go_wp2_with fail
      refine (new_ok [] _ _ _ _ 1 _ _ _ _ _ _ _ _ _ _ _ 4 9 w9 (by decide) (by decide) (by decide) (by exact ⟨rfl, fun k hk => absurd hk (Nat.not_lt_zero _)⟩) (by decide)).mono ?_
      rintro e wa ⟨b4, row, rfl, hE, hbn, hr, hk⟩
      have hNa : ENs w [(b1, nA.answer), (b2, nA), (b3, newE [4] 1 4), (b4, newE [] 1 4)] wa := hN9.made (newE_ok (seeds := []) (retry := 1) (own := 4) (by decide) (by decide) (by decide)) hE hbn hr hk
      clear hN9 hE hbn hr hk
      go_wp2_with fail
      refine (new_ok [5, 0, 3, 5, 13, 4] _ _ _ _ 4096 _ _ _ _ _ _ _ _ _ _ _ 4 9 _ (by decide) (by decide) (by decide) (by exact blk_rd (xs := [.int .i64 5, .int .i64 0, .int .i64 3, .int .i64 5, .int .i64 13, .int .i64 4]) (Blk.new wa _ _)) (by decide)).mono ?_
      rintro e wb ⟨b5, row, rfl, hE, hbn, hr, hk⟩
      have hNb : ENs w [(b1, nA.answer), (b2, nA), (b3, newE [4] 1 4), (b4, newE [] 1 4), (b5, newE [5, 0, 3, 5, 13, 4] 4096 4)] wb := (hNa.keep0 ((Keep.refl (fun _ => False) wa).alloc _)).made (newE_ok (seeds := [5, 0, 3, 5, 13, 4]) (retry := 4096) (own := 4) (by decide) (by decide) (by decide)) hE hbn hr hk
      clear hNa hE hbn hr hk
      go_wp2_with fail
      refine (ens_ticksT [] [(b2, nA), (b3, newE [4] 1 4), (b4, newE [] 1 4), (b5, newE [5, 0, 3, 5, 13, 4] 4096 4)] [[45], [50], [45]] (x := nA.answer) (b := b1) (hNb.keep0 ((Keep.refl (fun _ => False) wb).alloc _)) (Blk.new wb _ _) rfl (by decide) rfl (by decide) (by decide)).mono ?_
      clear hNb
      rintro e wc0 ⟨rfl, hq0⟩
      have hp0 : ENs w [(b1, tickN 3 (nA.answer)), (b2, nA), (b3, newE [4] 1 4), (b4, newE [] 1 4), (b5, newE [5, 0, 3, 5, 13, 4] 4096 4)] wc0 := hq0
      clear hq0
      go_wp2_with fail
      refine (ens_ticksT [(b1, tickN 3 (nA.answer))] [(b3, newE [4] 1 4), (b4, newE [] 1 4), (b5, newE [5, 0, 3, 5, 13, 4] 4096 4)] [[97], [50, 97]] (x := nA) (b := b2) (hp0.keep0 ((Keep.refl (fun _ => False) wc0).alloc _)) (Blk.new wc0 _ _) rfl (by decide) rfl (by decide) (by decide)).mono ?_
      clear hp0
      rintro e wc1 ⟨rfl, hq1⟩
      have hp1 : ENs w [(b1, tickN 3 (nA.answer)), (b2, tickN 2 (nA)), (b3, newE [4] 1 4), (b4, newE [] 1 4), (b5, newE [5, 0, 3, 5, 13, 4] 4096 4)] wc1 := hq1
      clear hq1
      go_wp2_with fail
      refine (ens_ticksT [(b1, tickN 3 (nA.answer)), (b2, tickN 2 (nA))] [(b4, newE [] 1 4), (b5, newE [5, 0, 3, 5, 13, 4] 4096 4)] [[45], [97], [97]] (x := newE [4] 1 4) (b := b3) (hp1.keep0 ((Keep.refl (fun _ => False) wc1).alloc _)) (Blk.new wc1 _ _) rfl (by decide) rfl (by decide) (by decide)).mono ?_
      clear hp1
      rintro e wc2 ⟨rfl, hq2⟩
      have hp2 : ENs w [(b1, tickN 3 (nA.answer)), (b2, tickN 2 (nA)), (b3, tickN 3 (newE [4] 1 4)), (b4, newE [] 1 4), (b5, newE [5, 0, 3, 5, 13, 4] 4096 4)] wc2 := hq2
      clear hq2
      go_wp2_with fail
      refine (ens_ticksT [(b1, tickN 3 (nA.answer)), (b2, tickN 2 (nA)), (b3, tickN 3 (newE [4] 1 4))] [(b5, newE [5, 0, 3, 5, 13, 4] 4096 4)] [[45], [45], [45]] (x := newE [] 1 4) (b := b4) (hp2.keep0 ((Keep.refl (fun _ => False) wc2).alloc _)) (Blk.new wc2 _ _) rfl (by decide) rfl (by decide) (by decide)).mono ?_
      clear hp2
      rintro e wc3 ⟨rfl, hq3⟩
      have hp3 : ENs w [(b1, tickN 3 (nA.answer)), (b2, tickN 2 (nA)), (b3, tickN 3 (newE [4] 1 4)), (b4, tickN 3 (newE [] 1 4)), (b5, newE [5, 0, 3, 5, 13, 4] 4096 4)] wc3 := hq3
      clear hq3
      go_wp2_with fail
      refine (ens_ticksT [(b1, tickN 3 (nA.answer)), (b2, tickN 2 (nA)), (b3, tickN 3 (newE [4] 1 4)), (b4, tickN 3 (newE [] 1 4))] [] [[53, 51], [45]] (x := newE [5, 0, 3, 5, 13, 4] 4096 4) (b := b5) (hp3.keep0 ((Keep.refl (fun _ => False) wc3).alloc _)) (Blk.new wc3 _ _) rfl (by decide) rfl (by decide) (by decide)).mono ?_
      clear hp3
      rintro e wc4 ⟨rfl, hq4⟩
      have hp4 : ENs w [(b1, tickN 3 (nA.answer)), (b2, tickN 2 (nA)), (b3, tickN 3 (newE [4] 1 4)), (b4, tickN 3 (newE [] 1 4)), (b5, tickN 2 (newE [5, 0, 3, 5, 13, 4] 4096 4))] wc4 := hq4
      clear hq4
      go_wp2_with fail
      refine (ens_ticks [] _ hp4).mono ?_
      rintro e wz ⟨rfl, hw⟩
      have h8 : (tickN 3 nA.answer).ticks = 8 := by decide
      rw [← hw, h8]
      go_wp2
      go_ret
      exact ⟨rfl, by rw [← hw]; exact hp4.old⟩
end Go.Proofs.Ytlnflbobcbnhhaa
