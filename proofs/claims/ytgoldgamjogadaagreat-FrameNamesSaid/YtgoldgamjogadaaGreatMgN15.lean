/-
  coveylaw11: tooLarge.
  coveylaw11: tooLarge, the walk.
  FrameNames: the frames that it goes through; which may be.
  A struct in the middle of a block: loaded as one value. A new block's row stored as one value.
-/
import Derived.Test.YtgoldgamjogadaaGreatMgN14
import Derived.Test.YtgoldgamjogadaaGreatMgN1
import Derived.Laws.Rows
import Derived.Laws.Tables
import Derived.Great.BuildSlice
namespace Go.Proofs.YtgoldgamjogadaaGreat
open Go.RowKit Go
set_option maxRecDepth 100000
attribute [local go_sem] bs_toList bs_size bs_get

def seenL (q : Nat) : List ID := (List.range q).map fun (j : Nat) => (3, (j : Int) + 1)
def manyL (q : Nat) : List ID := (List.range q).map fun (j : Nat) => (5, 1048512 + ((j : Int) + 1))
def rowsL (q : Nat) : List RowM := (List.range q).map fun (j : Nat) => ⟨(6, (j : Int) + 1), 1, manyL 64⟩
theorem seenL_len (q : Nat) : (seenL q).length = q := by unfold seenL; simp
theorem manyL_len (q : Nat) : (manyL q).length = q := by unfold manyL; simp
theorem rowsL_len (q : Nat) : (rowsL q).length = q := by unfold rowsL; simp
theorem seenL_next (q : Nat) : seenL (q + 1) = seenL q ++ [(3, (q : Int) + 1)] := by unfold seenL; rw [List.range_succ, List.map_append]; rfl
theorem manyL_next (q : Nat) : manyL (q + 1) = manyL q ++ [(5, 1048512 + ((q : Int) + 1))] := by unfold manyL; rw [List.range_succ, List.map_append]; rfl
theorem rowsL_next (q : Nat) : rowsL (q + 1) = rowsL q ++ [⟨(6, (q : Int) + 1), 1, manyL 64⟩] := by unfold rowsL; rw [List.range_succ, List.map_append]; rfl
def f64 : FrM := ⟨4, (1, 1), (2, 1), 0, 0, (0, 0), ⟨[], [], [], [], seenL 64⟩⟩
def f65 : FrM := ⟨4, (1, 1), (2, 1), 0, 0, (0, 0), ⟨[], [], [], [], seenL 64 ++ [(4, 1)]⟩⟩
def fBig : FrM := ⟨4, (1, 1), (2, 1), 0, 0, (0, 0), ⟨[], [], rowsL 40, [], seenL 64⟩⟩
set_option maxRecDepth 1000000 in
theorem f64_ok : (encM f64).2 = 0 := by decide +kernel
set_option maxRecDepth 1000000 in
theorem f65_enc : encM f65 = ([], 40) := by decide +kernel
set_option maxRecDepth 1000000 in
theorem f65_may : mayF f65 = true := by decide +kernel
theorem big_gone : goneM (rowsL 40) [] = rowsL 40 := by decide +kernel
set_option maxRecDepth 1000000 in
theorem fBig_may : mayF fBig = true := by
  have e : mayV fBig.view = true := by
    unfold mayV
    show (mayT [] [] && mayR (rowsL 40) && sameRs (goneM (rowsL 40) []) (rowsL 40) && mayCk [] && risB (seenL 64) && (seenL 64).all mayID) = true
    rw [big_gone, sameRs_self]
    decide +kernel
  unfold mayF
  rw [show viewOK (namesM fBig.kind) fBig.view = mayV fBig.view by unfold viewOK; rw [if_pos (by decide)], e]
  decide +kernel
set_option maxRecDepth 1000000 in
theorem fBig_body : (bodyM fBig).2 = 0 ∧ 8192 < (bodyM fBig).1.length := by decide +kernel
theorem fBig_enc : encM fBig = ([], 40) := by
  unfold encM
  rw [if_pos fBig_may, if_pos fBig_body.1, if_pos (by rw [List.length_append]; have := fBig_body.2; omega)]
end Go.Proofs.YtgoldgamjogadaaGreat

namespace Go.Proofs.YtgoldgamjogadaaGreat
open Go.RowKit Go
set_option maxRecDepth 100000
attribute [local go_sem] bs_toList bs_size bs_get

theorem one_ids' (l : List ID) : ∀ u ∈ l.flatMap cID, u.oneCell' = true := by
  intro u hu
  obtain ⟨x, _, hx⟩ := List.mem_flatMap.1 hu
  simp at hx
  rcases hx with rfl | rfl <;> rfl
theorem grew_newL {w w1 w2 : World} {row row2 : Option Nat} {A A2 : Option Addr} {c c2 m : Nat} (h : (m = 0 ∧ row2 = row ∧ A2 = A ∧ c2 = c ∧ w2 = w1) ∨ Grew row A c w1 row2 A2 c2 w2) (hk : Keep (fun _ => False) w w1) (hr : ∀ g, row = some g → w.heap.size ≤ g) :
    Keep (fun _ => False) w w2 ∧ (∀ g, row2 = some g → w.heap.size ≤ g) ∧ Keep (fun g => row = some g) w1 w2 := by
  rcases h with ⟨_, e1, _, _, e2⟩ | h
  · rw [e1, e2]; exact ⟨hk, hr, Keep.refl _ _⟩
  · exact ⟨h.keep0 hk hr, h.own hk.size hr, h.keep⟩
theorem grew_rowS {w1 w2 : World} {row row2 : Option Nat} {A A2 : Option Addr} {c c2 m : Nat} (h : (m = 0 ∧ row2 = row ∧ A2 = A ∧ c2 = c ∧ w2 = w1) ∨ Grew row A c w1 row2 A2 c2 w2) (S : Nat → Prop) {w : World} (hk : Keep S w w1) (hr : ∀ g, row = some g → w.heap.size ≤ g) :
    Keep S w w2 ∧ (∀ g, row2 = some g → w.heap.size ≤ g) ∧ Keep (fun g => row = some g) w1 w2 := by
  rcases h with ⟨_, e1, _, _, e2⟩ | h
  · rw [e1, e2]; exact ⟨hk, hr, Keep.refl _ _⟩
  · exact ⟨hk.trans (h.keep.mono fun g _ e => .inr (hr g e)), h.own hk.size hr, h.keep⟩
theorem slk_rdI {w : World} {row : Option Nat} {A : Option Addr} {n c : Nat} {l : List ID} (h : SlK w 24 2 row A n c (l.flatMap cID)) : RdI w A n l := by
  have e := h.1
  rw [flat_len cID 2 (fun _ => rfl)] at e
  exact ⟨by omega, h.rd⟩
theorem isV_seen {w : World} {A : Option Addr} {n c : Nat} {l : List ID} (h : RdI w A n l) : IsV w (.slice none 0 0) (.slice none 0 0) (.slice none 0 0) (.slice none 0 0) (.slice A n c) ⟨[], [], [], [], l⟩ :=
  ⟨(isV_empty w).mem, (isV_empty w).fl, (isV_empty w).rows, (isV_empty w).clk, ⟨A, n, c, rfl, h⟩, fun x hx => by simp at hx⟩
theorem few_seen {l : List ID} (h : l.length ≤ 10000) : Few ⟨[], [], [], [], l⟩ := ⟨by simp, by simp, by simp, by simp, h, by simp⟩
theorem back64 (W : World) (A : Option Addr) (c : Nat) (h : RdI W A 64 (seenL 64)) : Calls Tryz.prog 8 #[.agg #[.int .u8 4, .int .i64 1, .int .i64 1, .int .i64 2, .int .i64 1, .int .i64 0, .int .i64 0, .int .i64 0, .int .i64 0, .slice none 0 0, .slice none 0 0, .slice none 0 0, .slice none 0 0, .slice A 64 c]] W (Tell (.bool true) W) :=
  back_any f64 _ _ _ _ _ W (by decide) (isV_seen h) (few_seen (by rw [seenL_len]; decide)) (t := (encM f64).1) (by rw [← f64_ok])
theorem few65 : Few f65.view := few_seen (by rw [List.length_append, seenL_len]; decide)
theorem enc65 (W : World) (A : Option Addr) (c : Nat) (h : RdI W A 65 (seenL 64 ++ [(4, 1)])) : Calls Tryz.prog 9 #[.agg #[.int .u8 4, .int .i64 1, .int .i64 1, .int .i64 2, .int .i64 1, .int .i64 0, .int .i64 0, .int .i64 0, .int .i64 0, .slice none 0 0, .slice none 0 0, .slice none 0 0, .slice none 0 0, .slice A 65 c]] W (Tell (.tuple #[.string (bs []), .int .i64 40]) W) := by
  have h := encode_any f65 _ _ _ _ (.slice A 65 c) W (by decide) (isV_seen h) few65
  rw [f65_enc] at h
  exact h
theorem may65 (W : World) (A : Option Addr) (c : Nat) (h : RdI W A 65 (seenL 64 ++ [(4, 1)])) : Calls Tryz.prog 7 #[.agg #[.int .u8 4, .int .i64 1, .int .i64 1, .int .i64 2, .int .i64 1, .int .i64 0, .int .i64 0, .int .i64 0, .int .i64 0, .slice none 0 0, .slice none 0 0, .slice none 0 0, .slice none 0 0, .slice A 65 c]] W (Tell (.bool true) W) := by
  have h := frameMay_any f65 _ _ _ _ (.slice A 65 c) W (by decide) (isV_seen h) few65
  rw [f65_may] at h
  exact h
theorem isV_big {w : World} {A A2 : Option Addr} {c c2 : Nat} (h : RdI w A 64 (seenL 64)) (h2 : RdRow w A2 40 (rowsL 40)) : IsV w (.slice none 0 0) (.slice none 0 0) (.slice A2 40 c2) (.slice none 0 0) (.slice A 64 c) fBig.view :=
  ⟨(isV_empty w).mem, (isV_empty w).fl, ⟨A2, 40, c2, rfl, h2⟩, (isV_empty w).clk, ⟨A, 64, c, rfl, h⟩, fun x hx => by simp [fBig] at hx⟩
theorem fewBig : Few fBig.view := ⟨by simp [fBig], by simp [fBig], by show (rowsL 40).length ≤ 10000; rw [rowsL_len]; decide, by simp [fBig], by show (seenL 64).length ≤ 10000; rw [seenL_len]; decide, fun r hr => by
  have hr : r ∈ rowsL 40 := hr
  unfold rowsL at hr
  obtain ⟨j, _, rfl⟩ := List.mem_map.1 hr
  show (manyL 64).length ≤ 10000
  rw [manyL_len]; decide⟩
theorem encBig (W : World) (A A2 : Option Addr) (c c2 : Nat) (h : RdI W A 64 (seenL 64)) (h2 : RdRow W A2 40 (rowsL 40)) : Calls Tryz.prog 9 #[.agg #[.int .u8 4, .int .i64 1, .int .i64 1, .int .i64 2, .int .i64 1, .int .i64 0, .int .i64 0, .int .i64 0, .int .i64 0, .slice none 0 0, .slice none 0 0, .slice A2 40 c2, .slice none 0 0, .slice A 64 c]] W (Tell (.tuple #[.string (bs []), .int .i64 40]) W) := by
  have h := encode_any fBig _ _ (.slice A2 40 c2) _ (.slice A 64 c) W (by decide) (isV_big h h2) fewBig
  rw [fBig_enc] at h
  exact h
theorem mayBig (W : World) (A A2 : Option Addr) (c c2 : Nat) (h : RdI W A 64 (seenL 64)) (h2 : RdRow W A2 40 (rowsL 40)) : Calls Tryz.prog 7 #[.agg #[.int .u8 4, .int .i64 1, .int .i64 1, .int .i64 2, .int .i64 1, .int .i64 0, .int .i64 0, .int .i64 0, .int .i64 0, .slice none 0 0, .slice none 0 0, .slice A2 40 c2, .slice none 0 0, .slice A 64 c]] W (Tell (.bool true) W) := by
  have h := frameMay_any fBig _ _ (.slice A2 40 c2) _ (.slice A 64 c) W (by decide) (isV_big h h2) fewBig
  rw [fBig_may] at h
  exact h
def rvL (A : Option Addr) (c : Nat) (q : Nat) : List RowV := (List.range q).map fun (j : Nat) => ⟨(6, (j : Int) + 1), 1, A, 64, c⟩
theorem rvL_next (A : Option Addr) (c q : Nat) : rvL A c (q + 1) = rvL A c q ++ [⟨(6, (q : Int) + 1), 1, A, 64, c⟩] := by unfold rvL; rw [List.range_succ, List.map_append]; rfl
theorem rvL_rd {w : World} {row : Option Nat} {A B : Option Addr} {n c d : Nat} (h : SlK w 37 4 row A n c ((rvL B d n).flatMap cRow)) (hm : RdI w B 64 (manyL 64)) : RdRow w A n (rowsL n) := by
  have hr : RdRv w A n (rvL B d n) := ⟨by unfold rvL; simp, h.rd⟩
  refine ⟨rowsL_len n, fun i hi => ?_⟩
  obtain ⟨g, off, e, c0, c1, c2, c3⟩ := hr.at_ hi
  have e1 : (rvL B d n).getD i zrow = ⟨(6, (i : Int) + 1), 1, B, 64, d⟩ := by unfold rvL; simp [List.getD, hi]
  have e2 : (rowsL n).getD i row0 = ⟨(6, (i : Int) + 1), 1, manyL 64⟩ := by unfold rowsL; simp [List.getD, hi]
  rw [e1] at c0 c1 c2 c3
  rw [e2]
  exact ⟨g, off, _, e, c0, c1, c2, c3, B, 64, d, rfl, hm⟩
theorem infoU8 : (Tryz.prog.info? 5).map (fun i => (i.zero, i.size, i.bytes)) = some (some (.int .u8 0), 1, 1) := by kernel_rfl
theorem made_at {j : Nat} (h : j < 8193) : (madeCells (Value.int .u8 0).cells ((8193 : Int).toNat * 1))[j]? = some (.int .u8 0) := by
  have : (madeCells (Value.int .u8 0).cells ((8193 : Int).toNat * 1)).size = 8193 := by simp [madeCells]
  rw [Array.getElem?_eq_getElem (by omega)]
  simp [madeCells, Value.cells, Nat.mod_one]
def z8 : Bs := List.replicate 8193 0
theorem z8_len : z8.length = 8193 := List.length_replicate
theorem z8_at {j : Nat} (hj : j < z8.length) : ((z8[j].toNat : Nat) : Int) = 0 := by
  have e : z8[j] = 0 := List.getElem_replicate ..
  rw [e]; rfl
set_option maxHeartbeats 16000000 in
theorem tooLarge_any (w : World) : Calls Tryz.prog 10 #[] w (Tell (.bool true) w) := by
  obtain ⟨i0, hi, hz0, hz1, hz2⟩ := info_parts info_id
  have HI := Lib.hid hi
  have HZ0 := Lib.hid hz0
  have HZ1 := Lib.hid hz1
  have HZ2 := Lib.hid hz2
  obtain ⟨j0, hj, y0, y1, y2⟩ := info_parts info_row
  have HJ := Lib.hid hj
  have HY0 := Lib.hid y0
  have HY1 := Lib.hid y1
  have HY2 := Lib.hid y2
  clear hi hz0 hz1 hz2 hj y0 y1 y2
  go_enter Tryz.func10, Tryz.ntmps10
  go_wp2_with fail
  refine (of_any 1 _).mono ?_
  rintro e W1 ⟨rfl, hk1⟩
  go_wp2_with fail
  refine (of_any 2 _).mono ?_
  rintro e W2 ⟨rfl, hk2⟩
  have KK := Lib.hid (keep0_trans _ _ _ hk1 hk2)
  clear hk1 hk2
  go_upto_region 2 with (fail)
  have hb := Blk.new W2 39 #[.int .u8 4, .int .i64 1, .int .i64 1, .int .i64 2, .int .i64 1, .int .i64 0, .int .i64 0, .int .i64 0, .int .i64 0, .slice none 0 0, .slice none 0 0, .slice none 0 0, .slice none 0 0, .slice none 0 0]
  have hk := (Keep.refl (fun _ => False) W2).alloc (.cells #[.int .u8 4, .int .i64 1, .int .i64 1, .int .i64 2, .int .i64 1, .int .i64 0, .int .i64 0, .int .i64 0, .int .i64 0, .slice none 0 0, .slice none 0 0, .slice none 0 0, .slice none 0 0, .slice none 0 0] 39)
  generalize W2.alloc (.cells #[.int .u8 4, .int .i64 1, .int .i64 1, .int .i64 2, .int .i64 1, .int .i64 0, .int .i64 0, .int .i64 0, .int .i64 0, .slice none 0 0, .slice none 0 0, .slice none 0 0, .slice none 0 0, .slice none 0 0] 39) = V1 at *
  have KV := Lib.hid (keep0_trans _ _ _ KK.out hk)
  have hB : w.heap.size ≤ W2.heap.size := KK.out.size
  generalize W2.heap.size = B at *
  have HBw := Lib.hid hB
  have BX := Lib.hid hb
  clear hb hk hB KK
  go_wp2_with fail
  go_loopw [2] (fun iv wr => ∃ (q : Nat) (row : Option Nat) (A : Option Addr) (c : Nat), q ≤ 64 ∧ iv = .int .i64 ((q : Int) + 1) ∧ Hid (Keep (fun _ => False) w wr) ∧ Hid (Blk wr B 39 #[.int .u8 4, .int .i64 1, .int .i64 1, .int .i64 2, .int .i64 1, .int .i64 0, .int .i64 0, .int .i64 0, .int .i64 0, .slice none 0 0, .slice none 0 0, .slice none 0 0, .slice none 0 0, .slice A q c]) ∧ Hid (SlK wr 24 2 row A q c ((seenL q).flatMap cID)) ∧ Hid (∀ g, row = some g → w.heap.size ≤ g)) (fun iv _ => 65 - (intOf iv).toNat)
  case atStart => exact ⟨0, none, none, 0, by omega, rfl, KV, BX, Lib.hid (SlK.nil_ _ _ _), Lib.hid (fun g hg => by cases hg)⟩
  case round =>
    obtain ⟨q, row, A, c, hq, rfl, KW, BW, HS, HR⟩ := hrel
    have e1 : IntKind.i64.wrap ((q : Int) + 1 + 1) = (q : Int) + 1 + 1 := IntWalk.i64_in _ (by omega)
    by_cases hlt : q < 64
    · have q1 : (q : Int) + 1 ≤ 64 := by omega
      obtain ⟨W3, hW3⟩ : ∃ V, wr.alloc (.cells #[.int .i64 3, .int .i64 ((q : Int) + 1)] 24) = V := ⟨_, rfl⟩
      have hE : Blk W3 wr.heap.size 24 #[.int .i64 3, .int .i64 ((q : Int) + 1)] := by rw [← hW3]; exact Blk.new _ _ _
      have hk3 : Keep (fun _ => False) wr W3 := by rw [← hW3]; exact (Keep.refl _ wr).alloc _
      have B3 := Lib.hid (BW.out.keep hk3 (fun h => h))
      have S3 := Lib.hid (HS.out.keep hk3 (fun _ _ h => h))
      have K3 := Lib.hid (keep0_trans _ _ _ KW.out hk3)
      have E3 := Lib.hid hE
      have x13 := BW.out.cell 13
      have z13 := B3.out.cell 13
      simp at x13 z13
      clear hE hk3
      go_wp2_with (at_builtin; go_loud (refine wpList_append_slK rfl _ _ _ rfl i0 _ 16 Tryz.underlying29 HI.out HZ0.out HZ1.out HZ2.out rfl (by omega) S3.out rfl rfl (RdK.of_blk E3.out 1 2 rfl) (one_ids' [(3, (q : Int) + 1)]) (by unfold maxLen; omega) (by omega) ?_); intro row2 A2 c2 w3 hs2 hr2
                   obtain ⟨hk4, hw4, hkr⟩ := grew_newL hr2 K3.out HR.out
                   have B4 := Lib.hid (B3.out.keep hkr (S3.out.row_ne B3.out (by decide)))
                   have N4 := Lib.hid (SlK.row_ne hs2 B4.out (by decide))
                   have u13 := B4.out.cell 13
                   have v13 := B4.out.frozen 13
                   simp at u13
                   have S4 := Lib.hid hs2
                   have K4 := Lib.hid hk4
                   have R4 := Lib.hid hw4
                   clear hs2 hr2 hk4 hw4 hkr)
      go_roundw
      case rel => exact ⟨q + 1, row2, A2, c2, by omega, by go_num, Lib.hid (K4.out.new (p := ⟨B, 13, none⟩) HBw.out _), Lib.hid (by have := B4.out.set_ 13 (.slice A2 (q + 1) c2); simpa using this), Lib.hid (by rw [seenL_next, List.flatMap_append]; exact S4.out.keep ((Keep.refl (fun g => g = B) _).setCell (p := ⟨B, 13, none⟩) (fun _ => rfl) _) (fun g hg e => N4.out (by rw [hg, e]))), R4⟩
      case measure => simp [intOf]; omega
    · obtain rfl : q = 64 := by omega
      have q1 : ¬ (((64 : Nat) : Int) + 1 ≤ 64) := by omega
      have HRd := Lib.hid (slk_rdI HS.out)
      have NS := Lib.hid (HS.out.row_ne BW.out (by decide))
      have x0 := BW.out.cell 0
      have x1 := BW.out.cell 1
      have x2 := BW.out.cell 2
      have x3 := BW.out.cell 3
      have x4 := BW.out.cell 4
      have x5 := BW.out.cell 5
      have x6 := BW.out.cell 6
      have x7 := BW.out.cell 7
      have x8 := BW.out.cell 8
      have x9 := BW.out.cell 9
      have x10 := BW.out.cell 10
      have x11 := BW.out.cell 11
      have x12 := BW.out.cell 12
      have x13 := BW.out.cell 13
      simp at x0 x1 x2 x3 x4 x5 x6 x7 x8 x9 x10 x11 x12 x13
      go_wp2_with fail
      refine (back64 _ A c HRd.out).mono ?_
      rintro e W5 ⟨rfl, hk5⟩
      have BW := Lib.hid (BW.out.keep hk5 (fun h => h))
      have HS := Lib.hid (HS.out.keep hk5 (fun _ _ h => h))
      have KW := Lib.hid (keep0_trans _ _ _ KW.out hk5)
      clear hk5 HRd
      clear x0 x1 x2 x3 x4 x5 x6 x7 x8 x9 x10 x11 x12 x13
      have x0 := BW.out.cell 0
      have x1 := BW.out.cell 1
      have x2 := BW.out.cell 2
      have x3 := BW.out.cell 3
      have x4 := BW.out.cell 4
      have x5 := BW.out.cell 5
      have x6 := BW.out.cell 6
      have x7 := BW.out.cell 7
      have x8 := BW.out.cell 8
      have x9 := BW.out.cell 9
      have x10 := BW.out.cell 10
      have x11 := BW.out.cell 11
      have x12 := BW.out.cell 12
      have x13 := BW.out.cell 13
      simp at x0 x1 x2 x3 x4 x5 x6 x7 x8 x9 x10 x11 x12 x13
      go_upto_region 9 with (fail)
      have hb := Blk.new W5 39 #[.int .u8 4, .int .i64 1, .int .i64 1, .int .i64 2, .int .i64 1, .int .i64 0, .int .i64 0, .int .i64 0, .int .i64 0, .slice none 0 0, .slice none 0 0, .slice none 0 0, .slice none 0 0, .slice A 64 c]
      have hk := (Keep.refl (fun _ => False) W5).alloc (.cells #[.int .u8 4, .int .i64 1, .int .i64 1, .int .i64 2, .int .i64 1, .int .i64 0, .int .i64 0, .int .i64 0, .int .i64 0, .slice none 0 0, .slice none 0 0, .slice none 0 0, .slice none 0 0, .slice A 64 c] 39)
      generalize W5.alloc (.cells #[.int .u8 4, .int .i64 1, .int .i64 1, .int .i64 2, .int .i64 1, .int .i64 0, .int .i64 0, .int .i64 0, .int .i64 0, .slice none 0 0, .slice none 0 0, .slice none 0 0, .slice none 0 0, .slice A 64 c] 39) = V6 at *
      have hB6 : w.heap.size ≤ W5.heap.size := KW.out.size
      have hB7 : B < W5.heap.size := Blk.lt BW.out
      have KW := Lib.hid (keep0_trans _ _ _ KW.out hk)
      have BW := Lib.hid (BW.out.keep hk (fun h => h))
      have HS := Lib.hid (HS.out.keep hk (fun _ _ h => h))
      generalize W5.heap.size = B2 at *
      have BG := Lib.hid hb
      have HB2w := Lib.hid hB6
      have HBB := Lib.hid (show B ≠ B2 by omega)
      clear hb hk hB6 hB7
      clear x0 x1 x2 x3 x4 x5 x6 x7 x8 x9 x10 x11 x12 x13
      obtain ⟨W7, hW7⟩ : ∃ V, V6.alloc (.cells #[] 24) = V := ⟨_, rfl⟩
      have hE : Blk W7 V6.heap.size 24 #[] := by rw [← hW7]; exact Blk.new _ _ _
      have hk7 : Keep (fun _ => False) V6 W7 := by rw [← hW7]; exact (Keep.refl _ V6).alloc _
      have B7 := Lib.hid (BW.out.keep hk7 (fun h => h))
      have G7 := Lib.hid (BG.out.keep hk7 (fun h => h))
      have S7 := Lib.hid (HS.out.keep hk7 (fun _ _ h => h))
      have K7 := Lib.hid (keep0_trans _ _ _ KW.out hk7)
      have E7 := Lib.hid (SlK.empty (k := 2) hE)
      have hs7 : w.heap.size ≤ V6.heap.size := KW.out.size
      have R7 := Lib.hid (show ∀ g, some V6.heap.size = some g → w.heap.size ≤ g from fun g e => by injection e with e; omega)
      have x13 := B7.out.cell 13
      simp at x13
      clear hE hk7 hs7
      go_wp2_with (at_builtin; go_loud (refine wpList_append_new rfl _ _ _ rfl i0 _ 16 Tryz.underlying29 HI.out HZ0.out HZ1.out HZ2.out rfl (by omega) E7.out rfl rfl S7.out.rd (one_ids' (seenL 64)) (by unfold maxLen; omega) (by omega) ?_); intro row2 A2 c2 w3 hs2 hk4 hr2
                   have S8 := Lib.hid hs2
                   have hr8 : ∀ g, row2 = some g → w.heap.size ≤ g := by
                     rcases hr2 with rfl | ⟨g, rfl, hg⟩
                     · exact R7.out
                     · intro g2 e; injection e with e; have := K7.out.size; omega
                   have R8 := Lib.hid hr8
                   have hrn : ∀ g, row = some g → ¬ (row2 = some g) := fun g hg e => by
                     have h1 := HS.out.lt g hg
                     have h2 := S7.out.lt g hg
                     rcases hr2 with e2 | ⟨g2, e2, hg2⟩
                     · rw [e] at e2; injection e2 with e2; omega
                     · rw [e] at e2; injection e2 with e2; omega
                   have NO := Lib.hid hrn
                   have B8 := Lib.hid (B7.out.keep hk4 (fun h => h))
                   have G8 := Lib.hid (G7.out.keep hk4 (fun h => h))
                   have O8 := Lib.hid (S7.out.keep hk4 (fun _ _ h => h))
                   have K8 := Lib.hid (keep0_trans _ _ _ K7.out hk4)
                   clear hs2 hk4 hr2 hr8 hrn)
      refine (of_any 4 _).mono ?_
      rintro e W9 ⟨rfl, hk9⟩
      obtain ⟨WA, hWA⟩ : ∃ V, W9.alloc (.cells #[.int .i64 4, .int .i64 1] 24) = V := ⟨_, rfl⟩
      have hE : Blk WA W9.heap.size 24 #[.int .i64 4, .int .i64 1] := by rw [← hWA]; exact Blk.new _ _ _
      have hkA : Keep (fun _ => False) w3 WA := keep0_trans _ _ _ hk9 (by rw [← hWA]; exact (Keep.refl _ W9).alloc _)
      have S9 := Lib.hid (S8.out.keep hkA (fun _ _ h => h))
      have B9 := Lib.hid (B8.out.keep hkA (fun h => h))
      have G9 := Lib.hid (G8.out.keep hkA (fun h => h))
      have O9 := Lib.hid (O8.out.keep hkA (fun _ _ h => h))
      have K9 := Lib.hid (keep0_trans _ _ _ K8.out hkA)
      have E9 := Lib.hid hE
      clear hE hkA hk9 x13
      go_upto_region 10 with (at_builtin; go_loud (refine wpList_append_slK rfl _ _ _ rfl i0 _ 16 Tryz.underlying29 HI.out HZ0.out HZ1.out HZ2.out rfl (by omega) S9.out rfl rfl (RdK.of_blk E9.out 1 2 rfl) (one_ids' [(4, 1)]) (by unfold maxLen; omega) (by omega) ?_); intro row3 A3 c3 w4 hs2 hr2
                              obtain ⟨hk4, hw4, hkr⟩ := grew_newL hr2 K9.out R8.out
                              have BA := Lib.hid (B9.out.keep hkr (S9.out.row_ne B9.out (by decide)))
                              have GA := Lib.hid (G9.out.keep hkr (S9.out.row_ne G9.out (by decide)))
                              have OA := Lib.hid (O9.out.keep hkr NO.out)
                              have N3 := Lib.hid (SlK.row_ne hs2 GA.out (by decide))
                              have u13 := GA.out.cell 13
                              have v13 := GA.out.frozen 13
                              simp at u13
                              have SA := Lib.hid hs2
                              have KA := Lib.hid hk4
                              have RA := Lib.hid hw4
                              clear hs2 hr2 hk4 hw4 hkr)
      have NOB := Lib.hid (OA.out.row_ne GA.out (by decide))
      have KX := Lib.hid (KA.out.new (p := ⟨B2, 13, none⟩) HB2w.out (.slice A3 65 c3))
      have GX := Lib.hid (show Blk (w4.setCell ⟨B2, 13, none⟩ (.slice A3 65 c3)) B2 39 #[.int .u8 4, .int .i64 1, .int .i64 1, .int .i64 2, .int .i64 1, .int .i64 0, .int .i64 0, .int .i64 0, .int .i64 0, .slice none 0 0, .slice none 0 0, .slice none 0 0, .slice none 0 0, .slice A3 65 c3] by have := GA.out.set_ 13 (.slice A3 65 c3); simpa using this)
      have BX := Lib.hid (BA.out.far (p := ⟨B2, 13, none⟩) HBB.out (.slice A3 65 c3))
      have OX := Lib.hid (OA.out.keep ((Keep.refl (fun g => g = B2) _).setCell (p := ⟨B2, 13, none⟩) (fun _ => rfl) (.slice A3 65 c3)) (fun g hg e => NOB.out (by rw [hg, e])))
      have SX := Lib.hid (SA.out.keep ((Keep.refl (fun g => g = B2) _).setCell (p := ⟨B2, 13, none⟩) (fun _ => rfl) (.slice A3 65 c3)) (fun g hg e => N3.out (by rw [hg, e])))
      have SX : Hid (SlK (w4.setCell ⟨B2, 13, none⟩ (.slice A3 65 c3)) 24 2 row3 A3 65 c3 ((seenL 64 ++ [(4, 1)]).flatMap cID)) := Lib.hid (by rw [List.flatMap_append]; exact SX.out)
      clear u13 v13
      generalize w4.setCell ⟨B2, 13, none⟩ (.slice A3 65 c3) = V9 at *
      have x0 := GX.out.cell 0
      have x1 := GX.out.cell 1
      have x2 := GX.out.cell 2
      have x3 := GX.out.cell 3
      have x4 := GX.out.cell 4
      have x5 := GX.out.cell 5
      have x6 := GX.out.cell 6
      have x7 := GX.out.cell 7
      have x8 := GX.out.cell 8
      have x9 := GX.out.cell 9
      have x10 := GX.out.cell 10
      have x11 := GX.out.cell 11
      have x12 := GX.out.cell 12
      have x13 := GX.out.cell 13
      simp at x0 x1 x2 x3 x4 x5 x6 x7 x8 x9 x10 x11 x12 x13
      go_wp2_with fail
      refine (enc65 _ A3 c3 (slk_rdI SX.out)).mono ?_
      rintro e Wb ⟨rfl, hkb⟩
      have BX := Lib.hid (BX.out.keep hkb (fun h => h))
      have GX := Lib.hid (GX.out.keep hkb (fun h => h))
      have OX := Lib.hid (OX.out.keep hkb (fun _ _ h => h))
      have SX := Lib.hid (SX.out.keep hkb (fun _ _ h => h))
      have KX := Lib.hid (keep0_trans _ _ _ KX.out hkb)
      have NOB := Lib.hid (OX.out.row_ne BX.out (by decide))
      have NSB := Lib.hid (SX.out.row_ne BX.out (by decide))
      clear hkb
      clear x0 x1 x2 x3 x4 x5 x6 x7 x8 x9 x10 x11 x12 x13
      clear B7 S7 B8 O8 G8 S8 B9 G9 O9 S9 K9 BA GA OA SA KA K7 K8 G7 E7 E9 BG BW HS KW
      go_wp2_with fail
      go_loopw [6, 7] (fun sv iv wr => ∃ (q : Nat) (row : Option Nat) (A : Option Addr) (c : Nat), q ≤ 64 ∧ sv = .slice A q c ∧ iv = .int .i64 ((q : Int) + 1) ∧ Hid (Keep (fun _ => False) Wb wr) ∧ Hid (SlK wr 24 2 row A q c ((manyL q).flatMap cID)) ∧ Hid (∀ g, row = some g → Wb.heap.size ≤ g)) (fun _ iv _ => 65 - (intOf iv).toNat)
      case atStart => exact ⟨0, none, none, 0, by omega, rfl, rfl, Lib.hid (Keep.refl _ _), Lib.hid (SlK.nil_ _ _ _), Lib.hid (fun g hg => by cases hg)⟩
      case round =>
        obtain ⟨q, rowM, AM, cM, hq, rfl, rfl, KM, HM, RM⟩ := hrel
        have e1 : IntKind.i64.wrap ((q : Int) + 1 + 1) = (q : Int) + 1 + 1 := IntWalk.i64_in _ (by omega)
        have e2 : IntKind.i64.wrap (1048512 + ((q : Int) + 1)) = 1048512 + ((q : Int) + 1) := IntWalk.i64_in _ (by omega)
        by_cases hlt : q < 64
        · have q1 : (q : Int) + 1 ≤ 64 := by omega
          obtain ⟨W3, hW3⟩ : ∃ V, wr.alloc (.cells #[.int .i64 5, .int .i64 (1048512 + ((q : Int) + 1))] 24) = V := ⟨_, rfl⟩
          have hE : Blk W3 wr.heap.size 24 #[.int .i64 5, .int .i64 (1048512 + ((q : Int) + 1))] := by rw [← hW3]; exact Blk.new _ _ _
          have hk3 : Keep (fun _ => False) wr W3 := by rw [← hW3]; exact (Keep.refl _ wr).alloc _
          have S3 := Lib.hid (HM.out.keep hk3 (fun _ _ h => h))
          have K3 := Lib.hid (keep0_trans _ _ _ KM.out hk3)
          have E3 := Lib.hid hE
          clear hE hk3
          go_wp2_with (at_builtin; go_loud (refine wpList_append_slK rfl _ _ _ rfl i0 _ 16 Tryz.underlying29 HI.out HZ0.out HZ1.out HZ2.out rfl (by omega) S3.out rfl rfl (RdK.of_blk E3.out 1 2 rfl) (one_ids' [(5, 1048512 + ((q : Int) + 1))]) (by unfold maxLen; omega) (by omega) ?_); intro row4 A4 c4 w5 hs2 hr2
                       obtain ⟨hk4, hw4, hkr⟩ := grew_newL hr2 K3.out RM.out
                       have S4 := Lib.hid hs2
                       have K4 := Lib.hid hk4
                       have R4 := Lib.hid hw4
                       clear hs2 hr2 hk4 hw4 hkr)
          go_roundw
          case rel => exact ⟨q + 1, row4, A4, c4, by omega, by go_num, by go_num, K4, Lib.hid (by rw [manyL_next, List.flatMap_append]; exact S4.out), R4⟩
          case measure => simp [intOf]; omega
        · obtain rfl : q = 64 := by omega
          have q1 : ¬ (((64 : Nat) : Int) + 1 ≤ 64) := by omega
          have BX := Lib.hid (BX.out.keep KM.out (fun h => h))
          have GX := Lib.hid (GX.out.keep KM.out (fun h => h))
          have OX := Lib.hid (OX.out.keep KM.out (fun _ _ h => h))
          have SX := Lib.hid (SX.out.keep KM.out (fun _ _ h => h))
          have KX := Lib.hid (keep0_trans _ _ _ KX.out KM.out)
          have NMB := Lib.hid (HM.out.row_ne BX.out (by decide))
          clear KM RM
          go_wp2_with fail
          generalize wr = Wc at *
          go_loopw [8] (fun iv wx => ∃ (q : Nat) (row4 : Option Nat) (A4 : Option Addr) (c4 : Nat), q ≤ 40 ∧ iv = .int .i64 ((q : Int) + 1) ∧ Hid (Keep (fun g => g = B) Wc wx) ∧ Hid (Blk wx B 39 #[.int .u8 4, .int .i64 1, .int .i64 1, .int .i64 2, .int .i64 1, .int .i64 0, .int .i64 0, .int .i64 0, .int .i64 0, .slice none 0 0, .slice none 0 0, .slice A4 q c4, .slice none 0 0, .slice A 64 c]) ∧ Hid (SlK wx 37 4 row4 A4 q c4 ((rvL AM cM q).flatMap cRow)) ∧ Hid (∀ g, row4 = some g → Wc.heap.size ≤ g)) (fun iv _ => 41 - (intOf iv).toNat)
          case atStart => exact ⟨0, none, none, 0, by omega, rfl, Lib.hid (Keep.refl _ _), BX, Lib.hid (SlK.nil_ _ _ _), Lib.hid (fun g hg => by cases hg)⟩
          case round =>
            obtain ⟨q, rowR, AR, cR, hq, rfl, KR, BR, HQ, RR⟩ := hrel
            have e1 : IntKind.i64.wrap ((q : Int) + 1 + 1) = (q : Int) + 1 + 1 := IntWalk.i64_in _ (by omega)
            by_cases hlt : q < 40
            · have q1 : (q : Int) + 1 ≤ 40 := by omega
              obtain ⟨W3, hW3⟩ : ∃ V, wr.alloc (.cells #[.int .i64 6, .int .i64 ((q : Int) + 1), .int .i64 1, .slice AM 64 cM] 37) = V := ⟨_, rfl⟩
              have hE : Blk W3 wr.heap.size 37 #[.int .i64 6, .int .i64 ((q : Int) + 1), .int .i64 1, .slice AM 64 cM] := by rw [← hW3]; exact Blk.new _ _ _
              have hk3 : Keep (fun _ => False) wr W3 := by rw [← hW3]; exact (Keep.refl _ wr).alloc _
              have S3 := Lib.hid (HQ.out.keep hk3 (fun _ _ h => h))
              have K3 := Lib.hid (KR.out.trans (hk3.mono fun _ _ h => h.elim))
              have B3 := Lib.hid (BR.out.keep hk3 (fun h => h))
              have E3 := Lib.hid hE
              have x11 := BR.out.cell 11
              have z11 := B3.out.cell 11
              simp at x11 z11
              clear hE hk3
              go_wp2_with (at_builtin; go_loud (refine wpList_append_slK rfl _ _ _ rfl j0 _ 48 Tryz.underlying31 HJ.out HY0.out HY1.out HY2.out rfl (by omega) S3.out rfl rfl (RdK.of_blk E3.out 1 4 rfl) (one_row [⟨(6, (q : Int) + 1), 1, AM, 64, cM⟩]) (by unfold maxLen; omega) (by omega) ?_); intro row5 A5 c5 w6 hs2 hr2
                           obtain ⟨hk4, hw4, hkr⟩ := grew_rowS hr2 _ K3.out RR.out
                           have B4 := Lib.hid (B3.out.keep hkr (S3.out.row_ne B3.out (by decide)))
                           have N4 := Lib.hid (SlK.row_ne hs2 B4.out (by decide))
                           have u11 := B4.out.cell 11
                           have v11 := B4.out.frozen 11
                           simp at u11
                           have S4 := Lib.hid hs2
                           have K4 := Lib.hid hk4
                           have R4 := Lib.hid hw4
                           clear hs2 hr2 hk4 hw4 hkr)
              go_roundw
              case rel => exact ⟨q + 1, row5, A5, c5, by omega, by go_num, Lib.hid (K4.out.setCell (p := ⟨B, 11, none⟩) (fun _ => rfl) _), Lib.hid (by have := B4.out.set_ 11 (.slice A5 (q + 1) c5); simpa using this), Lib.hid (by rw [rvL_next, List.flatMap_append]; exact S4.out.keep ((Keep.refl (fun g => g = B) _).setCell (p := ⟨B, 11, none⟩) (fun _ => rfl) _) (fun g hg e => N4.out (by rw [hg, e]))), R4⟩
              case measure => simp [intOf]; omega
            · obtain rfl : q = 40 := by omega
              have q1 : ¬ (((40 : Nat) : Int) + 1 ≤ 40) := by omega
              have GX := Lib.hid (GX.out.keep KR.out (fun h => HBB.out h.symm))
              have OX := Lib.hid (OX.out.keep KR.out (fun g hg e => NOB.out (by rw [hg, e])))
              have SX := Lib.hid (SX.out.keep KR.out (fun g hg e => NSB.out (by rw [hg, e])))
              have HM := Lib.hid (HM.out.keep KR.out (fun g hg e => NMB.out (by rw [hg, e])))
              have KX := Lib.hid (KX.out.trans (KR.out.mono fun g _ e => .inr (by rw [e]; exact HBw.out)))
              have HB3 := Lib.hid (rvL_rd HQ.out (slk_rdI HM.out))
              have HB4 := Lib.hid (slk_rdI OX.out)
              have HB5 := Lib.hid (slk_rdI SX.out)
              clear HM OX SX HQ KR RR
              have x0 := BR.out.cell 0
              have x1 := BR.out.cell 1
              have x2 := BR.out.cell 2
              have x3 := BR.out.cell 3
              have x4 := BR.out.cell 4
              have x5 := BR.out.cell 5
              have x6 := BR.out.cell 6
              have x7 := BR.out.cell 7
              have x8 := BR.out.cell 8
              have x9 := BR.out.cell 9
              have x10 := BR.out.cell 10
              have x11 := BR.out.cell 11
              have x12 := BR.out.cell 12
              have x13 := BR.out.cell 13
              simp at x0 x1 x2 x3 x4 x5 x6 x7 x8 x9 x10 x11 x12 x13
              go_wp2_with fail
              refine (encBig _ A AR c cR HB4.out HB3.out).mono ?_
              rintro e Wd ⟨rfl, hkd⟩
              have BR := Lib.hid (BR.out.keep hkd (fun h => h))
              have GX := Lib.hid (GX.out.keep hkd (fun h => h))
              have HB3 := Lib.hid (HB3.out.keep0 hkd)
              have HB4 := Lib.hid (HB4.out.keep0 hkd)
              have HB5 := Lib.hid (HB5.out.keep0 hkd)
              have KX := Lib.hid (keep0_trans _ _ _ KX.out hkd)
              clear hkd
              obtain ⟨k0, hk, hk0, hk1, hk2⟩ := info_parts infoU8
              have hmk := run_makeSlice (P := Tryz.prog) (w := Wd) 69 5 k0 _ Tryz.underlying69 hk hk0 .i64 .i64 8193 8193 (by decide) (by decide) (by rw [hk1]; decide) (by rw [hk2]; decide) (by decide)
              rw [hk1] at hmk
              have e8 : (8193 : Int).toNat = 8193 := rfl
              obtain ⟨cs, hcs⟩ : ∃ cs, madeCells (Value.int .u8 0).cells ((8193 : Int).toNat * 1) = cs := ⟨_, rfl⟩
              rw [hcs, e8] at hmk
              have hbz := Blk.new Wd 5 cs
              have hkz := (Keep.refl (fun _ => False) Wd).alloc (.cells cs 5)
              have hcv : (convert 69 9 (.slice (some ⟨Wd.heap.size, 0, none⟩) 8193 8193)).run Tryz.prog (Wd.alloc (.cells cs 5)) = .ok (.string (bs z8)) (Wd.alloc (.cells cs 5)) := by
                have h := run_convert_bytes_back (P := Tryz.prog) (Wd.alloc (.cells cs 5)) 69 9 5 ⟨Wd.heap.size, 0, none⟩ 8193 z8 Tryz.underlying69 Tryz.underlying5 Tryz.underlying9 (fun j hj => by
                  rw [Addr.add_lit, hbz.cell, Nat.zero_add, ← hcs, made_at (by rw [z8_len] at hj; exact hj), z8_at hj])
                rw [z8_len] at h
                exact h
              clear hcs e8 hk hk0 hk1 hk2 hbz
              generalize Wd.alloc (.cells cs 5) = We at *
              have BR := Lib.hid (BR.out.keep hkz (fun h => h))
              have GX := Lib.hid (GX.out.keep hkz (fun h => h))
              have HB3 := Lib.hid (HB3.out.keep0 hkz)
              have HB4 := Lib.hid (HB4.out.keep0 hkz)
              have HB5 := Lib.hid (HB5.out.keep0 hkz)
              have KX := Lib.hid (keep0_trans _ _ _ KX.out hkz)
              clear hkz
              clear x0 x1 x2 x3 x4 x5 x6 x7 x8 x9 x10 x11 x12 x13
              go_wp2_with fail
              refine (dec_long z8 (by rw [z8_len]; decide) (by rw [z8_len]; decide) _).mono ?_
              rintro e Wf ⟨rfl, hkf⟩
              have hkf := keep0_trans _ _ _ hkf ((Keep.refl (fun _ => False) Wf).alloc (.cells #[.int .u8 0, .int .i64 0, .int .i64 0, .int .i64 0, .int .i64 0, .int .i64 0, .int .i64 0, .int .i64 0, .int .i64 0, .slice none 0 0, .slice none 0 0, .slice none 0 0, .slice none 0 0, .slice none 0 0] 39))
              have BR := Lib.hid (BR.out.keep hkf (fun h => h))
              have GX := Lib.hid (GX.out.keep hkf (fun h => h))
              have HB3 := Lib.hid (HB3.out.keep0 hkf)
              have HB4 := Lib.hid (HB4.out.keep0 hkf)
              have HB5 := Lib.hid (HB5.out.keep0 hkf)
              have KX := Lib.hid (keep0_trans _ _ _ KX.out hkf)
              clear hkf
              go_upto_region 22 with (fail)
              generalize Wf.alloc (.cells #[.int .u8 0, .int .i64 0, .int .i64 0, .int .i64 0, .int .i64 0, .int .i64 0, .int .i64 0, .int .i64 0, .int .i64 0, .slice none 0 0, .slice none 0 0, .slice none 0 0, .slice none 0 0, .slice none 0 0] 39) = Wg at *
              have x0 := GX.out.cell 0
              have x1 := GX.out.cell 1
              have x2 := GX.out.cell 2
              have x3 := GX.out.cell 3
              have x4 := GX.out.cell 4
              have x5 := GX.out.cell 5
              have x6 := GX.out.cell 6
              have x7 := GX.out.cell 7
              have x8 := GX.out.cell 8
              have x9 := GX.out.cell 9
              have x10 := GX.out.cell 10
              have x11 := GX.out.cell 11
              have x12 := GX.out.cell 12
              have x13 := GX.out.cell 13
              simp at x0 x1 x2 x3 x4 x5 x6 x7 x8 x9 x10 x11 x12 x13
              go_wp2_with fail
              refine (may65 _ A3 c3 HB5.out).mono ?_
              rintro e Wh ⟨rfl, hkh⟩
              have BR := Lib.hid (BR.out.keep hkh (fun h => h))
              have HB3 := Lib.hid (HB3.out.keep0 hkh)
              have HB4 := Lib.hid (HB4.out.keep0 hkh)
              have KX := Lib.hid (keep0_trans _ _ _ KX.out hkh)
              clear x0 x1 x2 x3 x4 x5 x6 x7 x8 x9 x10 x11 x12 x13
              have x0 := BR.out.cell 0
              have x1 := BR.out.cell 1
              have x2 := BR.out.cell 2
              have x3 := BR.out.cell 3
              have x4 := BR.out.cell 4
              have x5 := BR.out.cell 5
              have x6 := BR.out.cell 6
              have x7 := BR.out.cell 7
              have x8 := BR.out.cell 8
              have x9 := BR.out.cell 9
              have x10 := BR.out.cell 10
              have x11 := BR.out.cell 11
              have x12 := BR.out.cell 12
              have x13 := BR.out.cell 13
              simp at x0 x1 x2 x3 x4 x5 x6 x7 x8 x9 x10 x11 x12 x13
              clear hkh
              go_wp2_with fail
              refine (mayBig _ A AR c cR HB4.out HB3.out).mono ?_
              rintro e Wi ⟨rfl, hki⟩
              have KX := Lib.hid (keep0_trans _ _ _ KX.out hki)
              clear hki
              go_wp2
              go_ret
              exact ⟨rfl, KX.out⟩
end Go.Proofs.YtgoldgamjogadaaGreat

namespace Go.Proofs.YtgoldgamjogadaaGreat
open Go.RowKit Go
set_option maxRecDepth 100000

def bFr (k : Nat) : Bool := decide (k < 11)
def bTo (k : Nat) : Bool := decide (k < 8 ∨ k = 11 ∨ k = 12)
def bN (k : Nat) : Bool := decide (k = 4 ∨ k = 5 ∨ k = 8 ∨ k = 9 ∨ k = 11 ∨ k = 12)
def bTk (k : Nat) : Bool := decide (k = 9 ∨ k = 10 ∨ k = 11)
def bAb (k : Nat) : Bool := decide (k = 6 ∨ k = 7)
def nVw (k : Nat) : Int := if k = 1 ∨ k = 3 then 2 else if k = 2 then 1 else 0
def pFr (b : Bool) : ID := if b then (4, 1) else (0, 0)
def pTo (b : Bool) : ID := if b then (5, 0) else (0, 0)
def baseF (k : Nat) : FrM := ⟨k + 1, pFr (bFr k), pTo (bTo k), 0, 0, pFr (bAb k), emptyVw⟩
def vM : VwM := ⟨[], [], [], [((1, 1), 1099511627776)], [(3, 1)]⟩
def allM : VwM := ⟨[⟨1, 1, 6, 7⟩, ⟨2, 5, 1, 0⟩], [(2, 4), (9, 1048576)], [⟨(1, 1), 3, [(2, 5)]⟩, ⟨(2, 5), 1, []⟩], [((1, 1), 1099511627776)], [(3, 1)]⟩
def sM : VwM := ⟨[], [], [], [], [(2, 1), (1, 1)]⟩
def withF (f : FrM) (i : Nat) : FrM :=
  match i with
  | 1 => { f with n := 1099511627776 }
  | 2 => { f with tok := 9 }
  | 3 => { f with frm := (12, 1) }
  | 4 => { f with to := (12, 1) }
  | 5 => { f with abt := (12, 1) }
  | 6 => { f with view := vM }
  | 7 => { f with view := allM }
  | 8 => { f with n := 1099511627777 }
  | 9 => { f with tok := -1 }
  | 10 => { f with view := sM }
  | _ => f
def isB (k i : Nat) : Bool := [true, bN k, bTk k, bFr k, bTo k, bAb k, decide (0 < nVw k), decide (1 < nVw k), false, false, false].getD i false
theorem may_vM : mayV vM = true := by
  unfold mayV
  show (mayT [] [] && mayR [] && sameRs (goneM [] []) [] && mayCk _ && risB _ && _) = true
  rw [show goneM [] [] = ([] : List RowM) from rfl, sameRs_self]
  decide +kernel
theorem gone_allM : goneM allM.rows allM.fl = allM.rows := by decide +kernel
theorem may_allM : mayV allM = true := by
  unfold mayV
  rw [gone_allM, sameRs_self]
  decide +kernel
theorem may_sM : mayV sM = false := by
  unfold mayV
  rw [show risB sM.seen = false by decide +kernel, Bool.and_false, Bool.false_and]
theorem may_empty : mayV emptyVw = true := by
  unfold mayV
  show (mayT [] [] && mayR [] && sameRs (goneM [] []) [] && mayCk _ && risB _ && _) = true
  rw [show goneM [] [] = ([] : List RowM) from rfl, sameRs_self]
  decide +kernel
/-- viewOK, the view's own may be known -/
def viewOKb (n : Int) (v : VwM) (b : Bool) : Bool := if nam n 32 then b else if nam n 64 then b && decide (v.mem.length + v.fl.length + v.rows.length + 0 + 0 = 0) else emptyV v
def mayFb (f : FrM) (b : Bool) : Bool := !decide (namesM f.kind = 0) && idOK (namesM f.kind) 1 f.frm && idOK (namesM f.kind) 16 f.abt && numOK (namesM f.kind) 4 f.n && numOK (namesM f.kind) 8 f.tok && toOK (namesM f.kind) f.to && viewOKb (namesM f.kind) f.view b
theorem mayF_b {f : FrM} {b : Bool} (h : mayV f.view = b) : mayF f = mayFb f b := by subst h; rfl
def bVw (i : Nat) : Bool := !decide (i = 10)
theorem mayV_with (k i : Nat) (hi : i < 11) : mayV (withF (baseF k) i).view = bVw i := by
  rcases (by omega : i = 0 ∨ i = 1 ∨ i = 2 ∨ i = 3 ∨ i = 4 ∨ i = 5 ∨ i = 6 ∨ i = 7 ∨ i = 8 ∨ i = 9 ∨ i = 10) with rfl | rfl | rfl | rfl | rfl | rfl | rfl | rfl | rfl | rfl | rfl
  · exact may_empty
  · exact may_empty
  · exact may_empty
  · exact may_empty
  · exact may_empty
  · exact may_empty
  · exact may_vM
  · exact may_allM
  · exact may_empty
  · exact may_empty
  · exact may_sM
theorem may_tab : ∀ k, k < 13 → ∀ i, i < 11 → mayFb (withF (baseF k) i) (bVw i) = isB k i := by decide +kernel
theorem body_tab : ∀ k, k < 13 → ∀ i, i < 11 → isB k i = true → (bodyM (withF (baseF k) i)).2 = 0 ∧ (bodyM (withF (baseF k) i)).1.length + 4 ≤ 8192 := by decide +kernel
theorem with_may {k i : Nat} (hk : k < 13) (hi : i < 11) : mayF (withF (baseF k) i) = isB k i := by rw [mayF_b (mayV_with k i hi), may_tab k hk i hi]
theorem with_enc {k i : Nat} (hk : k < 13) (hi : i < 11) : (encM (withF (baseF k) i)).2 = if isB k i then 0 else 4 := by
  unfold encM
  rw [with_may hk hi]
  cases hb : isB k i
  · rfl
  · obtain ⟨h1, h2⟩ := body_tab k hk i hi hb
    rw [if_pos rfl, if_pos h1, if_neg (by rw [List.length_append, le4_len]; omega)]
    rfl
theorem with_few (k i : Nat) (hi : i < 11) : Few (withF (baseF k) i).view := by
  rcases (by omega : i = 0 ∨ i = 1 ∨ i = 2 ∨ i = 3 ∨ i = 4 ∨ i = 5 ∨ i = 6 ∨ i = 7 ∨ i = 8 ∨ i = 9 ∨ i = 10) with rfl | rfl | rfl | rfl | rfl | rfl | rfl | rfl | rfl | rfl | rfl
  all_goals first | exact few_empty | (refine ⟨?_, ?_, ?_, ?_, ?_, ?_⟩ <;> simp [withF, vM, allM, sM])
theorem with_kind (k i : Nat) (hi : i < 11) : (withF (baseF k) i).kind = k + 1 := by
  rcases (by omega : i = 0 ∨ i = 1 ∨ i = 2 ∨ i = 3 ∨ i = 4 ∨ i = 5 ∨ i = 6 ∨ i = 7 ∨ i = 8 ∨ i = 9 ∨ i = 10) with rfl | rfl | rfl | rfl | rfl | rfl | rfl | rfl | rfl | rfl | rfl <;> rfl
end Go.Proofs.YtgoldgamjogadaaGreat

namespace Go.Proofs.YtgoldgamjogadaaGreat
open Go.RowKit Go
section
variable {P : Program}
theorem run_loadVar_at (w : World) (g off : Nat) (ty : TypeId) (cs : List Value) (d : TypeDesc) (hc : ∀ j v, cs[j]? = some v → w.cell? ⟨g, off + j, none⟩ = some v)
    (hu : P.underlying ty = some d) (hd : (match d with | .struct _ | .array _ _ => true | _ => false) = true) (hi : (P.info? ty).map (·.size) = some cs.length) :
    (loadVar ty ⟨g, off, none⟩).run P w = .ok (.agg cs.toArray) w := by
  have hl : (loadCells ⟨g, off, none⟩ cs.length).run P w = .ok cs.toArray w :=
    run_loadCells_list (P := P) w ⟨g, off, none⟩ cs (fun j v hv => by
      rw [Addr.add_lit]
      exact hc j v hv)
  cases hq : P.info? ty with
  | none => simp [hq] at hi
  | some i =>
    have hs : i.size = cs.length := by simpa [hq] using hi
    have hagg : (isAgg ty).run P w = .ok true w := by
      unfold isAgg
      rw [Sem.run_bind, run_underlying hu w]
      cases d <;> simp_all
    simp [loadVar, Sem.run_bind, hagg, sizeOf, typeInfo, hq, hs, hl]
theorem wp_load_at {o : Oper} {a : Act} {w : World} {K : Act → World → Prop} {Q : Exit → Act → World → Prop} (ty : TypeId) (x : Operand) (ho : o.op = .load ty x) (g off : Nat) (hx : a.eval x = .pointer (some ⟨g, off, none⟩)) (cs : List Value) (d : TypeDesc)
    (hc : ∀ j v, cs[j]? = some v → w.cell? ⟨g, off + j, none⟩ = some v) (hu : P.underlying ty = some d) (hd : (match d with | .struct _ | .array _ _ => true | _ => false) = true) (hi : (P.info? ty).map (·.size) = some cs.length)
    (h : K (a.put o.dst (.agg cs.toArray)) w) : o.wp P a w K Q := by
  unfold Oper.wp execOp
  simp only [ho, hx, Instr.loadAt, Instr.sureAddr, Sem.run_bind, Sem.run_pure, Result.andThen_ok, run_loadVar_at w g off ty cs d hc hu hd hi]
  exact h
theorem wpList_load_at {ops : Array Oper} {rest : List Oper} {o : Oper} {a : Act} {w : World} {Q : Exit → Act → World → Prop} (hgd : o.guard = none) (ty : TypeId) (x : Operand) (ho : o.op = .load ty x) (g off : Nat) (hx : a.eval x = .pointer (some ⟨g, off, none⟩)) (cs : List Value) (d : TypeDesc)
    (hc : ∀ j v, cs[j]? = some v → w.cell? ⟨g, off + j, none⟩ = some v) (hu : P.underlying ty = some d) (hd : (match d with | .struct _ | .array _ _ => true | _ => false) = true) (hi : (P.info? ty).map (·.size) = some cs.length)
    (h : wpList P ops Q rest (a.put o.dst (.agg cs.toArray)) w) : wpList P ops Q (o :: rest) a w :=
  wpList_plain hgd fun _ hK => wp_load_at ty x ho g off hx cs d hc hu hd hi (hK _ _ h)
/-- a struct literal, its cells known by a fact of their own -/
theorem wp_build_is {o : Oper} {a : Act} {w : World} {K : Act → World → Prop} {Q : Exit → Act → World → Prop} (t : TypeId) (parts : Array (Nat × Operand)) (ho : o.op = .build t parts) {l : List (Nat × Value)} {cells : Array Value}
    (hl : (parts.map fun (i, x) => (i, a.eval x)).toList = l) (hb : P.built t l = some cells) (h : K (a.put o.dst (.agg cells)) w) : o.wp P a w K Q := by
  unfold Oper.wp execOp
  simp only [ho, Sem.run_bind, run_build w t _ cells (hl ▸ hb), Result.andThen_ok]
  exact h
/-- a slice literal of structs, every place written -/
theorem wp_buildRows {o : Oper} {a : Act} {w : World} {K : Act → World → Prop} {Q : Exit → Act → World → Prop} (t e : TypeId) (len : Nat) (parts : Array (Nat × Operand)) (ho : o.op = .buildSlice t len parts) (ie : TypeInfo) (z : Value) {s : Nat}
    (hu : P.underlying t = some (.slice e)) (hie : P.info? e = some ie) (hz : ie.zero = some z) (hs : ie.size = s) (h0 : 0 < s) (h24 : len * s ≤ 2 ^ 24) (hl0 : 0 < len) {vs : List Value} (hn : vs.length = len) (h1 : ∀ v ∈ vs, v.cells.size = s)
    (hl : (parts.map fun (i, x) => (i, a.eval x)).toList = (vs.zipIdx 0).map fun x => (x.2, x.1)) {cells : Array Value} (hc : (vs.flatMap fun v => v.cells.toList) = cells.toList)
    (h : K (a.put o.dst (.slice (some ⟨w.heap.size, 0, none⟩) len len)) (w.alloc (.cells cells e))) : o.wp P a w K Q := by
  subst hs
  have hp : 0 < len * ie.size := Nat.mul_pos hl0 h0
  refine wp_buildSlice t e len parts ho cells ie z hu hie hz (by omega) (by omega) ?_ h
  rw [hl]
  have := Great.fill_whole h0 vs ((Array.range (len * ie.size)).map (z.cells[· % z.cells.size]!)) h1 (by simp [hn])
  rw [this, hc]
/-- behind a guard -/
theorem wpList_load_rowW {ops : Array Oper} {rest : List Oper} {o : Oper} {a : Act} {w : World} {Q : Exit → Act → World → Prop} (hw : Region.wanted o (yielded ops a.tmps) = true) (ty : TypeId) (x : Operand) (ho : o.op = .load ty x)
    (g : Nat) (hx : a.eval x = .pointer (some ⟨g, 0, none⟩)) (t : TypeId) (cs : Array Value) (fr : Nat × Nat) (d : TypeDesc) (hg : w.heap[g]? = some (.cells cs t fr))
    (hu : P.underlying ty = some d) (hd : (match d with | .struct _ | .array _ _ => true | _ => false) = true) (hi : (P.info? ty).map (·.size) = some cs.size)
    (h : wpList P ops Q rest (a.put o.dst (.agg cs)) w) : wpList P ops Q (o :: rest) a w := by
  unfold wpList
  rw [if_pos hw]
  exact .inl (wp_load_row ty x ho g hx t cs fr d hg hu hd hi h)
/-- the cells of a block from off on -/
theorem cells_at {w : World} {g : Nat} {t : TypeId} {A : Array Value} (h : Blk w g t A) (off : Nat) (cs : List Value) (hs : ∀ j v, cs[j]? = some v → A[off + j]? = some v) : ∀ j v, cs[j]? = some v → w.cell? ⟨g, off + j, none⟩ = some v := fun j v hj => by
  rw [h.cell]; exact hs j v hj
theorem alloc_setRow (w : World) (z cs : Array Value) (t : TypeId) : (w.alloc (.cells z t)).setRow w.heap.size cs = w.alloc (.cells cs t) := by
  unfold World.setRow World.alloc
  congr 1
  apply Array.ext
  · simp
  · intro i h1 h2
    simp only [Array.getElem_modify, Array.getElem_push]
    split
    · next e => subst e; simp
    · next e =>
      have hi : i < w.heap.size := by simp at h2; omega
      simp [hi]
end
end Go.Proofs.YtgoldgamjogadaaGreat
