/-
  ring.around: its iterator gives the ring behind somebody; ring.Order.
-/
import Derived.Test.YtafolmgbmobfbaaRinP
import Derived.Test.YtafolmgbmobfbaaValues
import Derived.Test.YtafolmgbmobfbaaSetW
import Derived.Test.YtafolmgbmobfbaaEq
namespace Go.Proofs.Ytafolmgbmobfbaa
open Go.RowKit

/-- what the first r rounds of the outer loop, and k elements of the next one, have given -/
def ordK (ids : List ID) (me : ID) (r k : Nat) : List ID :=
  match r with
  | 0 => (ids.take k).filter (fun x => !decide (x = me) && ltID me x)
  | 1 => ids.filter (fun x => !decide (x = me) && ltID me x) ++ (ids.take k).filter (fun x => !decide (x = me) && !ltID me x)
  | _ => ordM ids me
theorem ordK_next {ids : List ID} {me : ID} {r k : Nat} (hk : k < ids.length) (hr : r < 2) : ordK ids me r (k + 1) = ordK ids me r k ++ (if ¬ ids.getD k (0, 0) = me ∧ ltID me (ids.getD k (0, 0)) = decide (r = 0) then [ids.getD k (0, 0)] else []) := by
  have e : ids.getD k (0, 0) = ids[k] := by simp [List.getD, hk]
  rw [e]
  rcases (by omega : r = 0 ∨ r = 1) with rfl | rfl
  · simp only [ordK, List.take_succ_eq_append_getElem hk, List.filter_append, List.filter_cons, List.filter_nil]
    congr 1
    by_cases h : ids[k] = me <;> cases ltID me ids[k] <;> simp [h]
  · simp only [ordK, List.take_succ_eq_append_getElem hk, List.filter_append, List.filter_cons, List.filter_nil, List.append_assoc]
    congr 2
    by_cases h : ids[k] = me <;> cases ltID me ids[k] <;> simp [h]
theorem ordK_turn (ids : List ID) (me : ID) (r : Nat) (hr : r < 2) : ordK ids me r ids.length = ordK ids me (r + 1) 0 := by
  rcases (by omega : r = 0 ∨ r = 1) with rfl | rfl
  · simp [ordK]
  · simp [ordK, ordM]
theorem ordK_len (ids : List ID) (me : ID) (r k : Nat) : (ordK ids me r k).length ≤ ids.length := by
  have hM := ordM_len ids me
  unfold ordM at hM
  rw [List.length_append] at hM
  match r with
  | 0 => exact Nat.le_trans (List.length_filter_le _ _) (by rw [List.length_take]; omega)
  | 1 =>
    simp only [ordK, List.length_append]
    have : ((ids.take k).filter (fun x => !decide (x = me) && !ltID me x)).length ≤ (ids.filter (fun x => !decide (x = me) && !ltID me x)).length := ((List.take_sublist k ids).filter _).length_le
    omega
  | r + 2 => exact ordM_len ids me

theorem grown_of_keep {w w' : World} (row : Option Nat) (h : Keep (fun _ => False) w w') : w.grownBy w' row := ⟨h.os, h.tape, h.output, h.size, fun k hk _ => h.block k hk (fun h => h)⟩
/-- The iterator gives, whatever is done with each element, as long as R holds; it writes new blocks alone, and of these at most the one that is made first is written again. -/
def GivesR (n : Nat) (P : Program) (g : Nat) (lb : Array Value) {α : Type} (enc : α → Value) (S : List α → Prop) (N : Nat) (R : World → Prop) : Prop :=
  ∀ (l : Nat) (J : List α → World → Prop) (W : World), R W → (∀ s W1 W2, J s W1 → W.heap.size ≤ W1.heap.size → W1.grownBy W2 (some W.heap.size) → J s W2) →
    (∀ pre x W1, J pre W1 → R W1 → W.heap.size < W1.heap.size → pre.length < N → YieldAt Fence.wide (n - 1) P l #[enc x] W1 fun e W' =>
      e = .returned (.bool true) ∧ J (pre ++ [x]) W' ∧ W1.heap.size ≤ W'.heap.size ∧ W'.heap[W.heap.size]? = W1.heap[W.heap.size]? ∧ R W') →
    J [] W →
    CallsIn Fence.wide n P g (#[.func (.yield l) #[] #[]] ++ lb) W fun e W' => (∃ v, e = .returned v) ∧ ∃ xs, S xs ∧ J xs W'
theorem GivesR.gives {n : Nat} {P : Program} {g : Nat} {lb : Array Value} {α : Type} {enc : α → Value} {S : List α → Prop} {N : Nat} {R : World → Prop} {w : World} (h : GivesR n P g lb enc S N R) (hR : ∀ W, Below w.heap.size w W → R W) : Gives n P g lb enc S N w :=
  fun l J W hW hJ hY hJ0 => (h l (fun s W => J s W) W (hR W hW) hJ (fun pre x W1 hJ1 _ hs hl => by
    obtain ⟨fn, tmps, assign, body, hy, hr⟩ := hY pre x W1 hJ1 hs hl
    exact ⟨fn, tmps, assign, body, hy, hr.mono fun e W' ⟨h1, h2, h3, h4, h5⟩ => ⟨h1, h2, h3, h4, hR W' h5⟩⟩) hJ0)
/-- what around's iterator reads -/
structure ArR (Bi Bm : Nat) (A : Option Addr) (m c : Nat) (l0 : List ID) (me : ID) (W : World) : Prop where
  box : W.cell? ⟨Bi, 0, none⟩ = some (.slice A m c)
  me : Blk W Bm 23 #[.int .i64 me.1, .int .i64 me.2]
  ids : RdI W A m l0
theorem ArR.keep0 {Bi Bm : Nat} {A : Option Addr} {m c : Nat} {l0 : List ID} {me : ID} {W W' : World} (h : ArR Bi Bm A m c l0 me W) (hk : Keep (fun _ => False) W W') : ArR Bi Bm A m c l0 me W' :=
  ⟨hk.cell h.box (fun h => h), h.me.keep hk (fun h => h), h.ids.keep0 hk⟩
set_option maxRecDepth 100000 in
set_option maxHeartbeats 4000000 in
theorem around1_in (n : Nat) (hn : 1 ≤ n) (Bi Bm : Nat) (A : Option Addr) (m c : Nat) (l0 : List ID) (me : ID) (hm : m ≤ 1000000000) :
    GivesR n Try.prog 28 #[.pointer (some ⟨Bi, 0, none⟩), .pointer (some ⟨Bm, 0, none⟩)] idV (fun xs => xs = ordM l0 me) (m + 1) (ArR Bi Bm A m c l0 me) := by
  obtain ⟨ma, mi⟩ := me
  intro l J W hR0 hJ hY hJ0
  have HJ := Lib.hid hJ
  have HY := Lib.hid hY
  have HR0 := Lib.hid hR0
  have HL := Lib.hid hR0.ids.1
  have q00 := hR0.box
  clear hJ hY hR0
  refine callsIn_of_wp Try.func28 rfl trivial ?_ rfl
  simp only [Try.ntmps28, List.size_toArray, List.length_cons, List.length_nil, Nat.reduceAdd, Nat.reduceSub, Array.replicate_succ, Array.replicate_zero, List.push_toArray, List.append_toArray, List.nil_append, List.cons_append]
  gi_wp2
  gi_loopw [10] (fun i wr => ∃ r : Nat, r ≤ 2 ∧ i = .int .i64 r ∧ J (ordK l0 (ma, mi) r 0) wr ∧ Hid (ArR Bi Bm A m c l0 (ma, mi) wr) ∧ Blk wr W.heap.size 4 #[.bool true, .bool false])
    (fun i _ => 2 - (intOf i).toNat)
  case atStart => exact ⟨0, Nat.zero_le _, rfl, HJ.out _ _ _ hJ0 (Nat.le_refl _) (World.grownBy_alloc W _ _), Lib.hid (HR0.out.keep0 ((Keep.refl _ W).alloc _)), Blk.new _ _ _⟩
  case round =>
    obtain ⟨r, hr, rfl, hJk, HRw, hblk⟩ := hrel
    have HBlk := Lib.hid hblk
    have q0 := HRw.out.box
    have hsr : W.heap.size < wr.heap.size := hblk.lt
    have e2 : IntKind.i64.wrap (r : Int) = (r : Int) := IntWalk.i64_in _ (by omega)
    by_cases hr2 : r < 2
    · obtain ⟨bv, hbv, hc⟩ : ∃ bv : Bool, bv = decide (r = 0) ∧ wr.cell? ⟨W.heap.size, r, none⟩ = some (.bool bv) := by
        rcases (by omega : r = 0 ∨ r = 1) with rfl | rfl
        · exact ⟨true, rfl, HBlk.out.cell 0⟩
        · exact ⟨false, rfl, HBlk.out.cell 1⟩
      have hrI : (r : Int) < 2 := by omega
      have hrJ : (0 : Int) ≤ (r : Int) := by omega
      have HBv := Lib.hid hbv
      clear hblk hbv hJ0 q00
      gi_wp2
      gi_loopw [16] (fun i wr => ∃ k : Nat, k ≤ m ∧ i = .int .i64 k ∧ J (ordK l0 (ma, mi) r k) wr ∧ Hid (ArR Bi Bm A m c l0 (ma, mi) wr) ∧ Hid (Blk wr W.heap.size 4 #[.bool true, .bool false]))
        (fun i _ => m - (intOf i).toNat)
      case atStart => exact ⟨0, Nat.zero_le _, rfl, hJk, HRw, HBlk⟩
      case round =>
        clear hJk HRw q0 hc hsr HBlk
        obtain ⟨k, hk, rfl, hJk, HRw, HBlk⟩ := hrel
        have hsr : W.heap.size < wr.heap.size := HBlk.out.lt
        by_cases hlt : k < m
        · obtain ⟨g, off, hA, q0, q1⟩ := HRw.out.ids.at_ hlt
          have HStep := Lib.hid (ordK_next (ids := l0) (me := (ma, mi)) (k := k) (by rw [HL.out]; exact hlt) hr2)
          have hlen := ordK_len l0 (ma, mi) r k
          rw [HL.out] at hlen
          subst hA
          rw [← HBv.out] at HStep
          generalize l0.getD k (0, 0) = x at q0 q1 HStep
          obtain ⟨a, i⟩ := x
          simp only at q0 q1
          obtain ⟨W1, hW1⟩ : ∃ W1, wr.alloc (.cells #[.int .i64 a, .int .i64 i] 23) = W1 := ⟨_, rfl⟩
          have hE : Blk W1 wr.heap.size 23 #[.int .i64 a, .int .i64 i] := by rw [← hW1]; exact Blk.new _ _ _
          have hE0 := hE.cell 0
          have hE1 := hE.cell 1
          have hk1 : Keep (fun _ => False) wr W1 := by rw [← hW1]; exact (Keep.refl _ wr).alloc _
          have hb1 := Lib.hid (HRw.out.keep0 hk1)
          have hM1 : Blk W1 Bm 23 #[.int .i64 ma, .int .i64 mi] := hb1.out.me
          have hM10 := hM1.cell 0
          have hM11 := hM1.cell 1
          have hs1 : W1.heap.size = wr.heap.size + 1 := by rw [← hW1]; simp
          rw [← hW1] at hE0 hE1 hM10 hM11
          have HE := Lib.hid hE
          have HK1 := Lib.hid hk1
          have HW1 := Lib.hid hW1
          have HM1 := Lib.hid hM1
          clear hE hk1 hW1 hM1
          have hkI : (k : Int) < (m : Int) := by omega
          have hkJ : (0 : Int) ≤ (k : Int) := by omega
          have e2 : IntKind.i64.wrap (k : Int) = (k : Int) := IntWalk.i64_in _ (by omega)
          have G := gID
          by_cases he : (a, i) = (ma, mi)
          · have E := (fun W => by simpa [he] using neq_ID (a, i) (ma, mi) W : ∀ W, (binOp .neq 23 (idV (a, i)) (idV (ma, mi))).run Try.prog W = .ok (.bool false) W)
            have HSt : Hid (ordK l0 (ma, mi) r (k + 1) = ordK l0 (ma, mi) r k) := Lib.hid (by rw [HStep.out, if_neg (fun h => h.1 he), List.append_nil])
            clear he HStep
            gi_wp2
            refine ⟨trivial, ?_⟩
            gi_wp2
            refine ⟨(fun f h => by cases h), ?_⟩
            gi_wp2
            go_roundw
            case rel =>
              refine ⟨k + 1, by omega, by go_num, ?_, ?_, ?_⟩
              · rw [HSt.out, HW1.out]; exact HJ.out _ _ _ hJk (by omega) (grown_of_keep _ HK1.out)
              · rw [HW1.out]; exact hb1
              · rw [HW1.out]; exact Lib.hid (HBlk.out.keep HK1.out (fun h => h))
            case measure => simp [intOf]; omega
          · have E := (fun W => by simpa [he] using neq_ID (a, i) (ma, mi) W : ∀ W, (binOp .neq 23 (idV (a, i)) (idV (ma, mi))).run Try.prog W = .ok (.bool true) W)
            have HSt : Hid (ordK l0 (ma, mi) r (k + 1) = ordK l0 (ma, mi) r k ++ if ltID (ma, mi) (a, i) = bv then [(a, i)] else []) := Lib.hid (by rw [HStep.out]; congr 1; simp [he])
            clear he HStep
            gi_wp2_with fail
            refine ⟨trivial, CallsIn.mono (callsIn_wide.2 (ltID_any (ma, mi) (a, i) _)) ?_⟩
            rintro e W2 ⟨rfl, hk2⟩
            rw [HW1.out] at hk2
            have hb2 := Lib.hid (hb1.out.keep0 hk2)
            have hBlk2 := Lib.hid ((HBlk.out.keep HK1.out (fun h => h)).keep hk2 (fun h => h))
            have hE2 := HE.out.keep hk2 (fun h => h)
            have hJ2 : J (ordK l0 (ma, mi) r k) W2 := HJ.out _ _ _ hJk (by omega) (grown_of_keep _ (keep0_trans _ _ _ HK1.out hk2))
            have hs2 : W.heap.size < W2.heap.size := hBlk2.out.lt
            have hE20 := hE2.cell 0
            have hE21 := hE2.cell 1
            clear hE2 hk2 hE0 hE1 hM10 hM11 q0 q1
            by_cases hb : ltID (ma, mi) (a, i) = bv
            · rw [if_pos hb] at HSt
              obtain ⟨fn, tmps, assign, body, hy, hR⟩ := HY.out (ordK l0 (ma, mi) r k) (a, i) _ hJ2 hb2.out hs2 (by omega)
              have HR := Lib.hid hR
              clear hR
              have hb' : (ltID (ma, mi) (a, i) == bv) = true := by simpa using hb
              clear hb
              gi_wp2
              refine HR.out.mono ?_
              rintro e W3 ⟨rfl, hJ3, hs3, ht3, hb3⟩
              gi_wp2
              go_roundw
              case rel => exact ⟨k + 1, by omega, by go_num, by rw [HSt.out]; exact hJ3, Lib.hid hb3, Lib.hid (ht3.trans hBlk2.out)⟩
              case measure => simp [intOf]; omega
            · rw [if_neg hb, List.append_nil] at HSt
              have hb' : (ltID (ma, mi) (a, i) == bv) = false := by simpa using hb
              clear hb
              gi_wp2
              refine ⟨(fun f h => by cases h), ?_⟩
              gi_wp2
              go_roundw
              case rel => exact ⟨k + 1, by omega, by go_num, by rw [HSt.out]; exact hJ2, hb2, hBlk2⟩
              case measure => simp [intOf]; omega
        · obtain rfl : k = m := by omega
          have hJt : J (ordK l0 (ma, mi) (r + 1) 0) wr := by rw [← ordK_turn _ _ _ hr2, HL.out]; exact hJk
          clear hJk
          gi_wp2
          go_roundw
          case rel => exact ⟨r + 1, by omega, by go_num, hJt, HRw, HBlk.out⟩
          case measure => simp [intOf]; omega
    · obtain rfl : r = 2 := by omega
      clear hblk hJ0 q0 q00
      gi_wp2
      go_end0
      exact ⟨⟨_, rfl⟩, _, rfl, hJk⟩

/-- around: the iterator over the boxes of both -/
theorem around_any (A : Option Addr) (n c : Nat) (me : ID) (w : World) : Calls Try.prog 20 #[.slice A n c, idV me] w fun en w' =>
    en = .returned (.func (.func 28) #[] #[.pointer (some ⟨w.heap.size, 0, none⟩), .pointer (some ⟨w.heap.size + 1, 0, none⟩)]) ∧
      w' = (w.alloc (.cells #[.slice A n c] 25)).alloc (.cells #[.int .i64 me.1, .int .i64 me.2] 23) := by
  obtain ⟨a, i⟩ := me
  go_enter Try.func20, Try.ntmps20
  go_wp2
  go_ret
  exact ⟨rfl, rfl⟩
set_option maxHeartbeats 1000000 in
theorem order_any (A : Option Addr) (n c : Nat) (l : List ID) (me : ID) (w : World) (h : RdI w A n l) (hn : n ≤ 1000000) :
    Calls Try.prog 10 #[.slice A n c, idV me] w (NewI (ordM l me) w) := by
  obtain ⟨a, i⟩ := me
  have eg : ∀ args w, (callFunc 28 args).run Try.prog w = .ok (.enter 28 args) w := enters_of Try.func28 (by kernel_rfl) rfl
  have HR := Lib.hid h
  clear h
  have HK0 := Lib.hid ((Keep.refl (fun _ => False) w).alloc (.cells #[.int .i64 a, .int .i64 i] 23))
  go_enter Try.func10, Try.ntmps10
  go_wp2_with fail
  refine (around_any A n c (a, i) _).mono ?_
  rintro e w1 ⟨rfl, hw1⟩
  have hb0 : Blk w1 (w.heap.size + 1) 25 #[.slice A n c] := by rw [hw1]; exact (Blk.new_ (by simp) _ _).alloc _
  have hb1 : Blk w1 (w.heap.size + 1 + 1) 23 #[.int .i64 a, .int .i64 i] := by rw [hw1]; exact Blk.new_ (by simp) _ _
  have hk1 : Keep (fun _ => False) w w1 := by rw [hw1]; exact (HK0.out.alloc _).alloc _
  have HB0 := Lib.hid hb0
  have HB1 := Lib.hid hb1
  have HK1 := Lib.hid hk1
  clear hb0 hb1 hk1 hw1
  simp only [World.size_alloc]
  go_wp2_with fail
  refine (collect_any 3 (by omega) 28 #[.pointer (some ⟨w.heap.size + 1, 0, none⟩), .pointer (some ⟨w.heap.size + 1 + 1, 0, none⟩)] eg (fun xs => xs = ordM l (a, i)) (n + 1) (by unfold maxLen; omega) (by omega) w1
    ((around1_in 1 (by omega) _ _ A n c l (a, i) (by omega)).gives (fun W hW => ⟨(hW.cell (p := ⟨w.heap.size + 1, 0, none⟩) HB0.out.lt).trans (HB0.out.cell 0), (hW.block _ HB1.out.lt).trans HB1.out, (HR.out.keep0 HK1.out).keep0 (keep0_of_below hW)⟩))).mono ?_
  rintro e w2 ⟨v, ss, rfl, hss, hrow, _, hb⟩
  obtain ⟨row, A1, c1, rfl, hs1, hr1⟩ := SlK.of_own hrow
  have hk2 := keep0_of_below hb
  have HS1 := Lib.hid hs1
  have HK2 := Lib.hid (keep0_trans _ _ _ HK1.out hk2)
  have HR1 := Lib.hid (fun g hg => Nat.le_trans HK1.out.size (hr1 g hg))
  have HSS := Lib.hid hss
  clear hrow hb hs1 hk2 hr1 hss
  go_wp2
  go_ret
  rw [← HSS.out]
  exact ⟨row, A1, c1, rfl, HS1.out, HR1.out, HK2.out⟩
end Go.Proofs.Ytafolmgbmobfbaa
