/-
  The iterator of others.
-/
import Derived.Test.YtlnflbobcbnhhaaCollect
import Derived.Test.YtlnflbobcbnhhaaEntP
import Derived.WalkSpells
import Derived.Outline
namespace Go.Proofs.Ytlnflbobcbnhhaa
open Go.RowKit

set_option maxRecDepth 100000 in
set_option maxHeartbeats 2000000 in
theorem others1_in (n : Nat) (hn : 1 ≤ n) (w : World) (Bn eb : Nat) (A : Option Addr) (m c : Nat) (row : Option Nat) (seeds : List Int) (own : Int) (hm : m ≤ 1000)
    (hB : w.cell? ⟨Bn, 0, none⟩ = some (.pointer (some ⟨eb, 0, none⟩))) (h0 : w.cell? ⟨eb, 0, none⟩ = some (.slice A m c)) (h2 : w.cell? ⟨eb, 2, none⟩ = some (.int .i64 own))
    (hs : Sl w 3 row A m c (seeds.map (.int .i64))) :
    Gives n Try.prog 22 #[.pointer (some ⟨Bn, 0, none⟩)] encI (fun xs => xs = asked own seeds) m w := by
  intro l J W hW hJ hY hJ0
  have lB : Bn < w.heap.size := World.block_lt_of_cell? w _ hB
  have le : eb < w.heap.size := World.block_lt_of_cell? w _ h0
  have hlen : seeds.length = m := by simpa using hs.1
  have HJ := Lib.hid hJ
  have HY := Lib.hid hY
  have HS := Lib.hid hs
  have HLen := Lib.hid hlen
  have HB0 := Lib.hid hB
  have H00 := Lib.hid h0
  have H20 := Lib.hid h2
  have HW := Lib.hid hW
  have hB' := (hW.cell (p := ⟨Bn, 0, none⟩) lB).trans hB
  have h0' := (hW.cell (p := ⟨eb, 0, none⟩) le).trans h0
  have hsz := hW.size
  have lB' : Bn < W.heap.size := by omega
  have le' : eb < W.heap.size := by omega
  clear hJ hY hs hlen hB h0 h2 hW
  refine callsIn_of_wp Try.func22 rfl trivial ?_ rfl
  simp only [Try.ntmps22, List.size_toArray, List.length_cons, List.length_nil, Nat.reduceAdd, Nat.reduceSub, Array.replicate_succ, Array.replicate_zero, List.push_toArray, List.append_toArray, List.nil_append, List.cons_append]
  gi_wp2
  gi_loopw [11] (fun i wr => ∃ k : Nat, k ≤ m ∧ i = .int .i64 k ∧ J (asked own (seeds.take k)) wr ∧ Below w.heap.size w wr ∧ Blk wr W.heap.size 56 (metArr (asked own (seeds.take k))))
    (fun i _ => m - (intOf i).toNat)
  case atStart => exact ⟨0, Nat.zero_le _, rfl, HJ.out _ _ _ hJ0 (Nat.le_refl _) (World.grownBy_alloc W _ _), (HW.out).alloc hsz _, by rw [List.take_zero]; exact Blk.new _ _ _⟩
  case round =>
    obtain ⟨k, hk, rfl, hJk, hbk, hblk⟩ := hrel
    have q0 := (hbk.cell (p := ⟨Bn, 0, none⟩) lB).trans HB0.out
    have q1 := (hbk.cell (p := ⟨eb, 0, none⟩) le).trans H00.out
    have q2 := (hbk.cell (p := ⟨eb, 2, none⟩) le).trans H20.out
    by_cases hlt : k < m
    · obtain ⟨g, off, v, hA, _, hv, hc⟩ := HS.out.at_ hlt
      have lg : g < w.heap.size := World.block_lt_of_cell? w _ hc
      have q3 := (hbk.cell (p := ⟨g, off + k, none⟩) lg).trans hc
      have hx : v = .int .i64 (seeds.getD k 0) := by
        have : k < seeds.length := by rw [HLen.out]; exact hlt
        simp [this] at hv
        simp [List.getD, this, ← hv]
      have HStep := Lib.hid (asked_succ own seeds k (by rw [HLen.out]; exact hlt))
      have hlen := asked_len own seeds k
      rw [hx] at q3
      subst hA
      clear hv hc hx
      generalize seeds.getD k 0 = x at q3 HStep
      generalize asked own (seeds.take k) = acc at hJk hblk HStep hlen
      clear hB' h0' hJ0
      have hnew : W.heap.size < wr.heap.size := hblk.lt
      by_cases hbad : x < 1 ∨ 12 < x ∨ x = own
      · have hkeep : askOne own acc x = acc := by unfold askOne; rw [if_pos]; rcases hbad with h | h | h <;> simp [h]
        rw [hkeep] at HStep
        have HBlk := Lib.hid hblk
        clear hkeep hblk
        rcases (show x < 1 ∨ 12 < x ∨ (1 ≤ x ∧ x ≤ 12 ∧ x = own) by omega) with h | h | ⟨h1, h2, h3⟩
        · gi_wp2
          go_roundw
          case rel => exact ⟨k + 1, by omega, by go_num, by rw [HStep.out]; exact hJk, hbk, by rw [HStep.out]; exact HBlk.out⟩
          case measure => simp [intOf]; omega
        · have h1 : 1 ≤ x := by omega
          gi_wp2
          go_roundw
          case rel => exact ⟨k + 1, by omega, by go_num, by rw [HStep.out]; exact hJk, hbk, by rw [HStep.out]; exact HBlk.out⟩
          case measure => simp [intOf]; omega
        · subst h3
          gi_wp2
          go_roundw
          case rel => exact ⟨k + 1, by omega, by go_num, by rw [HStep.out]; exact hJk, hbk, by rw [HStep.out]; exact HBlk.out⟩
          case measure => simp [intOf]; omega
      · have h1 : 1 ≤ x := by omega
        have h2 : x ≤ 12 := by omega
        have h3 : (x == own) = false := by simp; omega
        obtain ⟨a, ha⟩ : ∃ a : Nat, x = (a : Int) := ⟨x.toNat, by omega⟩
        have ha13 : a < 13 := by omega
        have hcell := hblk.cell a
        rw [metArr_get _ _ ha13] at hcell
        have hfr := hblk.frozen a
        by_cases hin : x ∈ acc
        · have hkeep : askOne own acc x = acc := by unfold askOne; rw [if_pos]; simp [hin]
          rw [hkeep] at HStep
          rw [if_pos (ha ▸ hin)] at hcell
          have HBlk := Lib.hid hblk
          clear hkeep hblk hbad hin
          subst ha
          gi_wp2
          go_roundw
          case rel => exact ⟨k + 1, by omega, by go_num, by rw [HStep.out]; exact hJk, hbk, by rw [HStep.out]; exact HBlk.out⟩
          case measure => simp [intOf]; omega
        · have hkeep : askOne own acc x = acc ++ [x] := by
            unfold askOne
            rw [if_neg]
            rintro (h | h | h | h)
            · omega
            · omega
            · omega
            · exact hin h
          rw [hkeep] at HStep
          rw [if_neg (ha ▸ hin)] at hcell
          have hblk2 := hblk.set_ a (.int .i64 1)
          rw [metArr_set _ _ ha13] at hblk2
          have hset := HJ.out _ _ _ hJk (by omega) (show wr.grownBy (wr.setCell ⟨W.heap.size, a, none⟩ (.int .i64 1)) (some W.heap.size) from
            ⟨rfl, rfl, rfl, by simp, fun j _ hj => Below.heap_setCell _ _ _ j (fun e => hj (by rw [e]))⟩)
          have hbk2 : Below w.heap.size w (wr.setCell ⟨W.heap.size, a, none⟩ (.int .i64 1)) := hbk.setCell hsz _
          have hnew2 : W.heap.size < (wr.setCell ⟨W.heap.size, a, none⟩ (.int .i64 1)).heap.size := by simpa using hnew
          have HBlk := Lib.hid hblk2
          have HKeep := Lib.hid hbk2
          obtain ⟨fn, tmps, assign, body, hy, hR⟩ := HY.out acc x _ hset hnew2 (by omega)
          clear hkeep hblk hblk2 hbad hin hset hbk2 hnew2
          subst ha
          gi_wp2
          refine hR.mono ?_
          rintro e W3 ⟨rfl, hJ3, _, ht3, hb3⟩
          gi_wp2
          go_roundw
          case rel => exact ⟨k + 1, by omega, by go_num, by rw [HStep.out]; exact hJ3, hb3, by rw [HStep.out]; exact ht3.trans HBlk.out⟩
          case measure => simp [intOf]; omega
    · obtain rfl : k = m := by omega
      have hfull : seeds.take k = seeds := List.take_of_length_le (by rw [HLen.out]; exact Nat.le_refl _)
      rw [hfull] at hJk
      clear hfull hB' h0' hJ0
      gi_wp2
      go_end0
      exact ⟨⟨_, rfl⟩, _, rfl, hJk⟩

/-- e.others(): the iterator over the box of e. -/
theorem others_any (e : Addr) (w : World) : Calls Try.prog 20 #[.pointer (some e)] w fun en w' =>
    en = .returned (.func (.func 22) #[] #[.pointer (some ⟨w.heap.size, 0, none⟩)]) ∧ w' = w.alloc (.cells #[.pointer (some e)] 28) := by
  go_enter Try.func20, Try.ntmps20
  go_wp2
  go_ret
  exact ⟨rfl, rfl⟩
end Go.Proofs.Ytlnflbobcbnhhaa
