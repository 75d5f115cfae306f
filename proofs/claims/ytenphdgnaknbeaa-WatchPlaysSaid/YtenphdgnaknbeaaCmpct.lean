/-
  slices.Compact at IDs, in memory that may be written.
-/
import Derived.Test.YtenphdgnaknbeaaCmpctP
import Derived.Test.YtenphdgnaknbeaaEq
namespace Go.Proofs.Ytenphdgnaknbeaa
open Go.RowKit

/-- Compact's answer: in the same block -/
def Cpt (row : Option Nat) (A : Option Addr) (c : Nat) (l : List ID) (w : World) (e : Ending) (w' : World) : Prop :=
  e = .returned (.slice A (dk l l.length).length c) ∧ SlK w' 33 2 row A (dk l l.length).length c ((dk l l.length).flatMap cID) ∧ Keep (fun g => row = some g) w w'

theorem SlK.keep0 {w w' : World} {e : TypeId} {k : Nat} {row : Option Nat} {A : Option Addr} {n c : Nat} {xs : List Value} (h : SlK w e k row A n c xs) (hk : Keep (fun _ => False) w w') : SlK w' e k row A n c xs := h.keep hk (fun _ _ h => h)
theorem take_one {l : List ID} {n : Nat} (h : l.length = n) (hn : 1 ≤ n) : dk l (0 + 1) = l.take (0 + 1) := by
  obtain _ | ⟨x, r⟩ := l
  · simp at h; omega
  · simp [dk]
theorem take_next {l : List ID} {k : Nat} {x : ID} (ht : dk l (k + 1) = l.take (k + 1)) (hl : k + 1 < l.length) (hx : l.getD (k + 1) (0, 0) = x) : dk l (k + 1) ++ [x] = l.take (k + 1 + 1) := by
  rw [ht, List.take_succ_eq_append_getElem hl, ← hx]; simp [List.getD, hl]
theorem take_all {l : List ID} {m : Nat} (ht : dk l m = l.take m) (hl : l.length = m) : dk l l.length = l := by
  rw [hl, ht, List.take_of_length_le (by omega)]
theorem lies_push {cs : Array Value} {off p : Nat} {d : List ID} {a i : Int} (h : Lies cs off (fun i => d.getD i (0, 0)) 0 p) (hs : off + p * 2 + 1 < cs.size) (hp : d.length = p) :
    Lies ((cs.setIfInBounds (off + p * 2) (.int .i64 a)).setIfInBounds (off + p * 2 + 1) (.int .i64 i)) off (fun j => (d ++ [(a, i)]).getD j (0, 0)) 0 (p + 1) := by
  have e : (d ++ [(a, i)]).getD p (0, 0) = (a, i) := by simp [List.getD, hp]
  have := h.put (g := fun j => (d ++ [(a, i)]).getD j (0, 0)) hs (fun j hj => by simp [List.getD, List.getElem?_append_left (by omega : j < d.length)])
  simpa only [e] using this
theorem infoC : (Try.prog.info? 33).map (fun i => (i.zero, i.size, i.bytes)) = some (some (.agg #[.int .i64 0, .int .i64 0]), 2, 16) := by kernel_rfl
theorem bI (x : Bool) (h : x = true) : (Value.bool x) = .bool true := by rw [h]
set_option maxRecDepth 100000 in
set_option maxHeartbeats 2000000 in
theorem compact_any (row : Option Nat) (A : Option Addr) (n c : Nat) (l : List ID) (w : World) (h : SlK w 33 2 row A n c (l.flatMap cID)) :
    Calls Try.prog 60 #[.slice A n c] w (Cpt row A c l w) := by
  have hlen : l.length = n := by have := h.1; rw [flat_len cID 2 (fun _ => rfl)] at this; omega
  have hnc := h.2.1
  have hcm := h.2.2.1
  unfold maxLen at hcm
  by_cases h2 : n < 2
  · have HD : Hid (dk l l.length = l) := Lib.hid (by
      rcases (by omega : n = 0 ∨ n = 1) with rfl | rfl
      · rw [hlen, dk]; exact (List.eq_nil_of_length_eq_zero hlen).symm
      · rw [hlen, dk_one]
        obtain ⟨x, rfl⟩ := List.length_eq_one_iff.1 hlen
        rfl)
    have H := Lib.hid h
    have HL := Lib.hid hlen
    clear h hlen
    have hI : (n : Int) < 2 := by omega
    go_enter Try.func60, Try.ntmps60
    go_wp2
    go_ret
    refine ⟨?_, ?_, Keep.refl _ _⟩
    · rw [HD.out, HL.out]; rfl
    · rw [HD.out, HL.out]; exact H.out
  · obtain ⟨_, g, off, cs, rfl, rfl, hb, hs, hli⟩ := h.lies (by omega)
    have H0 := Lib.hid h
    have HB := Lib.hid hb
    have HLI := Lib.hid hli
    have HLn := Lib.hid hlen
    clear h hb hli hlen
    have hI : ¬ (n : Int) < 2 := by omega
    go_enter Try.func60, Try.ntmps60
    go_wp2
    go_loopw [3] (fun i wr => ∃ k : Nat, k + 1 ≤ n ∧ i = .int .i64 ((k : Int) + 1) ∧ Hid (dk l (k + 1) = l.take (k + 1)) ∧ Hid (∃ q, wr = w.drewN q)) (fun i _ => n - (intOf i).toNat)
    case atStart => exact ⟨0, by omega, rfl, Lib.hid (take_one HLn.out (by omega)), Lib.hid ⟨0, rfl⟩⟩
    case round =>
      obtain ⟨k, hk, rfl, HT, HW⟩ := hrel
      obtain ⟨q, rfl⟩ := HW.out
      by_cases hlt : k + 1 < n
      · obtain ⟨p0, p1⟩ := HLI.out (k + 1) (by omega) hlt
        obtain ⟨q0, q1⟩ := HLI.out k (by omega) (by omega)
        have P0 := (HB.out.cell (off + (k + 1) * 2)).trans p0
        have P1 := (HB.out.cell (off + (k + 1) * 2 + 1)).trans p1
        have Q0 := (HB.out.cell (off + k * 2)).trans q0
        have Q1 := (HB.out.cell (off + k * 2 + 1)).trans q1
        clear p0 p1 q0 q1
        have HS := (fun h => dk_same (l := l) (m := k + 1) (by omega) h)
        have HN := (fun h => dk_next (l := l) (m := k + 1) h)
        simp only at P0 P1 Q0 Q1
        simp only [Nat.add_sub_cancel] at HS HN
        generalize hx : l.getD (k + 1) (0, 0) = x at *
        generalize hy : l.getD k (0, 0) = y at *
        obtain ⟨a, i⟩ := x
        obtain ⟨b, j⟩ := y
        simp only at P0 P1 Q0 Q1
        have HX := Lib.hid hx
        have HY := Lib.hid hy
        clear hx hy
        have hkI : (k : Int) + 1 < (n : Int) := by omega
        have hkL : (k : Int) < (n : Int) := by omega
        have e1 : IntKind.i64.wrap ((k : Int) + 1 - 1) = (k : Int) := (IntWalk.i64_in ((k : Int) + 1 - 1) (by omega)).trans (by omega)
        have e2 : IntKind.i64.wrap (k : Int) = (k : Int) := IntWalk.i64_in _ (by omega)
        have t1 : ((k : Int) + 1).toNat = k + 1 := by omega
        have hkM : (0 : Int) ≤ (k : Int) + 1 := by omega
        have hkJ : (0 : Int) ≤ (k : Int) := by omega
        by_cases he : (a, i) = (b, j)
        · have E := (fun W => by simpa [he] using eql_ID (a, i) (b, j) W : ∀ W, (binOp .eql 33 (idV (a, i)) (idV (b, j))).run Try.prog W = .ok (.bool true) W)
          have G := gID
          have HS2 := Lib.hid (HS he)
          clear he HS HN
          go_wp2
          go_quiet (fail)
          go_wp2
          go_loopw [3, 5] (fun i j wr => ∃ p r : Nat, k + 1 + r + 1 ≤ n ∧ p ≤ k + 1 + r ∧ i = .int .i64 (p : Int) ∧ j = .int .i64 ((r : Int) + 1) ∧ Hid ((dk l (k + 1 + r + 1)).length = p) ∧
            Hid (∃ cs', Blk wr g 33 cs' ∧ cs'.size = cs.size ∧ Lies cs' off (fun i => (dk l (k + 1 + r + 1)).getD i (0, 0)) 0 p ∧ Lies cs' off (fun i => l.getD i (0, 0)) (k + 1 + r) n) ∧ Hid (Keep (fun h => some g = some h) w wr)) (fun _ j _ => n - (intOf j).toNat)
          case atStart =>
            refine ⟨k + 1, 0, by omega, by omega, rfl, rfl, Lib.hid (by rw [Nat.add_zero, HS2.out, HT.out, List.length_take, HLn.out]; omega), Lib.hid ⟨cs, HB.out.drewN _, rfl, ?_, HLI.out.mono (by omega) (Nat.le_refl _)⟩, Lib.hid ((Keep.refl _ w).drewN _)⟩
            rw [Nat.add_zero, HS2.out, HT.out]
            exact (HLI.out.mono (Nat.le_refl _) (by omega)).ext (fun i _ hi => by simp [List.getD, hi])
          case round =>
            obtain ⟨p, r, hr, hp, rfl, rfl, HP, HC, HK⟩ := hrel
            by_cases hlt2 : k + 1 + r + 1 < n
            · obtain ⟨cs', hb', hsz, hl1, hl2⟩ := HC.out
              obtain ⟨p0, p1⟩ := hl2 (k + 1 + r + 1) (by omega) hlt2
              obtain ⟨q0, q1⟩ := hl2 (k + 1 + r) (by omega) (by omega)
              rw [show off + (k + 1 + r + 1) * 2 = off + (k + 1) * 2 + (r + 1) * 2 by omega] at p0 p1
              rw [show off + (k + 1 + r) * 2 = off + (k + 1) * 2 + r * 2 by omega] at q0 q1
              have R0 := (hb'.cell _).trans p0
              have R1 := (hb'.cell _).trans p1
              have S0 := (hb'.cell _).trans q0
              have S1 := (hb'.cell _).trans q1
              clear p0 p1 q0 q1 P0 P1 Q0 Q1
              have HB2 := Lib.hid hb'
              have HL1 := Lib.hid hl1
              have HL2 := Lib.hid hl2
              clear hb' hl1 hl2
              have HS := (fun h => dk_same (l := l) (m := k + 1 + r + 1) (by omega) h)
              have HN := (fun h => dk_next (l := l) (m := k + 1 + r + 1) h)
              simp only at R0 R1 S0 S1
              simp only [Nat.add_sub_cancel] at HS HN
              generalize hx2 : l.getD (k + 1 + r + 1) (0, 0) = x2 at *
              generalize hy2 : l.getD (k + 1 + r) (0, 0) = y2 at *
              obtain ⟨a2, i2⟩ := x2
              obtain ⟨b2, j2⟩ := y2
              simp only at R0 R1 S0 S1
              have HX2 := Lib.hid hx2
              clear hx2 hy2
              have f1 : (r : Int) + 1 < ((n - (k + 1) : Nat) : Int) := by omega
              have f2 : (r : Int) < ((n - (k + 1) : Nat) : Int) := by omega
              have f3 : IntKind.i64.wrap ((r : Int) + 1 - 1) = (r : Int) := (IntWalk.i64_in ((r : Int) + 1 - 1) (by omega)).trans (by omega)
              have f4 : IntKind.i64.wrap (r : Int) = (r : Int) := IntWalk.i64_in _ (by omega)
              have f5 : ((r : Int) + 1).toNat = r + 1 := by omega
              have f6 : (0 : Int) ≤ (r : Int) + 1 := by omega
              have f7 : (0 : Int) ≤ (r : Int) := by omega
              have f8 : (p : Int) < (n : Int) := by omega
              have f9 : (0 : Int) ≤ (p : Int) := by omega
              have hnc2 : off + p * 2 + 1 < cs'.size := by omega
              have T0 := (HB2.out.cell (off + p * 2)).trans (Array.getElem?_eq_getElem (by omega))
              have T1 := (HB2.out.cell (off + p * 2 + 1)).trans (Array.getElem?_eq_getElem (by omega))
              have F0 := HB2.out.frozen (off + p * 2)
              have F1 := HB2.out.frozen (off + p * 2 + 1)
              by_cases he2 : (a2, i2) = (b2, j2)
              · have E2 := (fun W => by simpa [he2] using neq_ID (a2, i2) (b2, j2) W : ∀ W, (binOp .neq 33 (idV (a2, i2)) (idV (b2, j2))).run Try.prog W = .ok (.bool false) W)
                have HS3 := Lib.hid (HS he2)
                clear he2 HS HN
                go_wp2
                go_quiet (fail)
                go_wp2
                go_roundw
                case rel => exact ⟨p, r + 1, by omega, by omega, by go_num, by go_num, Lib.hid (by rw [show k + 1 + (r + 1) + 1 = k + 1 + r + 1 + 1 by omega, HS3.out]; exact HP.out), Lib.hid ⟨cs', HB2.out.drewN _, hsz, by rw [show k + 1 + (r + 1) + 1 = k + 1 + r + 1 + 1 by omega, HS3.out]; exact HL1.out, HL2.out.mono (by omega) (Nat.le_refl _)⟩, Lib.hid (HK.out.drewN _)⟩
                case measure => simp [intOf]; omega
              · have E2 := (fun W => by simpa [he2] using neq_ID (a2, i2) (b2, j2) W : ∀ W, (binOp .neq 33 (idV (a2, i2)) (idV (b2, j2))).run Try.prog W = .ok (.bool true) W)
                have HN3 := Lib.hid (HN he2)
                clear he2 HS HN
                go_wp2
                go_quiet (fail)
                go_wp2
                have hLEN : (dk l (k + 1 + r + 1 + 1)).length = p + 1 := by rw [HN3.out, List.length_append, HP.out]; rfl
                go_roundw
                case rel =>
                  refine ⟨p + 1, r + 1, by omega, by omega, by go_num, by go_num, Lib.hid (by rw [show k + 1 + (r + 1) + 1 = k + 1 + r + 1 + 1 by omega]; exact hLEN), Lib.hid ⟨_, ((HB2.out.drewN _).set_ _ _).set_ _ _, by simp [hsz], ?_, ?_⟩, Lib.hid (((HK.out.drewN _).setCell (p := ⟨g, off + p * 2, none⟩) (fun _ => rfl) _).setCell (p := ⟨g, off + p * 2 + 1, none⟩) (fun _ => rfl) _)⟩
                  · rw [show k + 1 + (r + 1) + 1 = k + 1 + r + 1 + 1 by omega, HN3.out]
                    exact lies_push HL1.out hnc2 HP.out
                  · exact (HL2.out.mono (by omega) (Nat.le_refl _)).far (.inl (by omega)) _ _
                case measure => simp [intOf]; omega
            · obtain rfl : n = k + 1 + r + 1 := by omega
              have g1 : ¬ (r : Int) + 1 < ((k + 1 + r + 1 - (k + 1) : Nat) : Int) := by omega
              have g2 : (p : Int) < ((k + 1 + r + 1 : Nat) : Int) := by omega
              obtain ⟨cs', hb', hsz, hl1, hl2⟩ := HC.out
              obtain ⟨i0, hi, hz0, hz1, hz2⟩ := info_parts infoC
              have hz : ∀ W : World, (zeroValue 33).run Try.prog W = .ok (.agg #[.int .i64 0, .int .i64 0]) W := fun W => by simp [zeroValue, typeInfo, hi, hz0]
              have hc := run_clear_ID wr 30 33 0 _ Try.underlying30 hz (by simp [Value.cells, Value.oneCell']) (by simp [Value.cells]) hb' (off + p * 2) (k + 1 + r + 1 - p) (c - p) (by omega) (by simp [Value.cells]; omega)
              have HL1 := Lib.hid hl1
              have HKC := Lib.hid (HK.out.setCells (g := g) (fun _ => rfl) (off + p * 2) (Builtin.zeroCells (Value.agg #[.int .i64 0, .int .i64 0]).cells (k + 1 + r + 1 - p)).toList)
              have HBC := Lib.hid (hb'.setCells (off + p * 2) (Builtin.zeroCells (Value.agg #[.int .i64 0, .int .i64 0]).cells (k + 1 + r + 1 - p)).toList)
              clear hb' hl1 hl2 hi hz0 hz1 hz2 hz
              go_wp2
              go_ret
              obtain ⟨cs2, b1, b2, b3, _⟩ := HBC.out
              refine ⟨?_, ?_, HKC.out⟩
              · rw [HLn.out, HP.out]; rfl
              · rw [HLn.out, HP.out]
                exact SlK.of_lies HP.out (by omega) (by unfold maxLen; omega) b1 (by omega) (fun i h1 h2 => by
                  have := HL1.out i h1 h2
                  rw [b3 _ (.inl (by omega)), b3 _ (.inl (by omega))]
                  exact this)
        · have E := (fun W => by simpa [he] using eql_ID (a, i) (b, j) W : ∀ W, (binOp .eql 33 (idV (a, i)) (idV (b, j))).run Try.prog W = .ok (.bool false) W)
          have G := gID
          have HN2 := Lib.hid ((HN he).trans (take_next HT.out (by rw [HLn.out]; omega) HX.out))
          clear he HS HN
          go_wp2
          go_quiet (fail)
          go_wp2
          go_roundw
          case rel => exact ⟨k + 1, by omega, by go_num, Lib.hid (HN2.out), Lib.hid ⟨_, rfl⟩⟩
          case measure => simp [intOf]; omega
      · have hnI : ¬ (k : Int) + 1 < (n : Int) := by omega
        have HE := Lib.hid (take_all HT.out (show l.length = k + 1 by rw [HLn.out]; omega))
        go_wp2
        go_ret
        refine ⟨?_, ?_, (Keep.refl _ w).drewN _⟩
        · rw [HE.out, HLn.out]; rfl
        · rw [HE.out, HLn.out]; exact H0.out.keep0 ((Keep.refl _ w).drewN _)
end Go.Proofs.Ytenphdgnaknbeaa
