/-
  Roster: slices.DeleteFunc of members that may not count.
-/
import Derived.Test.YthlfgjlnjmjppaaRosE
import Derived.Test.YthlfgjlnjmjppaaConcatM
import Derived.Lib.SliceRun
namespace Go.Proofs.Ythlfgjlnjmjppaa
open Go.RowKit

section
variable {w : World} {e : TypeId} {k : Nat} {row : Option Nat} {n c g off : Nat} {xs : List Value}
theorem SlK.setCell (h : SlK w e k row (some ⟨g, off, none⟩) n c xs) {j : Nat} (hj : j < n * k) (v : Value) : SlK (w.setCell ⟨g, off + j, none⟩ v) e k row (some ⟨g, off, none⟩) n c (xs.set j v) := by
  refine ⟨by simpa using h.1, h.2.1, h.2.2.1, ?_⟩
  rcases h.2.2.2 with ⟨_, h1, _⟩ | ⟨g', off', cur, h1, h2, hb, hs, hc⟩
  · cases h1
  · injection h2 with h2; injection h2 with q1 q2; subst q1 q2
    have hcn : n * k ≤ c * k := Nat.mul_le_mul_right k h.2.1
    refine .inr ⟨g, off, _, h1, rfl, hb.set_ (off + j) v, by simpa using hs, fun i hi => ?_⟩
    by_cases hij : i = j
    · subst hij
      rw [Array.getElem?_setIfInBounds_self_of_lt (by omega), List.getElem?_set_self (by rw [h.1]; exact hi)]
    · rw [Array.getElem?_setIfInBounds_ne (by omega), hc i hi, List.getElem?_set_ne (by omega)]
theorem SlK.row_of (h : SlK w e k row (some ⟨g, off, none⟩) n c xs) : row = some g := by
  rcases h.2.2.2 with ⟨_, h1, _⟩ | ⟨g', off', cur, h1, h2, _⟩
  · cases h1
  · injection h2 with h2; injection h2 with q1 q2; subst q1; exact h1
theorem SlK.cellAt (h : SlK w e k row (some ⟨g, off, none⟩) n c xs) {j : Nat} (_hj : j < n * k) : w.frozen? ⟨g, off + j, none⟩ = false := by
  rcases h.2.2.2 with ⟨_, h1, _⟩ | ⟨g', off', cur, h1, h2, hb, _⟩
  · cases h1
  · injection h2 with h2; injection h2 with q1 q2; subst q1; exact hb.frozen _
theorem SlK.clear_ {P : Program} (t ty : TypeId) (z : Value) (ht : P.underlying t = some (.slice e)) (hv : ∀ w, (zeroValue e).run P w = .ok z w) (hz : z.cells.size = k) (h1 : ∀ v ∈ z.cells, v.oneCell' = true)
    (h : SlK w e k row (some ⟨g, off, none⟩) n c xs) (i : Nat) (hi : i < n) (d : Nat) : ∃ w', (Builtin.clear_ #[t] ty #[.slice (some ⟨g, off + i * k, none⟩) (n - i) d]).run P w = .ok (.tuple #[]) w' ∧ SlK w' e k row (some ⟨g, off, none⟩) i c (xs.take (i * k)) ∧ Keep (fun b => row = some b) w w' := by
  have hrow := h.row_of
  rcases h.2.2.2 with ⟨_, q, _⟩ | ⟨g', off', cur, q1, q2, hb, hs, hc⟩
  · cases q
  injection q2 with q2; injection q2 with r1 r2; subst r1 r2
  have hcn : n * k ≤ c * k := Nat.mul_le_mul_right k h.2.1
  have hin : i * k + (n - i) * k = n * k := by rw [← Nat.add_mul]; congr 1; omega
  have hzl : (Builtin.zeroCells z.cells (n - i)).toList.length = (n - i) * k := by rw [Array.length_toList, size_zeroCells, hz]
  have hst := run_storeCells_cells (P := P) g (off + i * k) (Builtin.zeroCells z.cells (n - i)).toList 0 w
    (by intro j hj; rw [hzl] at hj; rw [hb.cell]; simp; omega)
    (by intro j hj; exact hb.frozen _)
    (by
      intro v hv'
      have : v ∈ Builtin.zeroCells z.cells (n - i) := by simpa using hv'
      unfold Builtin.zeroCells at this
      obtain ⟨j, hj, he⟩ := Array.mem_map.1 this
      rw [← he]
      have hj' : j < (n - i) * z.cells.size := by simpa using hj
      have hpos : 0 < z.cells.size := by
        rcases Nat.eq_zero_or_pos z.cells.size with h0 | h0
        · rw [h0, Nat.mul_zero] at hj'; omega
        · exact h0
      have hm : j % z.cells.size < z.cells.size := Nat.mod_lt _ hpos
      rw [getElem!_pos z.cells _ hm]
      exact h1 _ (Array.getElem_mem hm))
  simp only [Nat.add_zero] at hst
  obtain ⟨cs', b1, b2, b3, b4⟩ := hb.setCells (off + i * k) (Builtin.zeroCells z.cells (n - i)).toList
  refine ⟨_, ?_, ⟨by rw [List.length_take, h.1]; exact Nat.min_eq_left (Nat.mul_le_mul_right k (by omega)), by have := h.2.1; omega, h.2.2.1, .inr ⟨g, off, cs', hrow, rfl, b1, by omega, fun j hj => ?_⟩⟩, (Keep.refl (fun b => row = some b) w).setCells (fun _ => hrow) _ _⟩
  · obtain ⟨m, hm⟩ : ∃ m, n - i = m + 1 := ⟨n - i - 1, by omega⟩
    rw [hm] at hst ⊢
    simp [Builtin.clear_, run_underlying ht, hv, hst]
  · have : i * k ≤ n * k := Nat.mul_le_mul_right k (by omega)
    rw [b3 (off + j) (by omega), hc j (by omega), List.getElem?_take_of_lt hj]
end
theorem mem_set : ∀ (l : List Mem) (i : Nat), i < l.length → ∀ x : Mem, ((((l.flatMap cMem).set (i * 4) (.int .i64 x.addr)).set (i * 4 + 1) (.int .i64 x.inc)).set (i * 4 + 2) (.int .u8 x.st)).set (i * 4 + 3) (.int .i64 x.no) = (l.set i x).flatMap cMem
  | y :: l, 0, _, x => by simp
  | y :: l, i + 1, h, x => by
    have ih := mem_set l i (by simpa using h) x
    rw [List.set_cons_succ, List.flatMap_cons, List.flatMap_cons, ← ih]
    rw [show (i + 1) * 4 = (cMem y).length + i * 4 by simp; omega]
    simp only [Nat.add_assoc]
    rw [List.set_append_right _ _ (by omega), Nat.add_sub_cancel_left, List.set_append_right _ _ (by omega), Nat.add_sub_cancel_left, List.set_append_right _ _ (by omega), Nat.add_sub_cancel_left, List.set_append_right _ _ (by omega), Nat.add_sub_cancel_left]
theorem mem_one (l : List Mem) : ∀ u ∈ l.flatMap cMem, u.oneCell' = true := by
  intro u hu
  obtain ⟨x, _, hx⟩ := List.mem_flatMap.1 hu
  simp at hx
  rcases hx with rfl | rfl | rfl | rfl <;> rfl
theorem zeroM (w : World) : (zeroValue 32).run Try.prog w = .ok (.agg #[.int .i64 0, .int .i64 0, .int .u8 0, .int .i64 0]) w := by kernel_rfl
theorem idxT_cases2 (pr : Mem → Bool) (l : List Mem) : (idxT pr l = -1 ∧ ∀ x ∈ l, pr x = false) ∨ ∃ k : Nat, k < l.length ∧ idxT pr l = (k : Int) ∧ pr (l.getD k zeroMem) = true ∧ ∀ x ∈ l.take k, pr x = false := by
  unfold idxT
  cases h : l.findIdx? pr with
  | none =>
    left
    rw [List.findIdx?_eq_none_iff] at h
    exact ⟨rfl, by simpa using h⟩
  | some k =>
    right
    rw [List.findIdx?_eq_some_iff_getElem] at h
    obtain ⟨hk, h1, h2⟩ := h
    refine ⟨k, hk, rfl, by simpa [List.getD, hk] using h1, fun x hx => ?_⟩
    obtain ⟨j, hj, rfl⟩ := List.mem_take_iff_getElem.1 hx
    simpa using h2 j (by omega)
theorem flat_take : ∀ (l : List Mem) (i : Nat), (l.take i).flatMap cMem = (l.flatMap cMem).take (i * 4)
  | [], i => by simp
  | x :: l, 0 => by simp
  | x :: l, i + 1 => by
    rw [List.take_succ_cons, List.flatMap_cons, List.flatMap_cons, flat_take l i, show (i + 1) * 4 = (cMem x).length + i * 4 by simp; omega, List.take_length_add_append]
def Deleted (l : List Mem) (row : Option Nat) (A : Option Addr) (c : Nat) (w : World) (e : Ending) (w' : World) : Prop :=
  ∃ m, e = .returned (.slice A m c) ∧ m = (l.filter okE).length ∧ SlK w' 32 4 row A m c ((l.filter okE).flatMap cMem) ∧ Keep (fun g => row = some g) w w'
theorem take_set_snoc {α : Type} (l : List α) (i : Nat) (h : i < l.length) (x : α) : (l.set i x).take (i + 1) = l.take i ++ [x] := by
  rw [List.take_succ_eq_append_getElem (by simpa using h), List.take_set_of_le (Nat.le_refl _)]
  simp
set_option maxRecDepth 100000 in
set_option maxHeartbeats 2000000 in
theorem delete_any (row : Option Nat) (A : Option Addr) (n c : Nat) (l : List Mem) (w : World) (hl : l.length = n) (hS : SlK w 32 4 row A n c (l.flatMap cMem)) (hn : n ≤ 1000000) :
    Calls Try.prog 35 #[.slice A n c, .func (.func 37) #[] #[]] w (Deleted l row A c w) := by
  have hcn := hS.2.1
  have hcm := hS.2.2.1
  unfold maxLen at hcm
  have HS := Lib.hid hS
  have HL := Lib.hid hl
  have HR := Lib.hid (show RdMem w A n l from ⟨hl, hS.rd⟩)
  have HC := Lib.hid (idxT_cases2 joinPr l)
  clear hS hl
  go_enter Try.func35, Try.ntmps35
  go_wp2_with fail
  refine (joinidx_any A n c l w HR.out hn).mono ?_
  rintro e w1 ⟨rfl, hk1⟩
  have HK1 := Lib.hid hk1
  clear hk1
  rcases HC.out with ⟨h1, h2⟩ | ⟨k, hk, h1, h2, h3⟩
  · rw [h1]
    have HF := Lib.hid h2
    clear h1 h2
    go_wp2
    go_ret
    have hf : l.filter okE = l := List.filter_eq_self.2 fun x hx => by
      have := HF.out x hx
      simpa [joinPr] using this
    exact ⟨n, rfl, by rw [hf, HL.out], by rw [hf]; exact HS.out.keep HK1.out (fun _ _ h => h), HK1.out.mono fun _ _ h => h.elim⟩
  · rw [h1]
    have hkn : k < n := by have := HL.out; omega
    obtain ⟨g, off, hA, _, _, _, _⟩ := HR.out.at_ hkn
    subst hA
    have hrow := HS.out.row_of
    subst hrow
    have hst : l.take k = (l.take (k + 1)).filter okE := by
      rw [List.take_succ_eq_append_getElem hk, List.filter_append, List.filter_eq_self.2 (fun x hx => by have := h3 x hx; simpa [joinPr] using this)]
      have : okE l[k] = false := by simpa [joinPr, List.getD, hk] using h2
      simp [this]
    have HST := Lib.hid hst
    clear h1 h2 h3 hst hk
    have hz := zeroM
    go_wp2_with fail
    go_loopw [6, 5] (fun jv iv wr => ∃ (j i : Nat) (cur : List Mem), i < j ∧ j ≤ n ∧ jv = .int .i64 (j : Int) ∧ iv = .int .i64 (i : Int) ∧ Hid (cur.length = n) ∧ Hid (cur.take i = (l.take j).filter okE) ∧ Hid (cur.drop j = l.drop j) ∧
      Hid (SlK wr 32 4 (some g) (some ⟨g, off, none⟩) n c (cur.flatMap cMem)) ∧ Hid (Keep (fun b => some g = some b) w wr)) (fun jv _ _ => n - (intOf jv).toNat)
    case atStart => exact ⟨k + 1, k, l, by omega, by omega, by go_num, rfl, HL, HST, Lib.hid rfl, Lib.hid (HS.out.keep HK1.out (fun _ _ h => h)), Lib.hid (HK1.out.mono fun _ _ h => h.elim)⟩
    case round =>
      obtain ⟨j, i, cur, hij, hj, rfl, rfl, HCL, HCT, HCD, HCS, HCK⟩ := hrel
      by_cases hlt : j < n
      · have hjl : j < l.length := by have := HL.out; omega
        have hjc : j < cur.length := by have := HCL.out; omega
        obtain ⟨g', off', hA, c0, c1, c2, c3⟩ := (show RdMem wr (some ⟨g, off, none⟩) n cur from ⟨HCL.out, HCS.out.rd⟩).at_ hlt
        injection hA with hA; injection hA with r1 r2; subst r1 r2
        have hx : cur.getD j zeroMem = l.getD j zeroMem := by
          have h1 := congrArg (fun z => z[0]?) HCD.out
          simp only [List.getElem?_drop, Nat.add_zero] at h1
          simp [List.getD, h1]
        rw [hx] at c0 c1 c2 c3
        have hft : (l.take (j + 1)).filter okE = (l.take j).filter okE ++ (if okE (l.getD j zeroMem) then [l.getD j zeroMem] else []) := by
          rw [List.take_succ_eq_append_getElem hjl, List.filter_append]
          congr 1
          simp only [List.getD, List.getElem?_eq_getElem hjl, Option.getD_some, List.filter_cons, List.filter_nil]
        have HFT := Lib.hid hft
        have hdj : cur.drop (j + 1) = l.drop (j + 1) := by
          have := congrArg (List.drop 1) HCD.out
          simpa [List.drop_drop] using this
        have HDJ := Lib.hid hdj
        clear hx hft hdj hjl
        generalize l.getD j zeroMem = x at *
        obtain ⟨a, ic, s, m⟩ := x
        simp only at c0 c1 c2 c3
        go_wp2_with fail
        refine (joinfn_any ⟨a, ic, s, m⟩ _).mono ?_
        rintro e w2 ⟨rfl, hk2⟩
        have hka := keep0_trans _ _ _ ((Keep.refl (fun _ => False) wr).alloc (.cells #[.int .i64 a, .int .i64 ic, .int .u8 s, .int .i64 m] 32)) hk2
        have HKA := Lib.hid hka
        have hb := (Blk.new wr 32 #[.int .i64 a, .int .i64 ic, .int .u8 s, .int .i64 m]).keep hk2 (fun h => h)
        obtain ⟨d0, d1, d2, d3, _, _, _, _⟩ := blk_mem hb
        have hS2 := HCS.out.keep hka (fun _ _ h => h)
        have HS2 := Lib.hid hS2
        clear hk2 hka hb hS2 c0 c1 c2 c3
        cases hp : joinPr ⟨a, ic, s, m⟩
        · have HOK : Hid (okE ⟨a, ic, s, m⟩ = true) := Lib.hid (by simpa [joinPr] using hp)
          clear hp
          have f0 := HS2.out.cellAt (j := i * 4) (by omega)
          have f1 : w2.frozen? ⟨g, off + i * 4 + 1, none⟩ = false := HS2.out.cellAt (j := i * 4 + 1) (by omega)
          have f2 : w2.frozen? ⟨g, off + i * 4 + 2, none⟩ = false := HS2.out.cellAt (j := i * 4 + 2) (by omega)
          have f3 : w2.frozen? ⟨g, off + i * 4 + 3, none⟩ = false := HS2.out.cellAt (j := i * 4 + 3) (by omega)
          obtain ⟨g', off', hA, p0, p1, p2, p3⟩ := (show RdMem w2 (some ⟨g, off, none⟩) n cur from ⟨HCL.out, HS2.out.rd⟩).at_ (i := i) (by omega)
          injection hA with hA; injection hA with r1 r2; subst r1 r2
          go_wp2
          go_roundw
          case rel =>
            refine (fun (hgoal : ∃ (j' i' : Nat) (cur' : List Mem), i' < j' ∧ j' ≤ n ∧ Value.int .i64 ((j : Int) + 1) = .int .i64 (j' : Int) ∧ Value.int .i64 ((i : Int) + 1) = .int .i64 (i' : Int) ∧ Hid (cur'.length = n) ∧ Hid (cur'.take i' = (l.take j').filter okE) ∧ Hid (cur'.drop j' = l.drop j') ∧ Hid (SlK ((((w2.setCell ⟨g, off + i * 4, none⟩ (.int .i64 a)).setCell ⟨g, off + i * 4 + 1, none⟩ (.int .i64 ic)).setCell ⟨g, off + i * 4 + 2, none⟩ (.int .u8 s)).setCell ⟨g, off + i * 4 + 3, none⟩ (.int .i64 m)) 32 4 (some g) (some ⟨g, off, none⟩) n c (cur'.flatMap cMem)) ∧ Hid (Keep (fun b => some g = some b) w ((((w2.setCell ⟨g, off + i * 4, none⟩ (.int .i64 a)).setCell ⟨g, off + i * 4 + 1, none⟩ (.int .i64 ic)).setCell ⟨g, off + i * 4 + 2, none⟩ (.int .u8 s)).setCell ⟨g, off + i * 4 + 3, none⟩ (.int .i64 m)))) => by first | exact hgoal | ((repeat apply Exists.intro); exact ⟨hgoal, rfl⟩)) ?_
            refine ⟨j + 1, i + 1, cur.set i ⟨a, ic, s, m⟩, by omega, by omega, by go_num, by go_num, Lib.hid (by rw [List.length_set]; exact HCL.out), Lib.hid ?_, Lib.hid ?_, Lib.hid ?_, Lib.hid ?_⟩
            · rw [HFT.out, HOK.out, ← HCT.out, take_set_snoc _ _ (by have := HCL.out; omega)]; simp
            · rw [List.drop_set_of_lt (by omega)]; exact HDJ.out
            · rw [← mem_set cur i (by have := HCL.out; omega)]
              have q := (((HS2.out.setCell (j := i * 4) (by omega) (.int .i64 a)).setCell (j := i * 4 + 1) (by omega) (.int .i64 ic)).setCell (j := i * 4 + 2) (by omega) (.int .u8 s)).setCell (j := i * 4 + 3) (by omega) (.int .i64 m)
              exact q
            · exact ((((HCK.out.trans (HKA.out.mono fun _ _ h => h.elim)).setCell (fun _ => rfl) _).setCell (fun _ => rfl) _).setCell (fun _ => rfl) _).setCell (fun _ => rfl) _
          case measure => simp [intOf]; omega
        · have HOK : Hid (okE ⟨a, ic, s, m⟩ = false) := Lib.hid (by simpa [joinPr] using hp)
          clear hp
          go_wp2
          go_roundw
          case rel =>
            refine (fun (hgoal : ∃ (j' i' : Nat) (cur' : List Mem), i' < j' ∧ j' ≤ n ∧ Value.int .i64 ((j : Int) + 1) = .int .i64 (j' : Int) ∧ Value.int .i64 (i : Int) = .int .i64 (i' : Int) ∧ Hid (cur'.length = n) ∧ Hid (cur'.take i' = (l.take j').filter okE) ∧ Hid (cur'.drop j' = l.drop j') ∧ Hid (SlK w2 32 4 (some g) (some ⟨g, off, none⟩) n c (cur'.flatMap cMem)) ∧ Hid (Keep (fun b => some g = some b) w w2)) => by first | exact hgoal | ((repeat apply Exists.intro); exact ⟨hgoal, rfl⟩)) ?_
            refine ⟨j + 1, i, cur, by omega, by omega, by go_num, rfl, HCL, Lib.hid ?_, HDJ, HS2, Lib.hid ?_⟩
            · rw [HFT.out, HOK.out, HCT.out]; simp
            · exact HCK.out.trans (HKA.out.mono fun _ _ h => h.elim)
          case measure => simp [intOf]; omega
      · obtain rfl : j = n := by omega
        have hfl : cur.take i = l.filter okE := by rw [HCT.out, List.take_of_length_le (by rw [HL.out]; exact Nat.le_refl _)]
        have hil : i = (l.filter okE).length := by rw [← hfl, List.length_take, HCL.out]; omega
        obtain ⟨w', r1, r2, r3⟩ := HCS.out.clear_ (k := 4) (P := Try.prog) 22 0 _ Try.underlying22 hz rfl (by intro v hv; simp [Value.cells] at hv; rcases hv with rfl | rfl | rfl | rfl <;> rfl) i hij (c - i)
        have HFL := Lib.hid hfl
        have HIL := Lib.hid hil
        have HS' := Lib.hid r2
        have HK' := Lib.hid r3
        clear hfl hil r2 r3
        go_wp2
        go_ret
        exact ⟨i, rfl, HIL.out, by rw [← HFL.out, flat_take]; exact HS'.out, HCK.out.trans (HK'.out.mono fun _ _ h => .inl h)⟩
end Go.Proofs.Ythlfgjlnjmjppaa
