/-
  Slices of elements of k cells: an append at a step of a region that draws its order; an empty slice; one-cell slices both ways.
  slices.IndexFunc, slices.DeleteFunc with any function, slices.Clone: at IDs and at rows.
  rows.copied, rows.all: rows in new memory; the functions that rows.Gone hands on.
  A region that draws its order, in which one operation (the pivot, number p) turns more of the world than all others: XKrip with two relations. Made by gen_kpiv.py out of XKrip's text.
-/
import Derived.Test.YtgoldgamjogadaaGreatMgN1
import Derived.Test.YtgoldgamjogadaaGreatMgN7
import Derived.Lib.SliceRun
import Derived.Test.YtgoldgamjogadaaGreatMgN2
namespace Go.Proofs.YtgoldgamjogadaaGreat
open Go.RowKit
section
variable {w w' : World} {e : TypeId} {k : Nat} {row : Option Nat} {A : Option Addr} {n c : Nat} {xs : List Value}
theorem step_append_slK {P : Program} {ops : Array Oper} {o : Oper} {a : Act} {K : Act → World → Prop} {Q : Exit → Act → World → Prop} {E : Prop} (hgd : o.guard = none) (s x : Operand) (t : TypeId)
    (ho : o.op = .call { callee := .builtin .append, args := #[s, x], argTypes := #[t, t] })
    (i : TypeInfo) (z : Value) (bytes : Nat) (ht : P.underlying t = some (.slice e)) (hi : P.info? e = some i) (hz : i.zero = some z)
    (hsize : i.size = k) (hby : i.bytes = bytes) (hzs : z.cells.size = k) (hk : 0 < k) (h : SlK w e k row A n c xs) (hs : a.eval s = .slice A n c) {B : Option Addr} {m d : Nat} {ys : List Value} (hx : a.eval x = .slice B m d) (hy : RdK w k B m ys) (h1 : ∀ u ∈ ys, u.oneCell' = true)
    (h63 : n + m ≤ maxLen) (hbytes : (n + m) * bytes ≤ 140737488355328)
    (hK : ∀ row' A' c' w', SlK w' e k row' A' (n + m) c' (xs ++ ys) → ((m = 0 ∧ row' = row ∧ A' = A ∧ c' = c ∧ w' = w) ∨ Grew row A c w row' A' c' w') → K (a.put o.dst (.slice A' (n + m) c')) w') :
    if Region.wanted o (yielded ops a.tmps) = true then Oper.wp P o a w K Q else E := by
  have hw : Region.wanted o (yielded ops a.tmps) = true := by simp [Region.wanted, hgd]
  rw [if_pos hw]
  exact wp_append_slK s x t ho i z bytes ht hi hz hsize hby hzs hk h hs hx hy h1 h63 hbytes hK
/-- behind an append to memory of the call's own -/
theorem grew_both {w0 w w' : World} {row row' : Option Nat} {A A' : Option Addr} {c c' m : Nat} (h : (m = 0 ∧ row' = row ∧ A' = A ∧ c' = c ∧ w' = w) ∨ Grew row A c w row' A' c' w') (h0 : Keep (fun _ => False) w0 w) (hr : ∀ g, row = some g → w0.heap.size ≤ g) :
    Keep (fun _ => False) w0 w' ∧ ∀ g, row' = some g → w0.heap.size ≤ g := by
  rcases h with ⟨_, rfl, _, _, rfl⟩ | h
  · exact ⟨h0, hr⟩
  · exact ⟨h.keep0 h0 hr, h.own h0.size hr⟩
theorem grew_keep {w w' : World} {row row' : Option Nat} {A A' : Option Addr} {c c' m : Nat} (h : (m = 0 ∧ row' = row ∧ A' = A ∧ c' = c ∧ w' = w) ∨ Grew row A c w row' A' c' w') : Keep (fun g => row = some g) w w' := by
  rcases h with ⟨_, rfl, _, _, rfl⟩ | h
  · exact Keep.refl _ _
  · exact h.keep
theorem SlK.empty {g : Nat} (h : Blk w g e #[]) : SlK w e k (some g) (some ⟨g, 0, none⟩) 0 0 [] :=
  ⟨by simp, Nat.le_refl _, by simp [maxLen], .inr ⟨g, 0, #[], rfl, rfl, h, by simp, by simp⟩⟩
theorem RdK.one {g : Nat} {t : TypeId} {v : Value} (h : Blk w g t #[v]) : RdK w 1 (some ⟨g, 0, none⟩) 1 [v] := RdK.of_blk h 1 1 rfl
theorem Sl.toK (h : Sl w e row A n c xs) : SlK w e 1 row A n c xs :=
  ⟨by rw [h.1]; omega, h.2.1, h.2.2.1, h.2.2.2.imp id fun ⟨g, off, cur, h1, h2, h3, h4, h5⟩ => ⟨g, off, cur, h1, h2, h3, by omega, fun j hj => h5 j (by omega)⟩⟩
theorem SlK.toSl (h : SlK w e 1 row A n c xs) : Sl w e row A n c xs :=
  ⟨by rw [h.1]; omega, h.2.1, h.2.2.1, h.2.2.2.imp id fun ⟨g, off, cur, h1, h2, h3, h4, h5⟩ => ⟨g, off, cur, h1, h2, h3, by omega, fun j hj => h5 j (by omega)⟩⟩
end
end Go.Proofs.YtgoldgamjogadaaGreat

namespace Go.Proofs.YtgoldgamjogadaaGreat
open Go.RowKit Go
set_option maxRecDepth 100000

section
variable {w : World} {e : TypeId} {k : Nat} {row : Option Nat} {n c g off : Nat} {xs : List Value}
theorem SlK.setCell (h : SlK w e k row (some ⟨g, off, none⟩) n c xs) {j : Nat} (hj : j < n * k) (v : Value) : SlK (w.setCell ⟨g, off + j, none⟩ v) e k row (some ⟨g, off, none⟩) n c (xs.set j v) := by
  refine ⟨by simpa using h.1, h.2.1, h.2.2.1, ?_⟩
  rcases h.2.2.2 with ⟨_, h1, _⟩ | ⟨g', off', cur, h1, h2, hb, hs, hc⟩
  · cases h1
  · injection h2 with h2; injection h2 with q1 q2; subst q1 q2
    have hcn : n * k ≤ c * k := Nat.mul_le_mul_right k h.2.1
    refine .inr ⟨g, off, _, h1, rfl, hb.set_ (off + j) v, by simpa using hs, fun i hi => ?_⟩
    by_cases hij : i = j
    · subst hij
      rw [Array.getElem?_setIfInBounds_self_of_lt (by omega), List.getElem?_set_self (by rw [h.1]; exact hi)]
    · rw [Array.getElem?_setIfInBounds_ne (by omega), hc i hi, List.getElem?_set_ne (by omega)]
theorem SlK.row_of (h : SlK w e k row (some ⟨g, off, none⟩) n c xs) : row = some g := by
  rcases h.2.2.2 with ⟨_, h1, _⟩ | ⟨g', off', cur, h1, h2, _⟩
  · cases h1
  · injection h2 with h2; injection h2 with q1 q2; subst q1; exact h1
theorem SlK.cellAt (h : SlK w e k row (some ⟨g, off, none⟩) n c xs) {j : Nat} (_hj : j < n * k) : w.frozen? ⟨g, off + j, none⟩ = false := by
  rcases h.2.2.2 with ⟨_, h1, _⟩ | ⟨g', off', cur, h1, h2, hb, _⟩
  · cases h1
  · injection h2 with h2; injection h2 with q1 q2; subst q1; exact hb.frozen _
theorem SlK.clear_ {P : Program} (t ty : TypeId) (z : Value) (ht : P.underlying t = some (.slice e)) (hv : ∀ w, (zeroValue e).run P w = .ok z w) (hz : z.cells.size = k) (h1 : ∀ v ∈ z.cells, v.oneCell' = true)
    (h : SlK w e k row (some ⟨g, off, none⟩) n c xs) (i : Nat) (hi : i < n) (d : Nat) : ∃ w', (Builtin.clear_ #[t] ty #[.slice (some ⟨g, off + i * k, none⟩) (n - i) d]).run P w = .ok (.tuple #[]) w' ∧ SlK w' e k row (some ⟨g, off, none⟩) i c (xs.take (i * k)) ∧ Keep (fun b => row = some b) w w' := by
  have hrow := h.row_of
  rcases h.2.2.2 with ⟨_, q, _⟩ | ⟨g', off', cur, q1, q2, hb, hs, hc⟩
  · cases q
  injection q2 with q2; injection q2 with r1 r2; subst r1 r2
  have hcn : n * k ≤ c * k := Nat.mul_le_mul_right k h.2.1
  have hin : i * k + (n - i) * k = n * k := by rw [← Nat.add_mul]; congr 1; omega
  have hzl : (Builtin.zeroCells z.cells (n - i)).toList.length = (n - i) * k := by rw [Array.length_toList, size_zeroCells, hz]
  have hst := run_storeCells_cells (P := P) g (off + i * k) (Builtin.zeroCells z.cells (n - i)).toList 0 w
    (by intro j hj; rw [hzl] at hj; rw [hb.cell]; simp; omega)
    (by intro j hj; exact hb.frozen _)
    (by
      intro v hv'
      have : v ∈ Builtin.zeroCells z.cells (n - i) := by simpa using hv'
      unfold Builtin.zeroCells at this
      obtain ⟨j, hj, he⟩ := Array.mem_map.1 this
      rw [← he]
      have hj' : j < (n - i) * z.cells.size := by simpa using hj
      have hpos : 0 < z.cells.size := by
        rcases Nat.eq_zero_or_pos z.cells.size with h0 | h0
        · rw [h0, Nat.mul_zero] at hj'; omega
        · exact h0
      have hm : j % z.cells.size < z.cells.size := Nat.mod_lt _ hpos
      rw [getElem!_pos z.cells _ hm]
      exact h1 _ (Array.getElem_mem hm))
  simp only [Nat.add_zero] at hst
  obtain ⟨cs', b1, b2, b3, b4⟩ := hb.setCells (off + i * k) (Builtin.zeroCells z.cells (n - i)).toList
  refine ⟨_, ?_, ⟨by rw [List.length_take, h.1]; exact Nat.min_eq_left (Nat.mul_le_mul_right k (by omega)), by have := h.2.1; omega, h.2.2.1, .inr ⟨g, off, cs', hrow, rfl, b1, by omega, fun j hj => ?_⟩⟩, (Keep.refl (fun b => row = some b) w).setCells (fun _ => hrow) _ _⟩
  · obtain ⟨m, hm⟩ : ∃ m, n - i = m + 1 := ⟨n - i - 1, by omega⟩
    rw [hm] at hst ⊢
    simp [Builtin.clear_, run_underlying ht, hv, hst]
  · have : i * k ≤ n * k := Nat.mul_le_mul_right k (by omega)
    rw [b3 (off + j) (by omega), hc j (by omega), List.getElem?_take_of_lt hj]
end
theorem take_set_snoc {α : Type} (l : List α) (i : Nat) (h : i < l.length) (x : α) : (l.set i x).take (i + 1) = l.take i ++ [x] := by
  rw [List.take_succ_eq_append_getElem (by simpa using h), List.take_set_of_le (Nat.le_refl _)]
  simp
/-- a function handed in that tells p of an element, of what stands in w0, whatever becomes of T's blocks -/
def FnT {α : Type} (v : α → Value) (f : FuncId) (caps : Array Value) (p : α → Bool) (T : Nat → Prop) (w0 : World) : Prop :=
  (∀ args w, (callFunc f args).run Tryz.prog w = .ok (.enter f args) w) ∧ ∀ x W, Keep T w0 W → Calls Tryz.prog f (#[v x] ++ caps) W (Tell (.bool (p x)) W)
def IdxIs {α : Type} (p : α → Bool) (l : List α) (d : α) (r : Int) : Prop :=
  (r = -1 ∧ ∀ x ∈ l, p x = false) ∨ ∃ k : Nat, k < l.length ∧ r = (k : Int) ∧ p (l.getD k d) = true ∧ ∀ x ∈ l.take k, p x = false
theorem take_no {α : Type} {p : α → Bool} {l : List α} {d : α} {k : Nat} (hk : k < l.length) (h : ∀ x ∈ l.take k, p x = false) (hp : p (l.getD k d) = false) : ∀ x ∈ l.take (k + 1), p x = false := by
  rw [List.take_succ_eq_append_getElem hk]
  intro x hx
  rcases List.mem_append.1 hx with hx | hx
  · exact h x hx
  · simp only [List.getD, List.getElem?_eq_getElem hk] at hp
    rw [List.mem_singleton.1 hx]; simpa using hp
structure RowV where
  of : ID
  ver : Int
  A : Option Addr
  n : Nat
  c : Nat
abbrev cRow (r : RowV) : List Value := [.int .i64 r.of.1, .int .i64 r.of.2, .int .i64 r.ver, .slice r.A r.n r.c]
abbrev rowV (r : RowV) : Value := .agg #[.int .i64 r.of.1, .int .i64 r.of.2, .int .i64 r.ver, .slice r.A r.n r.c]
def zrow : RowV := ⟨(0, 0), 0, none, 0, 0⟩
def RdRv (w : World) (A : Option Addr) (n : Nat) (l : List RowV) : Prop := l.length = n ∧ RdK w 4 A n (l.flatMap cRow)
theorem RdRv.keep0 {w w' : World} {A : Option Addr} {n : Nat} {l : List RowV} (h : RdRv w A n l) (hk : Keep (fun _ => False) w w') : RdRv w' A n l := ⟨h.1, h.2.keep0 hk⟩
theorem RdRv.at_ {w : World} {A : Option Addr} {n : Nat} {l : List RowV} (h : RdRv w A n l) {i : Nat} (hi : i < n) : ∃ g off, A = some ⟨g, off, none⟩ ∧ w.cell? ⟨g, off + i * 4, none⟩ = some (.int .i64 (l.getD i zrow).of.1) ∧ w.cell? ⟨g, off + i * 4 + 1, none⟩ = some (.int .i64 (l.getD i zrow).of.2) ∧
    w.cell? ⟨g, off + i * 4 + 2, none⟩ = some (.int .i64 (l.getD i zrow).ver) ∧ w.cell? ⟨g, off + i * 4 + 3, none⟩ = some (.slice (l.getD i zrow).A (l.getD i zrow).n (l.getD i zrow).c) := by
  have hl : i < l.length := by rw [h.1]; exact hi
  have e : l.getD i zrow = l[i] := by simp [List.getD, hl]
  have go : ∀ j, j < 4 → ∃ g off v, A = some ⟨g, off, none⟩ ∧ (cRow l[i])[j]? = some v ∧ w.cell? ⟨g, off + i * 4 + j, none⟩ = some v := by
    intro j hj
    obtain ⟨g, off, v, h1, h2, h3⟩ := h.2.2 (i * 4 + j) (by omega)
    have fg := flat_get cRow 4 (fun _ => rfl) l i j hl hj
    rw [h2] at fg
    exact ⟨g, off, v, h1, fg.symm, by rw [Nat.add_assoc]; exact h3⟩
  obtain ⟨g, off, v0, h1, h2, h3⟩ := go 0 (by omega)
  obtain ⟨g1, off1, v1, k1, k2, k3⟩ := go 1 (by omega)
  obtain ⟨g2, off2, v2, m1, m2, m3⟩ := go 2 (by omega)
  obtain ⟨g3, off3, v3, n1, n2, n3⟩ := go 3 (by omega)
  rw [h1] at k1 m1 n1
  injection k1 with k1; injection k1 with q1 q2; subst q1 q2
  injection m1 with m1; injection m1 with q1 q2; subst q1 q2
  injection n1 with n1; injection n1 with q1 q2; subst q1 q2
  simp at h2 k2 m2 n2
  rw [e]
  subst h2 k2 m2 n2
  exact ⟨g, off, h1, by simpa using h3, k3, m3, n3⟩
theorem info_row : (Tryz.prog.info? 37).map (fun i => (i.zero, i.size, i.bytes)) = some (some (.agg #[.int .i64 0, .int .i64 0, .int .i64 0, .slice none 0 0]), 4, 48) := by kernel_rfl
theorem info_id : (Tryz.prog.info? 24).map (fun i => (i.zero, i.size, i.bytes)) = some (some (.agg #[.int .i64 0, .int .i64 0]), 2, 16) := by kernel_rfl
theorem set_id : ∀ (l : List ID) (i : Nat), i < l.length → ∀ x : ID, (((l.flatMap cID).set (i * 2) (.int .i64 x.1)).set (i * 2 + 1) (.int .i64 x.2)) = (l.set i x).flatMap cID
  | y :: l, 0, _, x => by simp
  | y :: l, i + 1, h, x => by
    have ih := set_id l i (by simpa using h) x
    rw [List.set_cons_succ, List.flatMap_cons, List.flatMap_cons, ← ih]
    rw [show (i + 1) * 2 = (cID y).length + i * 2 by simp; omega]
    simp only [Nat.add_assoc]
    rw [List.set_append_right _ _ (by omega), Nat.add_sub_cancel_left, List.set_append_right _ _ (by omega), Nat.add_sub_cancel_left]
theorem one_id (l : List ID) : ∀ u ∈ l.flatMap cID, u.oneCell' = true := by
  intro u hu
  obtain ⟨x, _, hx⟩ := List.mem_flatMap.1 hu
  simp at hx
  rcases hx with rfl | rfl <;> rfl
theorem zero_id (w : World) : (zeroValue 24).run Tryz.prog w = .ok (.agg #[.int .i64 0, .int .i64 0]) w := by kernel_rfl
theorem ftake_id : ∀ (l : List ID) (i : Nat), (l.take i).flatMap cID = (l.flatMap cID).take (i * 2)
  | [], i => by simp
  | x :: l, 0 => by simp
  | x :: l, i + 1 => by
    rw [List.take_succ_cons, List.flatMap_cons, List.flatMap_cons, ftake_id l i, show (i + 1) * 2 = (cID x).length + i * 2 by simp; omega, List.take_length_add_append]
set_option maxHeartbeats 2000000 in
theorem idx_id (f : FuncId) (caps : Array Value) (p : ID → Bool) (T : Nat → Prop) (A : Option Addr) (n c : Nat) (l : List ID) (w : World) (hf : FnT idV f caps p T w) (h : RdI w A n l) (hn : n ≤ 9223372036854775806) :
    Calls Tryz.prog 85 #[.slice A n c, .func (.func f) #[] caps] w (fun e w' => (∃ i : Int, e = .returned (.int .i64 i) ∧ IdxIs p l ((0, 0) : ID) i) ∧ Keep (fun _ => False) w w') := by
  have HL := Lib.hid h.1
  have HR := Lib.hid h
  have eg := hf.1
  have HF := Lib.hid hf.2
  clear h hf
  go_enter Tryz.func85, Tryz.ntmps85
  go_wp2
  go_loopw [8] (fun j wr => ∃ k : Nat, k ≤ n ∧ j = .int .i64 (k : Int) ∧ Hid (∀ x ∈ l.take k, p x = false) ∧ Hid (Keep (fun _ => False) w wr)) (fun j _ => n - (intOf j).toNat)
  case atStart => exact ⟨0, by omega, rfl, Lib.hid (by simp), Lib.hid (Keep.refl _ _)⟩
  case round =>
    obtain ⟨k, hk, rfl, HN, HK⟩ := hrel
    by_cases hlt : k < n
    · obtain ⟨g, off, rfl, c0, c1⟩ := (HR.out.keep0 HK.out).at_ hlt
      have hkl : k < l.length := by rw [HL.out]; exact hlt
      have HX := Lib.hid (fun he => take_no (p := p) (l := l) (d := ((0, 0) : ID)) (k := k) hkl HN.out he)
      have HY := Lib.hid (show p (l.getD k ((0, 0) : ID)) = true → IdxIs p l ((0, 0) : ID) (k : Int) from fun he => .inr ⟨k, hkl, rfl, he, HN.out⟩)
      clear hkl
      generalize l.getD k ((0, 0) : ID) = x at *
      obtain ⟨a, i0⟩ := x
      simp only at c0 c1
      have hkI : (k : Int) < (n : Int) := by omega
      have hkJ : (0 : Int) ≤ (k : Int) := by omega
      have e2 : IntKind.i64.wrap ((k : Int) + 1) = (k : Int) + 1 := IntWalk.i64_in _ (by omega)
      go_wp2_with fail
      refine (HF.out ⟨a, i0⟩ _ (HK.out.mono fun _ _ h => h.elim)).mono ?_
      rintro e w1 ⟨rfl, hk1⟩
      have HK1 := Lib.hid (keep0_trans _ _ _ HK.out hk1)
      clear hk1 c0 c1
      rcases Bool.eq_false_or_eq_true (p ⟨a, i0⟩) with hp | hp
      · rw [hp]
        have HP := Lib.hid (HY.out hp)
        clear hp
        go_wp2
        go_ret
        exact ⟨⟨_, rfl, HP.out⟩, HK1.out⟩
      · rw [hp]
        have HP := Lib.hid (HX.out hp)
        clear hp
        go_wp2
        go_roundw
        case rel => exact ⟨k + 1, by omega, by go_num, HP, HK1⟩
        case measure => simp [intOf]; omega
    · obtain rfl : k = n := by omega
      have HM := Lib.hid (show ∀ x ∈ l, p x = false by have := HN.out; rwa [List.take_of_length_le (by rw [HL.out]; exact Nat.le_refl _)] at this)
      go_wp2
      go_ret
      exact ⟨⟨-1, rfl, .inl ⟨rfl, HM.out⟩⟩, HK.out⟩
def Deleted_id (p : ID → Bool) (l : List ID) (row : Option Nat) (A : Option Addr) (c : Nat) (w : World) (e : Ending) (w' : World) : Prop :=
  ∃ m, e = .returned (.slice A m c) ∧ m = (l.filter (fun x => !p x)).length ∧ SlK w' 24 2 row A m c ((l.filter (fun x => !p x)).flatMap cID) ∧ Keep (fun g => row = some g) w w'
set_option maxHeartbeats 4000000 in
theorem delete_id (f : FuncId) (caps : Array Value) (p : ID → Bool) (row : Option Nat) (A : Option Addr) (n c : Nat) (l : List ID) (w : World) (hf : FnT idV f caps p (fun g => row = some g) w) (hl : l.length = n) (hS : SlK w 24 2 row A n c (l.flatMap cID)) (hn : n ≤ 1000000) :
    Calls Tryz.prog 70 #[.slice A n c, .func (.func f) #[] caps] w (Deleted_id p l row A c w) := by
  have hcn := hS.2.1
  have hcm := hS.2.2.1
  unfold maxLen at hcm
  have HS := Lib.hid hS
  have HL := Lib.hid hl
  have HR := Lib.hid (show RdI w A n l from ⟨hl, hS.rd⟩)
  have HF := Lib.hid hf
  have eg := hf.1
  clear hS hl hf
  go_enter Tryz.func70, Tryz.ntmps70
  go_wp2_with fail
  refine (idx_id f caps p _ A n c l w HF.out HR.out (by omega)).mono ?_
  rintro e w1 ⟨⟨r, rfl, hr⟩, hk1⟩
  have HK1 := Lib.hid hk1
  clear hk1
  rcases hr with ⟨rfl, h2⟩ | ⟨k, hk, rfl, h2, h3⟩
  · have HNo := Lib.hid h2
    clear h2
    go_wp2
    go_ret
    have hf : l.filter (fun x => !p x) = l := List.filter_eq_self.2 fun x hx => by simp [HNo.out x hx]
    exact ⟨n, rfl, by rw [hf, HL.out], by rw [hf]; exact HS.out.keep HK1.out (fun _ _ h => h), HK1.out.mono fun _ _ h => h.elim⟩
  · have hkn : k < n := by have := HL.out; omega
    obtain ⟨g, off, hA, _, _⟩ := HR.out.at_ hkn
    subst hA
    have hrow := HS.out.row_of
    subst hrow
    have hst : l.take k = (l.take (k + 1)).filter (fun x => !p x) := by
      rw [List.take_succ_eq_append_getElem hk, List.filter_append, List.filter_eq_self.2 (fun x hx => by simp [h3 x hx])]
      have : p l[k] = true := by simpa [List.getD, hk] using h2
      simp [this]
    have HST := Lib.hid hst
    clear h2 h3 hst hk
    have hz := zero_id
    go_wp2_with fail
    go_loopw [6, 5] (fun jv iv wr => ∃ (j i : Nat) (cur : List ID), i < j ∧ j ≤ n ∧ jv = .int .i64 (j : Int) ∧ iv = .int .i64 (i : Int) ∧ Hid (cur.length = n) ∧ Hid (cur.take i = (l.take j).filter (fun x => !p x)) ∧ Hid (cur.drop j = l.drop j) ∧
      Hid (SlK wr 24 2 (some g) (some ⟨g, off, none⟩) n c (cur.flatMap cID)) ∧ Hid (Keep (fun b => some g = some b) w wr)) (fun jv _ _ => n - (intOf jv).toNat)
    case atStart => exact ⟨k + 1, k, l, by omega, by omega, by go_num, rfl, HL, HST, Lib.hid rfl, Lib.hid (HS.out.keep HK1.out (fun _ _ h => h)), Lib.hid (HK1.out.mono fun _ _ h => h.elim)⟩
    case round =>
      obtain ⟨j, i, cur, hij, hj, rfl, rfl, HCL, HCT, HCD, HCS, HCK⟩ := hrel
      by_cases hlt : j < n
      · have hjl : j < l.length := by have := HL.out; omega
        have hjc : j < cur.length := by have := HCL.out; omega
        obtain ⟨g', off', hA, c0, c1⟩ := (show RdI wr (some ⟨g, off, none⟩) n cur from ⟨HCL.out, HCS.out.rd⟩).at_ hlt
        injection hA with hA; injection hA with r1 r2; subst r1 r2
        have hx : cur.getD j ((0, 0) : ID) = l.getD j ((0, 0) : ID) := by
          have h1 := congrArg (fun z => z[0]?) HCD.out
          simp only [List.getElem?_drop, Nat.add_zero] at h1
          simp [List.getD, h1]
        rw [hx] at c0 c1
        have hft : (l.take (j + 1)).filter (fun x => !p x) = (l.take j).filter (fun x => !p x) ++ (if p (l.getD j ((0, 0) : ID)) then [] else [l.getD j ((0, 0) : ID)]) := by
          rw [List.take_succ_eq_append_getElem hjl, List.filter_append]
          congr 1
          simp only [List.getD, List.getElem?_eq_getElem hjl, Option.getD_some, List.filter_cons, List.filter_nil]
          cases p l[j] <;> rfl
        have HFT := Lib.hid hft
        have hdj : cur.drop (j + 1) = l.drop (j + 1) := by
          have := congrArg (List.drop 1) HCD.out
          simpa [List.drop_drop] using this
        have HDJ := Lib.hid hdj
        clear hx hft hdj hjl
        generalize l.getD j ((0, 0) : ID) = x at *
        obtain ⟨a, i0⟩ := x
        simp only at c0 c1
        go_wp2_with fail
        refine (HF.out.2 ⟨a, i0⟩ _ ((HCK.out).alloc _)).mono ?_
        rintro e w2 ⟨rfl, hk2⟩
        have hka := keep0_trans _ _ _ ((Keep.refl (fun _ => False) wr).alloc (.cells #[.int .i64 a, .int .i64 i0] 24)) hk2
        have HKA := Lib.hid hka
        have hb := (Blk.new wr 24 #[.int .i64 a, .int .i64 i0]).keep hk2 (fun h => h)
        have d0 := hb.cell 0
        have d1 := hb.cell 1
        simp at d0 d1
        have hS2 := HCS.out.keep hka (fun _ _ h => h)
        have HS2 := Lib.hid hS2
        clear hk2 hka hb hS2 c0 c1
        rcases Bool.eq_false_or_eq_true (p ⟨a, i0⟩) with hp | hp
        · rw [hp]
          have HOK := Lib.hid hp
          clear hp
          go_wp2
          go_roundw
          case rel =>
            refine (fun (hgoal : ∃ (j' i' : Nat) (cur' : List ID), i' < j' ∧ j' ≤ n ∧ Value.int .i64 ((j : Int) + 1) = .int .i64 (j' : Int) ∧ Value.int .i64 (i : Int) = .int .i64 (i' : Int) ∧ Hid (cur'.length = n) ∧ Hid (cur'.take i' = (l.take j').filter (fun x => !p x)) ∧ Hid (cur'.drop j' = l.drop j') ∧ Hid (SlK w2 24 2 (some g) (some ⟨g, off, none⟩) n c (cur'.flatMap cID)) ∧ Hid (Keep (fun b => some g = some b) w w2)) => ?_) ?_
            · first | exact hgoal | ((repeat apply Exists.intro); exact ⟨hgoal, rfl⟩)
            · refine ⟨j + 1, i, cur, by omega, by omega, by go_num, rfl, HCL, Lib.hid ?_, HDJ, HS2, Lib.hid ?_⟩
              · rw [HFT.out, HOK.out, HCT.out]; simp
              · exact HCK.out.trans (HKA.out.mono fun _ _ h => h.elim)
          case measure => simp [intOf]; omega
        · rw [hp]
          have HOK := Lib.hid hp
          clear hp
          have f0 := HS2.out.cellAt (j := i * 2) (by omega)
          have f1 : w2.frozen? ⟨g, off + i * 2 + 1, none⟩ = false := HS2.out.cellAt (j := i * 2 + 1) (by omega)
          obtain ⟨g', off', hA, p0, p1⟩ := (show RdI w2 (some ⟨g, off, none⟩) n cur from ⟨HCL.out, HS2.out.rd⟩).at_ (i := i) (by omega)
          injection hA with hA; injection hA with r1 r2; subst r1 r2
          go_wp2
          go_roundw
          case rel =>
            have hgoal : ∃ (j' i' : Nat) (cur' : List ID), i' < j' ∧ j' ≤ n ∧ Value.int .i64 ((j : Int) + 1) = .int .i64 (j' : Int) ∧ Value.int .i64 ((i : Int) + 1) = .int .i64 (i' : Int) ∧ Hid (cur'.length = n) ∧ Hid (cur'.take i' = (l.take j').filter (fun x => !p x)) ∧ Hid (cur'.drop j' = l.drop j') ∧ Hid (SlK (((w2.setCell ⟨g, off + i * 2, none⟩ (.int .i64 a)).setCell ⟨g, off + i * 2 + 1, none⟩ (.int .i64 i0))) 24 2 (some g) (some ⟨g, off, none⟩) n c (cur'.flatMap cID)) ∧ Hid (Keep (fun b => some g = some b) w (((w2.setCell ⟨g, off + i * 2, none⟩ (.int .i64 a)).setCell ⟨g, off + i * 2 + 1, none⟩ (.int .i64 i0)))) := by
              refine ⟨j + 1, i + 1, cur.set i ⟨a, i0⟩, by omega, by omega, by go_num, by go_num, Lib.hid (by rw [List.length_set]; exact HCL.out), Lib.hid ?_, Lib.hid ?_, Lib.hid ?_, Lib.hid ?_⟩
              · rw [HFT.out, HOK.out, ← HCT.out, take_set_snoc _ _ (by have := HCL.out; omega)]; simp
              · rw [List.drop_set_of_lt (by omega)]; exact HDJ.out
              · rw [← set_id cur i (by have := HCL.out; omega)]
                exact ((HS2.out.setCell (j := i * 2) (by omega) (.int .i64 a)).setCell (j := i * 2 + 1) (by omega) (.int .i64 i0))
              · exact ((HCK.out.trans (HKA.out.mono fun _ _ h => h.elim)).setCell (fun _ => rfl) _).setCell (fun _ => rfl) _
            first | exact hgoal | ((repeat apply Exists.intro); exact ⟨hgoal, rfl⟩)
          case measure => simp [intOf]; omega
      · obtain rfl : j = n := by omega
        have hfl : cur.take i = l.filter (fun x => !p x) := by rw [HCT.out, List.take_of_length_le (by rw [HL.out]; exact Nat.le_refl _)]
        have hil : i = (l.filter (fun x => !p x)).length := by rw [← hfl, List.length_take, HCL.out]; omega
        obtain ⟨w', r1, r2, r3⟩ := HCS.out.clear_ (k := 2) (P := Tryz.prog) 29 0 _ Tryz.underlying29 hz rfl (by intro v hv; simp [Value.cells] at hv; rcases hv with rfl | rfl <;> rfl) i hij (c - i)
        have HFL := Lib.hid hfl
        have HIL := Lib.hid hil
        have HS' := Lib.hid r2
        have HK' := Lib.hid r3
        clear hfl hil r2 r3
        go_wp2
        go_ret
        exact ⟨i, rfl, HIL.out, by rw [← HFL.out, ftake_id]; exact HS'.out, HCK.out.trans (HK'.out.mono fun _ _ h => .inl h)⟩
def Cloned_id (l : List ID) (w : World) (e : Ending) (w' : World) : Prop :=
  ∃ row A c, e = .returned (.slice A l.length c) ∧ SlK w' 24 2 row A l.length c (l.flatMap cID) ∧ (∀ g, row = some g → w.heap.size ≤ g) ∧ Keep (fun _ => False) w w'
set_option maxHeartbeats 1000000 in
theorem clone_id (A : Option Addr) (n c : Nat) (l : List ID) (w : World) (h : RdI w A n l) (hn : n ≤ 1000000) :
    Calls Tryz.prog 102 #[.slice A n c] w (Cloned_id l w) := by
  obtain ⟨hl, hr⟩ := h
  have hnil := fun w => Lib.run_eql_slice_nil (P := Tryz.prog) w 29 24 A n c 0 0 Tryz.underlying29
  cases A with
  | none =>
    obtain rfl : n = 0 := by
      rcases Nat.eq_zero_or_pos n with h0 | h0
      · exact h0
      · obtain ⟨g, off, v, q, _⟩ := hr.2 0 (by omega); cases q
    obtain rfl : l = [] := List.eq_nil_of_length_eq_zero hl
    go_enter Tryz.func102, Tryz.ntmps102
    go_wp2
    go_ret
    exact ⟨none, none, 0, rfl, SlK.nil_ _ _ _, (fun g h => by cases h), Keep.refl _ _⟩
  | some A0 =>
    obtain ⟨g0, off0, s0⟩ := A0
    subst hl
    obtain ⟨i, hi, hz, hs, hby⟩ := info_parts info_id
    have HI := Lib.hid hi
    have HZ := Lib.hid hz
    have HS := Lib.hid hs
    have HBY := Lib.hid hby
    have HR := Lib.hid hr
    clear hi hz hs hby hr
    go_enter Tryz.func102, Tryz.ntmps102
    go_wp2_with (at_builtin; go_loud (refine wpList_append_slK rfl _ _ _ rfl i _ 16 Tryz.underlying29 HI.out HZ.out HS.out HBY.out rfl (by decide) (SlK.empty (Blk.new w 24 #[])) rfl rfl (HR.out.keep0 ((Keep.refl _ w).alloc _)) (one_id l) (by unfold maxLen; omega) (by omega) ?_; intro row' A' c' w' hs2 hk2; have HS2 := Lib.hid hs2; have HK2 := Lib.hid (grew_both hk2 ((Keep.refl (fun _ => False) w).alloc _) (fun g hg => by injection hg with hg; omega)); clear hs2 hk2))
    go_ret
    exact ⟨row', A', c', rfl, by have := HS2.out; rwa [List.nil_append, Nat.zero_add] at this, HK2.out.2, HK2.out.1⟩
theorem set_row : ∀ (l : List RowV) (i : Nat), i < l.length → ∀ x : RowV, (((((l.flatMap cRow).set (i * 4) (.int .i64 x.of.1)).set (i * 4 + 1) (.int .i64 x.of.2)).set (i * 4 + 2) (.int .i64 x.ver)).set (i * 4 + 3) (.slice x.A x.n x.c)) = (l.set i x).flatMap cRow
  | y :: l, 0, _, x => by simp
  | y :: l, i + 1, h, x => by
    have ih := set_row l i (by simpa using h) x
    rw [List.set_cons_succ, List.flatMap_cons, List.flatMap_cons, ← ih]
    rw [show (i + 1) * 4 = (cRow y).length + i * 4 by simp; omega]
    simp only [Nat.add_assoc]
    rw [List.set_append_right _ _ (by omega), Nat.add_sub_cancel_left, List.set_append_right _ _ (by omega), Nat.add_sub_cancel_left, List.set_append_right _ _ (by omega), Nat.add_sub_cancel_left, List.set_append_right _ _ (by omega), Nat.add_sub_cancel_left]
theorem one_row (l : List RowV) : ∀ u ∈ l.flatMap cRow, u.oneCell' = true := by
  intro u hu
  obtain ⟨x, _, hx⟩ := List.mem_flatMap.1 hu
  simp at hx
  rcases hx with rfl | rfl | rfl | rfl <;> rfl
theorem zero_row (w : World) : (zeroValue 37).run Tryz.prog w = .ok (.agg #[.int .i64 0, .int .i64 0, .int .i64 0, .slice none 0 0]) w := by kernel_rfl
theorem ftake_row : ∀ (l : List RowV) (i : Nat), (l.take i).flatMap cRow = (l.flatMap cRow).take (i * 4)
  | [], i => by simp
  | x :: l, 0 => by simp
  | x :: l, i + 1 => by
    rw [List.take_succ_cons, List.flatMap_cons, List.flatMap_cons, ftake_row l i, show (i + 1) * 4 = (cRow x).length + i * 4 by simp; omega, List.take_length_add_append]
set_option maxHeartbeats 2000000 in
theorem idx_row (f : FuncId) (caps : Array Value) (p : RowV → Bool) (T : Nat → Prop) (A : Option Addr) (n c : Nat) (l : List RowV) (w : World) (hf : FnT rowV f caps p T w) (h : RdRv w A n l) (hn : n ≤ 9223372036854775806) :
    Calls Tryz.prog 87 #[.slice A n c, .func (.func f) #[] caps] w (fun e w' => (∃ i : Int, e = .returned (.int .i64 i) ∧ IdxIs p l zrow i) ∧ Keep (fun _ => False) w w') := by
  have HL := Lib.hid h.1
  have HR := Lib.hid h
  have eg := hf.1
  have HF := Lib.hid hf.2
  clear h hf
  go_enter Tryz.func87, Tryz.ntmps87
  go_wp2
  go_loopw [8] (fun j wr => ∃ k : Nat, k ≤ n ∧ j = .int .i64 (k : Int) ∧ Hid (∀ x ∈ l.take k, p x = false) ∧ Hid (Keep (fun _ => False) w wr)) (fun j _ => n - (intOf j).toNat)
  case atStart => exact ⟨0, by omega, rfl, Lib.hid (by simp), Lib.hid (Keep.refl _ _)⟩
  case round =>
    obtain ⟨k, hk, rfl, HN, HK⟩ := hrel
    by_cases hlt : k < n
    · obtain ⟨g, off, rfl, c0, c1, c2, c3⟩ := (HR.out.keep0 HK.out).at_ hlt
      have hkl : k < l.length := by rw [HL.out]; exact hlt
      have HX := Lib.hid (fun he => take_no (p := p) (l := l) (d := zrow) (k := k) hkl HN.out he)
      have HY := Lib.hid (show p (l.getD k zrow) = true → IdxIs p l zrow (k : Int) from fun he => .inr ⟨k, hkl, rfl, he, HN.out⟩)
      clear hkl
      generalize l.getD k zrow = x at *
      obtain ⟨⟨a, i0⟩, ver, An, nn, cn⟩ := x
      simp only at c0 c1 c2 c3
      have hkI : (k : Int) < (n : Int) := by omega
      have hkJ : (0 : Int) ≤ (k : Int) := by omega
      have e2 : IntKind.i64.wrap ((k : Int) + 1) = (k : Int) + 1 := IntWalk.i64_in _ (by omega)
      go_wp2_with fail
      refine (HF.out ⟨⟨a, i0⟩, ver, An, nn, cn⟩ _ (HK.out.mono fun _ _ h => h.elim)).mono ?_
      rintro e w1 ⟨rfl, hk1⟩
      have HK1 := Lib.hid (keep0_trans _ _ _ HK.out hk1)
      clear hk1 c0 c1 c2 c3
      rcases Bool.eq_false_or_eq_true (p ⟨⟨a, i0⟩, ver, An, nn, cn⟩) with hp | hp
      · rw [hp]
        have HP := Lib.hid (HY.out hp)
        clear hp
        go_wp2
        go_ret
        exact ⟨⟨_, rfl, HP.out⟩, HK1.out⟩
      · rw [hp]
        have HP := Lib.hid (HX.out hp)
        clear hp
        go_wp2
        go_roundw
        case rel => exact ⟨k + 1, by omega, by go_num, HP, HK1⟩
        case measure => simp [intOf]; omega
    · obtain rfl : k = n := by omega
      have HM := Lib.hid (show ∀ x ∈ l, p x = false by have := HN.out; rwa [List.take_of_length_le (by rw [HL.out]; exact Nat.le_refl _)] at this)
      go_wp2
      go_ret
      exact ⟨⟨-1, rfl, .inl ⟨rfl, HM.out⟩⟩, HK.out⟩
def Deleted_row (p : RowV → Bool) (l : List RowV) (row : Option Nat) (A : Option Addr) (c : Nat) (w : World) (e : Ending) (w' : World) : Prop :=
  ∃ m, e = .returned (.slice A m c) ∧ m = (l.filter (fun x => !p x)).length ∧ SlK w' 37 4 row A m c ((l.filter (fun x => !p x)).flatMap cRow) ∧ Keep (fun g => row = some g) w w'
set_option maxHeartbeats 4000000 in
theorem delete_row (f : FuncId) (caps : Array Value) (p : RowV → Bool) (row : Option Nat) (A : Option Addr) (n c : Nat) (l : List RowV) (w : World) (hf : FnT rowV f caps p (fun g => row = some g) w) (hl : l.length = n) (hS : SlK w 37 4 row A n c (l.flatMap cRow)) (hn : n ≤ 1000000) :
    Calls Tryz.prog 67 #[.slice A n c, .func (.func f) #[] caps] w (Deleted_row p l row A c w) := by
  have hcn := hS.2.1
  have hcm := hS.2.2.1
  unfold maxLen at hcm
  have HS := Lib.hid hS
  have HL := Lib.hid hl
  have HR := Lib.hid (show RdRv w A n l from ⟨hl, hS.rd⟩)
  have HF := Lib.hid hf
  have eg := hf.1
  clear hS hl hf
  go_enter Tryz.func67, Tryz.ntmps67
  go_wp2_with fail
  refine (idx_row f caps p _ A n c l w HF.out HR.out (by omega)).mono ?_
  rintro e w1 ⟨⟨r, rfl, hr⟩, hk1⟩
  have HK1 := Lib.hid hk1
  clear hk1
  rcases hr with ⟨rfl, h2⟩ | ⟨k, hk, rfl, h2, h3⟩
  · have HNo := Lib.hid h2
    clear h2
    go_wp2
    go_ret
    have hf : l.filter (fun x => !p x) = l := List.filter_eq_self.2 fun x hx => by simp [HNo.out x hx]
    exact ⟨n, rfl, by rw [hf, HL.out], by rw [hf]; exact HS.out.keep HK1.out (fun _ _ h => h), HK1.out.mono fun _ _ h => h.elim⟩
  · have hkn : k < n := by have := HL.out; omega
    obtain ⟨g, off, hA, _, _, _, _⟩ := HR.out.at_ hkn
    subst hA
    have hrow := HS.out.row_of
    subst hrow
    have hst : l.take k = (l.take (k + 1)).filter (fun x => !p x) := by
      rw [List.take_succ_eq_append_getElem hk, List.filter_append, List.filter_eq_self.2 (fun x hx => by simp [h3 x hx])]
      have : p l[k] = true := by simpa [List.getD, hk] using h2
      simp [this]
    have HST := Lib.hid hst
    clear h2 h3 hst hk
    have hz := zero_row
    go_wp2_with fail
    go_loopw [6, 5] (fun jv iv wr => ∃ (j i : Nat) (cur : List RowV), i < j ∧ j ≤ n ∧ jv = .int .i64 (j : Int) ∧ iv = .int .i64 (i : Int) ∧ Hid (cur.length = n) ∧ Hid (cur.take i = (l.take j).filter (fun x => !p x)) ∧ Hid (cur.drop j = l.drop j) ∧
      Hid (SlK wr 37 4 (some g) (some ⟨g, off, none⟩) n c (cur.flatMap cRow)) ∧ Hid (Keep (fun b => some g = some b) w wr)) (fun jv _ _ => n - (intOf jv).toNat)
    case atStart => exact ⟨k + 1, k, l, by omega, by omega, by go_num, rfl, HL, HST, Lib.hid rfl, Lib.hid (HS.out.keep HK1.out (fun _ _ h => h)), Lib.hid (HK1.out.mono fun _ _ h => h.elim)⟩
    case round =>
      obtain ⟨j, i, cur, hij, hj, rfl, rfl, HCL, HCT, HCD, HCS, HCK⟩ := hrel
      by_cases hlt : j < n
      · have hjl : j < l.length := by have := HL.out; omega
        have hjc : j < cur.length := by have := HCL.out; omega
        obtain ⟨g', off', hA, c0, c1, c2, c3⟩ := (show RdRv wr (some ⟨g, off, none⟩) n cur from ⟨HCL.out, HCS.out.rd⟩).at_ hlt
        injection hA with hA; injection hA with r1 r2; subst r1 r2
        have hx : cur.getD j zrow = l.getD j zrow := by
          have h1 := congrArg (fun z => z[0]?) HCD.out
          simp only [List.getElem?_drop, Nat.add_zero] at h1
          simp [List.getD, h1]
        rw [hx] at c0 c1 c2 c3
        have hft : (l.take (j + 1)).filter (fun x => !p x) = (l.take j).filter (fun x => !p x) ++ (if p (l.getD j zrow) then [] else [l.getD j zrow]) := by
          rw [List.take_succ_eq_append_getElem hjl, List.filter_append]
          congr 1
          simp only [List.getD, List.getElem?_eq_getElem hjl, Option.getD_some, List.filter_cons, List.filter_nil]
          cases p l[j] <;> rfl
        have HFT := Lib.hid hft
        have hdj : cur.drop (j + 1) = l.drop (j + 1) := by
          have := congrArg (List.drop 1) HCD.out
          simpa [List.drop_drop] using this
        have HDJ := Lib.hid hdj
        clear hx hft hdj hjl
        generalize l.getD j zrow = x at *
        obtain ⟨⟨a, i0⟩, ver, An, nn, cn⟩ := x
        simp only at c0 c1 c2 c3
        go_wp2_with fail
        refine (HF.out.2 ⟨⟨a, i0⟩, ver, An, nn, cn⟩ _ ((HCK.out).alloc _)).mono ?_
        rintro e w2 ⟨rfl, hk2⟩
        have hka := keep0_trans _ _ _ ((Keep.refl (fun _ => False) wr).alloc (.cells #[.int .i64 a, .int .i64 i0, .int .i64 ver, .slice An nn cn] 37)) hk2
        have HKA := Lib.hid hka
        have hb := (Blk.new wr 37 #[.int .i64 a, .int .i64 i0, .int .i64 ver, .slice An nn cn]).keep hk2 (fun h => h)
        have d0 := hb.cell 0
        have d1 := hb.cell 1
        have d2 := hb.cell 2
        have d3 := hb.cell 3
        simp at d0 d1 d2 d3
        have hS2 := HCS.out.keep hka (fun _ _ h => h)
        have HS2 := Lib.hid hS2
        clear hk2 hka hb hS2 c0 c1 c2 c3
        rcases Bool.eq_false_or_eq_true (p ⟨⟨a, i0⟩, ver, An, nn, cn⟩) with hp | hp
        · rw [hp]
          have HOK := Lib.hid hp
          clear hp
          go_wp2
          go_roundw
          case rel =>
            refine (fun (hgoal : ∃ (j' i' : Nat) (cur' : List RowV), i' < j' ∧ j' ≤ n ∧ Value.int .i64 ((j : Int) + 1) = .int .i64 (j' : Int) ∧ Value.int .i64 (i : Int) = .int .i64 (i' : Int) ∧ Hid (cur'.length = n) ∧ Hid (cur'.take i' = (l.take j').filter (fun x => !p x)) ∧ Hid (cur'.drop j' = l.drop j') ∧ Hid (SlK w2 37 4 (some g) (some ⟨g, off, none⟩) n c (cur'.flatMap cRow)) ∧ Hid (Keep (fun b => some g = some b) w w2)) => ?_) ?_
            · first | exact hgoal | ((repeat apply Exists.intro); exact ⟨hgoal, rfl⟩)
            · refine ⟨j + 1, i, cur, by omega, by omega, by go_num, rfl, HCL, Lib.hid ?_, HDJ, HS2, Lib.hid ?_⟩
              · rw [HFT.out, HOK.out, HCT.out]; simp
              · exact HCK.out.trans (HKA.out.mono fun _ _ h => h.elim)
          case measure => simp [intOf]; omega
        · rw [hp]
          have HOK := Lib.hid hp
          clear hp
          have f0 := HS2.out.cellAt (j := i * 4) (by omega)
          have f1 : w2.frozen? ⟨g, off + i * 4 + 1, none⟩ = false := HS2.out.cellAt (j := i * 4 + 1) (by omega)
          have f2 : w2.frozen? ⟨g, off + i * 4 + 2, none⟩ = false := HS2.out.cellAt (j := i * 4 + 2) (by omega)
          have f3 : w2.frozen? ⟨g, off + i * 4 + 3, none⟩ = false := HS2.out.cellAt (j := i * 4 + 3) (by omega)
          obtain ⟨g', off', hA, p0, p1, p2, p3⟩ := (show RdRv w2 (some ⟨g, off, none⟩) n cur from ⟨HCL.out, HS2.out.rd⟩).at_ (i := i) (by omega)
          injection hA with hA; injection hA with r1 r2; subst r1 r2
          go_wp2
          go_roundw
          case rel =>
            have hgoal : ∃ (j' i' : Nat) (cur' : List RowV), i' < j' ∧ j' ≤ n ∧ Value.int .i64 ((j : Int) + 1) = .int .i64 (j' : Int) ∧ Value.int .i64 ((i : Int) + 1) = .int .i64 (i' : Int) ∧ Hid (cur'.length = n) ∧ Hid (cur'.take i' = (l.take j').filter (fun x => !p x)) ∧ Hid (cur'.drop j' = l.drop j') ∧ Hid (SlK (((((w2.setCell ⟨g, off + i * 4, none⟩ (.int .i64 a)).setCell ⟨g, off + i * 4 + 1, none⟩ (.int .i64 i0)).setCell ⟨g, off + i * 4 + 2, none⟩ (.int .i64 ver)).setCell ⟨g, off + i * 4 + 3, none⟩ (.slice An nn cn))) 37 4 (some g) (some ⟨g, off, none⟩) n c (cur'.flatMap cRow)) ∧ Hid (Keep (fun b => some g = some b) w (((((w2.setCell ⟨g, off + i * 4, none⟩ (.int .i64 a)).setCell ⟨g, off + i * 4 + 1, none⟩ (.int .i64 i0)).setCell ⟨g, off + i * 4 + 2, none⟩ (.int .i64 ver)).setCell ⟨g, off + i * 4 + 3, none⟩ (.slice An nn cn)))) := by
              refine ⟨j + 1, i + 1, cur.set i ⟨⟨a, i0⟩, ver, An, nn, cn⟩, by omega, by omega, by go_num, by go_num, Lib.hid (by rw [List.length_set]; exact HCL.out), Lib.hid ?_, Lib.hid ?_, Lib.hid ?_, Lib.hid ?_⟩
              · rw [HFT.out, HOK.out, ← HCT.out, take_set_snoc _ _ (by have := HCL.out; omega)]; simp
              · rw [List.drop_set_of_lt (by omega)]; exact HDJ.out
              · rw [← set_row cur i (by have := HCL.out; omega)]
                exact ((((HS2.out.setCell (j := i * 4) (by omega) (.int .i64 a)).setCell (j := i * 4 + 1) (by omega) (.int .i64 i0)).setCell (j := i * 4 + 2) (by omega) (.int .i64 ver)).setCell (j := i * 4 + 3) (by omega) (.slice An nn cn))
              · exact ((((HCK.out.trans (HKA.out.mono fun _ _ h => h.elim)).setCell (fun _ => rfl) _).setCell (fun _ => rfl) _).setCell (fun _ => rfl) _).setCell (fun _ => rfl) _
            first | exact hgoal | ((repeat apply Exists.intro); exact ⟨hgoal, rfl⟩)
          case measure => simp [intOf]; omega
      · obtain rfl : j = n := by omega
        have hfl : cur.take i = l.filter (fun x => !p x) := by rw [HCT.out, List.take_of_length_le (by rw [HL.out]; exact Nat.le_refl _)]
        have hil : i = (l.filter (fun x => !p x)).length := by rw [← hfl, List.length_take, HCL.out]; omega
        obtain ⟨w', r1, r2, r3⟩ := HCS.out.clear_ (k := 4) (P := Tryz.prog) 31 0 _ Tryz.underlying31 hz rfl (by intro v hv; simp [Value.cells] at hv; rcases hv with rfl | rfl | rfl | rfl <;> rfl) i hij (c - i)
        have HFL := Lib.hid hfl
        have HIL := Lib.hid hil
        have HS' := Lib.hid r2
        have HK' := Lib.hid r3
        clear hfl hil r2 r3
        go_wp2
        go_ret
        exact ⟨i, rfl, HIL.out, by rw [← HFL.out, ftake_row]; exact HS'.out, HCK.out.trans (HK'.out.mono fun _ _ h => .inl h)⟩
def Cloned_row (l : List RowV) (w : World) (e : Ending) (w' : World) : Prop :=
  ∃ row A c, e = .returned (.slice A l.length c) ∧ SlK w' 37 4 row A l.length c (l.flatMap cRow) ∧ (∀ g, row = some g → w.heap.size ≤ g) ∧ Keep (fun _ => False) w w'
set_option maxHeartbeats 1000000 in
theorem clone_row (A : Option Addr) (n c : Nat) (l : List RowV) (w : World) (h : RdRv w A n l) (hn : n ≤ 1000000) :
    Calls Tryz.prog 88 #[.slice A n c] w (Cloned_row l w) := by
  obtain ⟨hl, hr⟩ := h
  have hnil := fun w => Lib.run_eql_slice_nil (P := Tryz.prog) w 31 37 A n c 0 0 Tryz.underlying31
  cases A with
  | none =>
    obtain rfl : n = 0 := by
      rcases Nat.eq_zero_or_pos n with h0 | h0
      · exact h0
      · obtain ⟨g, off, v, q, _⟩ := hr.2 0 (by omega); cases q
    obtain rfl : l = [] := List.eq_nil_of_length_eq_zero hl
    go_enter Tryz.func88, Tryz.ntmps88
    go_wp2
    go_ret
    exact ⟨none, none, 0, rfl, SlK.nil_ _ _ _, (fun g h => by cases h), Keep.refl _ _⟩
  | some A0 =>
    obtain ⟨g0, off0, s0⟩ := A0
    subst hl
    obtain ⟨i, hi, hz, hs, hby⟩ := info_parts info_row
    have HI := Lib.hid hi
    have HZ := Lib.hid hz
    have HS := Lib.hid hs
    have HBY := Lib.hid hby
    have HR := Lib.hid hr
    clear hi hz hs hby hr
    go_enter Tryz.func88, Tryz.ntmps88
    go_wp2_with (at_builtin; go_loud (refine wpList_append_slK rfl _ _ _ rfl i _ 48 Tryz.underlying31 HI.out HZ.out HS.out HBY.out rfl (by decide) (SlK.empty (Blk.new w 37 #[])) rfl rfl (HR.out.keep0 ((Keep.refl _ w).alloc _)) (one_row l) (by unfold maxLen; omega) (by omega) ?_; intro row' A' c' w' hs2 hk2; have HS2 := Lib.hid hs2; have HK2 := Lib.hid (grew_both hk2 ((Keep.refl (fun _ => False) w).alloc _) (fun g hg => by injection hg with hg; omega)); clear hs2 hk2))
    go_ret
    exact ⟨row', A', c', rfl, by have := HS2.out; rwa [List.nil_append, Nat.zero_add] at this, HK2.out.2, HK2.out.1⟩
end Go.Proofs.YtgoldgamjogadaaGreat

namespace Go.Proofs.YtgoldgamjogadaaGreat
open Go.RowKit Go
set_option maxRecDepth 100000

/-- new memory that holds a list of IDs, as a row's -/
def CopiedRow (r : RowV) (no : List ID) (w : World) (e : Ending) (w' : World) : Prop :=
  ∃ b A c, e = .returned (rowV ⟨r.of, r.ver, A, no.length, c⟩) ∧ SlK w' 24 2 b A no.length c (no.flatMap cID) ∧ (∀ g, b = some g → w.heap.size ≤ g) ∧ Keep (fun _ => False) w w'
set_option maxHeartbeats 1000000 in
theorem copied_any (r : RowV) (no : List ID) (w : World) (h : RdI w r.A r.n no) (hn : r.n ≤ 1000000) :
    Calls Tryz.prog 89 #[rowV r] w (CopiedRow r no w) := by
  obtain ⟨⟨a, i⟩, v, A, n, c⟩ := r
  obtain ⟨W0, hW0⟩ : ∃ W0, w.alloc (.cells #[.int .i64 a, .int .i64 i, .int .i64 v, .slice A n c] 37) = W0 := ⟨_, rfl⟩
  have hb : Blk W0 w.heap.size 37 #[.int .i64 a, .int .i64 i, .int .i64 v, .slice A n c] := by rw [← hW0]; exact Blk.new _ _ _
  have hk0 : Keep (fun _ => False) w W0 := by rw [← hW0]; exact (Keep.refl _ w).alloc _
  have hk1 : Keep (fun _ => False) W0 (W0.alloc (.cells #[.int .i64 0, .int .i64 0, .int .i64 0, .slice none 0 0] 37)) := (Keep.refl _ _).alloc _
  have hb1 := hb.keep hk1 (fun h => h)
  have hbo : Blk (W0.alloc (.cells #[.int .i64 0, .int .i64 0, .int .i64 0, .slice none 0 0] 37)) W0.heap.size 37 #[.int .i64 0, .int .i64 0, .int .i64 0, .slice none 0 0] := Blk.new _ _ _
  have HB := Lib.hid hb1
  have HBo := Lib.hid hbo
  have HK := Lib.hid (keep0_trans _ _ _ hk0 hk1)
  have HR := Lib.hid (h.keep0 (keep0_trans _ _ _ hk0 hk1))
  have HSz := Lib.hid (show W0.heap.size = w.heap.size + 1 by rw [← hW0]; simp)
  have x3 := hb1.cell 3
  simp at x3
  clear hb hb1 hbo hk0 hk1 h
  go_enter Tryz.func89, Tryz.ntmps89
  go_wp2_with fail
  refine (clone_id A n c no _ HR.out hn).mono ?_
  rintro e w1 ⟨b, A1, c1, rfl, hs, hnew, hk⟩
  have hbk := HB.out.keep hk (fun h => h)
  have y0 := hbk.cell 0
  have y1 := hbk.cell 1
  have y2 := hbk.cell 2
  have y3 := hbk.cell 3
  have z0 := hbk.frozen 0
  have z1 := hbk.frozen 1
  have z2 := hbk.frozen 2
  have z3 := hbk.frozen 3
  have hbok := HBo.out.keep hk (fun h => h)
  have o0 := hbok.cell 0
  have o1 := hbok.cell 1
  have o2 := hbok.cell 2
  have o3 := hbok.cell 3
  have p0 := hbok.frozen 0
  have p1 := hbok.frozen 1
  have p2 := hbok.frozen 2
  have p3 := hbok.frozen 3
  simp at y0 y1 y2 y3 o0 o1 o2 o3
  have HS := Lib.hid hs
  have HBo1 := Lib.hid hbok
  have HNew := Lib.hid hnew
  have HK1 := Lib.hid (keep0_trans _ _ _ HK.out hk)
  have hne : ¬ w.heap.size = W0.heap.size := by have := HSz.out; omega
  clear hbk hbok hs hnew hk x3
  go_wp2
  have hbf : Blk (((((w1.setCell ⟨w.heap.size, 3, none⟩ (.slice A1 no.length c1)).setCell ⟨W0.heap.size, 0, none⟩ (.int .i64 a)).setCell ⟨W0.heap.size, 1, none⟩ (.int .i64 i)).setCell ⟨W0.heap.size, 2, none⟩ (.int .i64 v)).setCell ⟨W0.heap.size, 3, none⟩ (.slice A1 no.length c1)) W0.heap.size 37 #[.int .i64 a, .int .i64 i, .int .i64 v, .slice A1 no.length c1] := by
    have h := ((((HBo1.out.far (p := ⟨w.heap.size, 3, none⟩) (fun e => hne e.symm) (.slice A1 no.length c1)).set_ 0 (.int .i64 a)).set_ 1 (.int .i64 i)).set_ 2 (.int .i64 v)).set_ 3 (.slice A1 no.length c1)
    simpa using h
  have hkf : Keep (fun _ => False) w (((((w1.setCell ⟨w.heap.size, 3, none⟩ (.slice A1 no.length c1)).setCell ⟨W0.heap.size, 0, none⟩ (.int .i64 a)).setCell ⟨W0.heap.size, 1, none⟩ (.int .i64 i)).setCell ⟨W0.heap.size, 2, none⟩ (.int .i64 v)).setCell ⟨W0.heap.size, 3, none⟩ (.slice A1 no.length c1)) := by
    have h := HSz.out
    exact ((((HK1.out.new (p := ⟨w.heap.size, 3, none⟩) (Nat.le_refl _) _).new (p := ⟨W0.heap.size, 0, none⟩) (by simp only; omega) _).new (p := ⟨W0.heap.size, 1, none⟩) (by simp only; omega) _).new (p := ⟨W0.heap.size, 2, none⟩) (by simp only; omega) _).new (p := ⟨W0.heap.size, 3, none⟩) (by simp only; omega) _
  have hsf : SlK (((((w1.setCell ⟨w.heap.size, 3, none⟩ (.slice A1 no.length c1)).setCell ⟨W0.heap.size, 0, none⟩ (.int .i64 a)).setCell ⟨W0.heap.size, 1, none⟩ (.int .i64 i)).setCell ⟨W0.heap.size, 2, none⟩ (.int .i64 v)).setCell ⟨W0.heap.size, 3, none⟩ (.slice A1 no.length c1)) 24 2 b A1 no.length c1 (no.flatMap cID) := by
    refine HS.out.keep (S := fun g => g = w.heap.size ∨ g = W0.heap.size) ?_ (fun g hg e => ?_)
    · exact (((((Keep.refl _ w1).setCell (fun _ => .inl rfl) _).setCell (fun _ => .inr rfl) _).setCell (fun _ => .inr rfl) _).setCell (fun _ => .inr rfl) _).setCell (fun _ => .inr rfl) _
    · have h1 := HNew.out g hg
      simp at h1
      have h2 := HSz.out
      omega
  generalize (((((w1.setCell ⟨w.heap.size, 3, none⟩ (.slice A1 no.length c1)).setCell ⟨W0.heap.size, 0, none⟩ (.int .i64 a)).setCell ⟨W0.heap.size, 1, none⟩ (.int .i64 i)).setCell ⟨W0.heap.size, 2, none⟩ (.int .i64 v)).setCell ⟨W0.heap.size, 3, none⟩ (.slice A1 no.length c1)) = WF at *
  have x0 := hbf.cell 0
  have x1 := hbf.cell 1
  have x2 := hbf.cell 2
  have x3 := hbf.cell 3
  simp at x0 x1 x2 x3
  refine ⟨rfl, rowV ⟨(a, i), v, A1, no.length, c1⟩, ?_, ⟨b, A1, c1, rfl, hsf, fun g hg => ?_, hkf⟩⟩
  · unfold results
    go_simp
  · have h1 := HNew.out g hg
    simp at h1
    have h2 := HSz.out
    omega
/-- from what stands row by row to the cells -/
theorem RdRow.split {w : World} {A : Option Addr} {n : Nat} {l : List RowM} (h : RdRow w A n l) : ∃ lv : List RowV, RdRv w A n lv ∧ ∀ i, i < n → (lv.getD i zrow).of = (l.getD i row0).of ∧ (lv.getD i zrow).ver = (l.getD i row0).ver ∧ RdI w (lv.getD i zrow).A (lv.getD i zrow).n (l.getD i row0).no := by
  have hx : ∀ i, ∃ r : RowV, i < n → r.of = (l.getD i row0).of ∧ r.ver = (l.getD i row0).ver ∧ RdI w r.A r.n (l.getD i row0).no ∧ ∃ g off, A = some ⟨g, off, none⟩ ∧ ∀ j, j < 4 → ∃ v, (cRow r)[j]? = some v ∧ w.cell? ⟨g, off + (i * 4 + j), none⟩ = some v := by
    intro i
    by_cases hi : i < n
    · obtain ⟨g, off, v, hA, h0, h1, h2, h3, ⟨An, nn, cn, rfl, hn⟩⟩ := h.2 i hi
      refine ⟨⟨(l.getD i row0).of, (l.getD i row0).ver, An, nn, cn⟩, fun _ => ⟨rfl, rfl, hn, g, off, hA, fun j hj => ?_⟩⟩
      match j, hj with
      | 0, _ => exact ⟨_, rfl, h0⟩
      | 1, _ => exact ⟨_, rfl, by rw [← Nat.add_assoc]; exact h1⟩
      | 2, _ => exact ⟨_, rfl, by rw [← Nat.add_assoc]; exact h2⟩
      | 3, _ => exact ⟨_, rfl, by rw [← Nat.add_assoc]; exact h3⟩
    · exact ⟨zrow, fun h => absurd h hi⟩
  let f := fun i => (hx i).choose
  have hf : ∀ i, i < n → ((List.range n).map f).getD i zrow = f i := fun i hi => by simp [List.getD, hi]
  refine ⟨(List.range n).map f, ⟨by simp, ?_, fun j hj => ?_⟩, fun i hi => ?_⟩
  · rw [flat_len cRow 4 (fun _ => rfl)]; simp
  · have hi : j / 4 < n := by omega
    have hlen : j / 4 < ((List.range n).map f).length := by simpa using hi
    obtain ⟨_, _, _, g, off, hA, hc⟩ := (hx (j / 4)).choose_spec hi
    obtain ⟨v, hv, hw⟩ := hc (j % 4) (by omega)
    have e : j / 4 * 4 + j % 4 = j := by omega
    rw [e] at hw
    refine ⟨g, off, v, hA, ?_, hw⟩
    have fg := flat_get cRow 4 (fun _ => rfl) ((List.range n).map f) (j / 4) (j % 4) hlen (by omega)
    rw [e] at fg
    rw [fg, ← hv]
    simp [f]
  · rw [hf i hi]
    obtain ⟨h1, h2, h3, _⟩ := (hx i).choose_spec hi
    exact ⟨h1, h2, h3⟩
/-- a row in memory of its own: as it lies, its IDs, their block -/
structure RowO where
  v : RowV
  no : List ID
  b : Option Nat
def zrowO : RowO := ⟨zrow, [], none⟩
def RowO.m (r : RowO) : RowM := ⟨r.v.of, r.v.ver, r.no⟩
/-- rows that lie in memory of their own, from base on, apart from the block row -/
structure OwnRs (w : World) (base : Nat) (row : Option Nat) (L : List RowO) : Prop where
  sl : ∀ r ∈ L, r.no.length = r.v.n ∧ SlK w 24 2 r.b r.v.A r.v.n r.v.c (r.no.flatMap cID)
  new : ∀ r ∈ L, ∀ g, r.b = some g → base ≤ g ∧ row ≠ some g
  ap : L.Pairwise fun x y => ∀ g, x.b = some g → y.b ≠ some g
theorem OwnRs.keep {w w' : World} {base : Nat} {row : Option Nat} {L : List RowO} {S : Nat → Prop} (h : OwnRs w base row L) (hk : Keep S w w') (hS : ∀ r ∈ L, ∀ g, r.b = some g → ¬ S g) : OwnRs w' base row L :=
  ⟨fun r hr => ⟨(h.sl r hr).1, (h.sl r hr).2.keep hk (fun g hg => hS r hr g hg)⟩, h.new, h.ap⟩
theorem OwnRs.keep0 {w w' : World} {base : Nat} {row : Option Nat} {L : List RowO} (h : OwnRs w base row L) (hk : Keep (fun _ => False) w w') : OwnRs w' base row L := h.keep hk (fun _ _ _ _ h => h)
theorem OwnRs.lt {w : World} {base : Nat} {row : Option Nat} {L : List RowO} (h : OwnRs w base row L) : ∀ r ∈ L, ∀ g, r.b = some g → g < w.heap.size := fun r hr => (h.sl r hr).2.lt
theorem OwnRs.snoc {w : World} {base : Nat} {row : Option Nat} {L : List RowO} (h : OwnRs w base row L) {r : RowO} (h1 : r.no.length = r.v.n) (h2 : SlK w 24 2 r.b r.v.A r.v.n r.v.c (r.no.flatMap cID))
    (h3 : ∀ g, r.b = some g → base ≤ g ∧ row ≠ some g) (h4 : ∀ x ∈ L, ∀ g, x.b = some g → r.b ≠ some g) : OwnRs w base row (L ++ [r]) :=
  ⟨fun x hx => by
    rcases List.mem_append.1 hx with hx | hx
    · exact h.sl x hx
    · rw [List.mem_singleton.1 hx]; exact ⟨h1, h2⟩, fun x hx => by
    rcases List.mem_append.1 hx with hx | hx
    · exact h.new x hx
    · rw [List.mem_singleton.1 hx]; exact h3, by
    rw [List.pairwise_append]
    exact ⟨h.ap, List.pairwise_singleton _ _, fun x hx y hy => by rw [List.mem_singleton.1 hy]; exact h4 x hx⟩⟩
/-- they can be read, as rows -/
theorem OwnRs.rd {w : World} {base : Nat} {row : Option Nat} {L : List RowO} (h : OwnRs w base row L) {A : Option Addr} {n : Nat} (hr : RdRv w A n (L.map (·.v))) : RdRow w A n (L.map (·.m)) := by
  have hn : L.length = n := by have := hr.1; simpa using this
  refine ⟨by simpa using hn, fun i hi => ?_⟩
  have hL : i < L.length := by omega
  have e1 : (L.map (·.v)).getD i zrow = (L[i]).v := by simp [List.getD, hL]
  have e2 : (L.map (·.m)).getD i row0 = (L[i]).m := by simp [List.getD, hL]
  obtain ⟨g, off, hA, h0, h1, h2, h3⟩ := hr.at_ hi
  rw [e1] at h0 h1 h2 h3
  rw [e2]
  obtain ⟨k1, k2⟩ := h.sl (L[i]) (List.getElem_mem hL)
  exact ⟨g, off, _, hA, h0, h1, h2, h3, _, _, _, rfl, k1, k2.rd⟩
def AllRows (l : List RowM) (w : World) (e : Ending) (w' : World) : Prop :=
  ∃ row A c L, e = .returned (.slice A l.length c) ∧ L.map (·.m) = l ∧ SlK w' 37 4 row A l.length c ((L.map (·.v)).flatMap cRow) ∧ (∀ g, row = some g → w.heap.size ≤ g) ∧ OwnRs w' w.heap.size row L ∧ Keep (fun _ => False) w w'
theorem SlK.off {w : World} {e : TypeId} {k : Nat} {row : Option Nat} {A : Option Addr} {n c : Nat} {xs : List Value} (h : SlK w e k row A n c xs) (hn : 0 < n) : ∃ g off, row = some g ∧ A = some ⟨g, off, none⟩ := by
  rcases h.2.2.2 with ⟨_, _, q⟩ | ⟨g, off, _, q1, q2, _⟩
  · have := h.2.1; omega
  · exact ⟨g, off, q1, q2⟩
set_option maxHeartbeats 4000000 in
theorem all_any (A : Option Addr) (n c : Nat) (l : List RowM) (w : World) (h : RdRow w A n l) (hn : n ≤ 1000000) (hno : ∀ r ∈ l, r.no.length ≤ 10000) :
    Calls Tryz.prog 68 #[.slice A n c] w (AllRows l w) := by
  obtain ⟨lv, hv, hsp⟩ := h.split
  have hl := h.1
  subst hl
  have HSp := Lib.hid hsp
  have HV := Lib.hid hv
  have HNo := Lib.hid hno
  have HLv := Lib.hid hv.1
  clear h hv hsp hno
  go_enter Tryz.func68, Tryz.ntmps68
  go_wp2_with fail
  refine (clone_row A l.length c lv _ HV.out hn).mono ?_
  rintro e w1 ⟨row, A1, c1, rfl, hs, hnew, hk⟩
  rw [HLv.out] at hs ⊢
  have HS := Lib.hid hs
  have HNew := Lib.hid hnew
  have HK := Lib.hid hk
  have HRow := Lib.hid hs.lt
  clear hs hnew hk
  go_wp2
  go_loopw [9] (fun j wr => ∃ (k : Nat) (L : List RowO), k ≤ l.length ∧ j = .int .i64 (k : Int) ∧ L.length = k ∧ Hid (L.map (·.m) = l.take k) ∧ Hid (SlK wr 37 4 row A1 l.length c1 ((L.map (·.v) ++ lv.drop k).flatMap cRow)) ∧ Hid (OwnRs wr w.heap.size row L) ∧ Hid (Keep (fun _ => False) w wr) ∧ Hid (w1.heap.size ≤ wr.heap.size)) (fun j _ => l.length - (intOf j).toNat)
  case atStart => exact ⟨0, [], by omega, rfl, rfl, Lib.hid rfl, Lib.hid (by simpa using HS.out), Lib.hid ⟨fun _ h => (by cases h), fun _ h => (by cases h), List.Pairwise.nil⟩, HK, Lib.hid (Nat.le_refl _)⟩
  case round =>
    obtain ⟨k, L, hk, rfl, hL, HM, HSR, HO, HKR, HSz⟩ := hrel
    by_cases hlt : k < l.length
    · obtain ⟨g, off, hrow, hA⟩ := HSR.out.off (by omega)
      have hrd : RdRv wr A1 l.length (L.map (·.v) ++ lv.drop k) := ⟨by rw [List.length_append, List.length_map, List.length_drop, HLv.out]; omega, HSR.out.rd⟩
      obtain ⟨g', off', hA', c0, c1', c2, c3⟩ := hrd.at_ hlt
      rw [hA] at hA'; injection hA' with hA'; injection hA' with r1 r2; subst r1 r2
      have hget : (L.map (·.v) ++ lv.drop k).getD k zrow = lv.getD k zrow := by
        simp [List.getD, List.getElem?_append_right, hL]
      rw [hget] at c0 c1' c2 c3
      obtain ⟨s1, s2, s3⟩ := HSp.out k hlt
      have HRI := Lib.hid (s3.keep0 HKR.out)
      have HNN := Lib.hid (show (lv.getD k zrow).n ≤ 10000 by rw [← s3.1]; exact HNo.out _ (by simp [List.getD, hlt]))
      have HX := Lib.hid (show l.take (k + 1) = l.take k ++ [l.getD k row0] by rw [List.take_succ_eq_append_getElem hlt]; simp [List.getD, hlt])
      have HD := Lib.hid (show lv.drop k = lv.getD k zrow :: lv.drop (k + 1) by
        have hkl : k < lv.length := by rw [HLv.out]; exact hlt
        rw [List.drop_eq_getElem_cons hkl]; simp [List.getD, hkl])
      have HS1 := Lib.hid s1
      have HS2 := Lib.hid s2
      have HIN := Lib.hid s3.1
      clear s1 s2 s3 hrd hget
      subst hA hrow
      generalize lv.getD k zrow = x at *
      generalize l.getD k row0 = y at *
      obtain ⟨⟨a, i⟩, v, An, nn, cn⟩ := x
      simp only at c0 c1' c2 c3
      have hkI : (k : Int) < (l.length : Int) := by omega
      have hkJ : (0 : Int) ≤ (k : Int) := by omega
      have e2 : IntKind.i64.wrap ((k : Int) + 1) = (k : Int) + 1 := IntWalk.i64_in _ (by omega)
      go_wp2_with fail
      refine (copied_any ⟨(a, i), v, An, nn, cn⟩ y.no _ HRI.out (Nat.le_trans HNN.out (by decide))).mono ?_
      rintro e w2 ⟨b, A2, c2', rfl, hs2, hn2, hk2⟩
      have hS2 := HSR.out.keep hk2 (fun _ _ h => h)
      have f0 := hS2.cellAt (j := k * 4) (by omega)
      have f1 : w2.frozen? ⟨g, off + k * 4 + 1, none⟩ = false := hS2.cellAt (j := k * 4 + 1) (by omega)
      have f2 : w2.frozen? ⟨g, off + k * 4 + 2, none⟩ = false := hS2.cellAt (j := k * 4 + 2) (by omega)
      have f3 : w2.frozen? ⟨g, off + k * 4 + 3, none⟩ = false := hS2.cellAt (j := k * 4 + 3) (by omega)
      have d0 := hk2.cell c0 (fun h => h)
      have d1 := hk2.cell c1' (fun h => h)
      have d2 := hk2.cell c2 (fun h => h)
      have d3 := hk2.cell c3 (fun h => h)
      have HS2' := Lib.hid hS2
      have HSB := Lib.hid hs2
      have HN2 := Lib.hid hn2
      have HK2 := Lib.hid hk2
      clear hs2 hn2 hk2 hS2 c0 c1' c2 c3
      have hWF : ∃ WF, (((w2.setCell ⟨g, off + k * 4, none⟩ (.int .i64 a)).setCell ⟨g, off + k * 4 + 1, none⟩ (.int .i64 i)).setCell ⟨g, off + k * 4 + 2, none⟩ (.int .i64 v)).setCell ⟨g, off + k * 4 + 3, none⟩ (.slice A2 y.no.length c2') = WF := ⟨_, rfl⟩
      obtain ⟨WF, hWF⟩ := hWF
      have hgw : w.heap.size ≤ g := HNew.out g rfl
      have hgl : g < w2.heap.size := Nat.lt_of_lt_of_le (HRow.out g rfl) (Nat.le_trans HSz.out HK2.out.size)
      have hkf : Keep (fun q => some g = some q) w2 WF := by
        rw [← hWF]; exact ((((Keep.refl (fun q => some g = some q) w2).setCell (p := ⟨g, off + k * 4, none⟩) (fun _ => rfl) _).setCell (p := ⟨g, off + k * 4 + 1, none⟩) (fun _ => rfl) _).setCell (p := ⟨g, off + k * 4 + 2, none⟩) (fun _ => rfl) _).setCell (p := ⟨g, off + k * 4 + 3, none⟩) (fun _ => rfl) _
      have hsf : SlK WF 37 4 (some g) (some ⟨g, off, none⟩) l.length c1 (((L ++ [(⟨⟨(a, i), v, A2, y.no.length, c2'⟩, y.no, b⟩ : RowO)]).map (·.v) ++ lv.drop (k + 1)).flatMap cRow) := by
        have e : (L ++ [(⟨⟨(a, i), v, A2, y.no.length, c2'⟩, y.no, b⟩ : RowO)]).map (·.v) ++ lv.drop (k + 1) = (L.map (·.v) ++ lv.drop k).set k ⟨(a, i), v, A2, y.no.length, c2'⟩ := by
          rw [HD.out, List.set_append_right _ _ (by simp [hL]), List.length_map, hL, Nat.sub_self, List.set_cons_zero]; simp
        rw [e, ← set_row _ k (by rw [List.length_append, List.length_map, List.length_drop, HLv.out]; omega), ← hWF]
        exact (((HS2'.out.setCell (j := k * 4) (by omega) (.int .i64 a)).setCell (j := k * 4 + 1) (by omega) (.int .i64 i)).setCell (j := k * 4 + 2) (by omega) (.int .i64 v)).setCell (j := k * 4 + 3) (by omega) (.slice A2 y.no.length c2')
      have hlt2 := HO.out.lt
      have hnew2 := HN2.out
      have hsz2 := HKR.out.size
      have hsz3 := HSz.out
      have hrw := HRow.out g rfl
      have hof : OwnRs WF w.heap.size (some g) (L ++ [⟨⟨(a, i), v, A2, y.no.length, c2'⟩, y.no, b⟩]) := by
        refine OwnRs.snoc ((HO.out.keep0 HK2.out).keep hkf (fun r hr q hq e => ?_)) rfl (HSB.out.keep hkf (fun q hq e => ?_)) (fun q hq => ⟨?_, fun e => ?_⟩) (fun x hx q hq e => ?_)
        · exact (HO.out.new r hr q hq).2 e
        · injection e with e; have := hnew2 q hq; omega
        · have := hnew2 q hq; omega
        · injection e with e; have := hnew2 q hq; omega
        · have h1 := hlt2 x hx q hq; have h2 := hnew2 q e; omega
      have HSf := Lib.hid hsf
      have HOf := Lib.hid hof
      have HKf := Lib.hid (show Keep (fun _ => False) w WF from (keep0_trans _ _ _ HKR.out HK2.out).trans (hkf.mono fun q _ e => .inr (by injection e with e; omega)))
      have HSzf := Lib.hid (show w1.heap.size ≤ WF.heap.size from Nat.le_trans hsz3 (Nat.le_trans HK2.out.size hkf.size))
      have HWF := Lib.hid hWF
      clear hWF hgw hgl hkf hsf hlt2 hnew2 hsz2 hsz3 hrw hof
      go_wp2
      rw [HWF.out]
      go_roundw
      case rel =>
        exact ⟨k + 1, L ++ [⟨⟨(a, i), v, A2, y.no.length, c2'⟩, y.no, b⟩], by omega, by go_num, by simp [hL], Lib.hid (by
          rw [List.map_append, HM.out, HX.out]
          congr 1
          show [(⟨(a, i), v, y.no⟩ : RowM)] = [y]
          rw [show (a, i) = y.of from HS1.out, show v = y.ver from HS2.out]), HSf, HOf, HKf, HSzf⟩
      case measure => simp [intOf]; omega
    · obtain rfl : k = l.length := by omega
      have HE := Lib.hid (show lv.drop l.length = [] by rw [List.drop_eq_nil_iff, HLv.out]; exact Nat.le_refl _)
      go_wp2
      go_ret
      exact ⟨row, A1, c1, L, rfl, by rw [HM.out, List.take_length], by have := HSR.out; rwa [HE.out, List.append_nil] at this, HNew.out, HO.out, HKR.out⟩
end Go.Proofs.YtgoldgamjogadaaGreat

namespace Go.Proofs.YtgoldgamjogadaaGreat
def kAllP (P : Program) (ops : Array Oper) (R R0 : World → World → Prop) (p : Nat) (W0 : World) (Q : Act → World → Prop) : Nat → List Oper → List KSpec → Act → List (Nat × (World → Prop)) → Prop
  | _, [], _, a, F => ∀ W, R W0 W → kAllHas W F → Q a W
  | _, _ :: _, [], _, _ => False
  | k, o :: l, none :: Ts, a, F =>
    if Region.wanted o (yielded ops a.tmps) then ∃ v, (∀ W, R W0 W → kHas o W F → kQuiet P o a W v) ∧ kAllP P ops R R0 p W0 Q (k + 1) l Ts (a.put o.dst v) F else kAllP P ops R R0 p W0 Q (k + 1) l Ts (a.put o.dst undef) F
  | k, o :: l, some (.inl c) :: Ts, a, F => (∀ W, R W0 W → (k = p → R0 W0 W) → kHas o W F → kStep P ops (if k = p then R else R0) o a W (fun v _ => v = c)) ∧ kAllP P ops R R0 p W0 Q (k + 1) l Ts (a.put o.dst c) F
  | k, o :: l, some (.inr T) :: Ts, a, F => (∀ v W W', (if k = p then R0 else R) W W' → T v W → T v W') ∧ (∀ W, R W0 W → (k = p → R0 W0 W) → kHas o W F → kStep P ops (if k = p then R else R0) o a W T) ∧ ∀ u, kAllP P ops R R0 p W0 Q (k + 1) l Ts (a.put o.dst u) ((k, T u) :: F)

section
variable {P : Program} {ops : Array Oper} {R R0 : World → World → Prop} {p : Nat} {W0 : World} {Q : Act → World → Prop}

def KOblP (P : Program) (ops : Array Oper) (R R0 : World → World → Prop) (p : Nat) (W0 : World) (Ts : List KSpec) (a0 : Act) (u vs : Nat → Value) (j : Nat) : Prop := ∀ o s, ops[j]? = some o → Ts[j]? = some s →
  match s with
  | none => if Region.wanted o (yielded ops (kActs ops a0 vs j).tmps) then ∀ W, R W0 W → KDeps Ts u o j W → kQuiet P o (kActs ops a0 vs j) W (vs j) else vs j = undef
  | some (.inl c) => vs j = c ∧ ∀ W, R W0 W → (j = p → R0 W0 W) → KDeps Ts u o j W → kStep P ops (if j = p then R else R0) o (kActs ops a0 vs j) W (fun v _ => v = c)
  | some (.inr T) => vs j = u j ∧ (∀ v W W', (if j = p then R0 else R) W W' → T v W → T v W') ∧ ∀ W, R W0 W → (j = p → R0 W0 W) → KDeps Ts u o j W → kStep P ops (if j = p then R else R0) o (kActs ops a0 vs j) W T

theorem KOblP.congr {Ts : List KSpec} {a0 : Act} {u vs vs' : Nat → Value} {j : Nat} (h : KOblP P ops R R0 p W0 Ts a0 u vs j) (he : ∀ i, i ≤ j → vs' i = vs i) : KOblP P ops R R0 p W0 Ts a0 u vs' j := by
  intro o s ho hs
  have := h o s ho hs
  rw [kActs_congr (vs := vs') (vs' := vs) j (fun i hi => he i (by omega)), he j (Nat.le_refl _)]
  exact this

theorem kAllP_data {Ts : List KSpec} {a0 : Act} (u : Nat → Value) : ∀ (l : List Oper) (Ts' : List KSpec) (k : Nat) (F : List (Nat × (World → Prop))) (vs0 : Nat → Value), (∀ j, j < l.length → ops[k + j]? = l[j]?) → (∀ j, Ts[k + j]? = Ts'[j]?) →
    (∀ o W, KDeps Ts u o k W → kHas o W F) → (∀ W, (∀ i T, i < k → Ts[i]? = some (some (.inr T)) → T (u i) W) → kAllHas W F) → kAllP P ops R R0 p W0 Q k l Ts' (kActs ops a0 vs0 k) F →
    ∃ vs, (∀ j, j < k → vs j = vs0 j) ∧ (∀ j, k ≤ j → j < k + l.length → j < Ts.length ∧ KOblP P ops R R0 p W0 Ts a0 u vs j) ∧ ∀ W, R W0 W → (∀ i T, i < k + l.length → Ts[i]? = some (some (.inr T)) → T (u i) W) → Q (kActs ops a0 vs (k + l.length)) W
  | [], Ts', k, F, vs0, _, _, _, hall, h => ⟨vs0, fun _ _ => rfl, fun j h1 h2 => by simp at h2; omega, fun W hW hf => by unfold kAllP at h; exact h W hW (hall W (by simpa using hf))⟩
  | o :: l, [], k, F, vs0, _, _, _, _, h => by unfold kAllP at h; exact h.elim
  | o :: l, s :: Ts', k, F, vs0, hl, hT, hdep, hall, h => by
    have ho : ops[k]? = some o := by simpa using hl 0 (by simp)
    have hs : Ts[k]? = some s := by simpa using hT 0
    have hkT : k < Ts.length := (List.getElem?_eq_some_iff.1 hs).1
    have hl' : ∀ j, j < l.length → ops[k + 1 + j]? = l[j]? := fun j hj => by have := hl (j + 1) (by simp; omega); simpa [Nat.add_assoc, Nat.add_comm 1 j] using this
    have hT' : ∀ j, Ts[k + 1 + j]? = Ts'[j]? := fun j => by have := hT (j + 1); simpa [Nat.add_assoc, Nat.add_comm 1 j] using this
    have act : ∀ v, kActs ops a0 (fun j => if j = k then v else vs0 j) (k + 1) = (kActs ops a0 vs0 k).put o.dst v := fun v => by
      show (kActs ops a0 _ k).put _ _ = _
      rw [kActs_congr (vs' := vs0) k (fun j hj => if_neg (by omega)), ho]
      simp
    have depS : (∀ T, s ≠ some (.inr T)) → (∀ o W, KDeps Ts u o (k + 1) W → kHas o W F) ∧ (∀ W, (∀ i T, i < k + 1 → Ts[i]? = some (some (.inr T)) → T (u i) W) → kAllHas W F) := fun _ =>
      ⟨fun o W hd => hdep o W (fun i T h1 h2 h3 => hd i T h1 (by omega) h3), fun W hf => hall W (fun i T h1 h2 => hf i T (by omega) h2)⟩
    have fin : ∀ v, (KOblP P ops R R0 p W0 Ts a0 u (fun j => if j = k then v else vs0 j) k) → (∃ vs, (∀ j, j < k + 1 → vs j = (fun j => if j = k then v else vs0 j) j) ∧ (∀ j, k + 1 ≤ j → j < k + 1 + l.length → j < Ts.length ∧ KOblP P ops R R0 p W0 Ts a0 u vs j) ∧ ∀ W, R W0 W → (∀ i T, i < k + 1 + l.length → Ts[i]? = some (some (.inr T)) → T (u i) W) → Q (kActs ops a0 vs (k + 1 + l.length)) W) →
        ∃ vs, (∀ j, j < k → vs j = vs0 j) ∧ (∀ j, k ≤ j → j < k + (o :: l).length → j < Ts.length ∧ KOblP P ops R R0 p W0 Ts a0 u vs j) ∧ ∀ W, R W0 W → (∀ i T, i < k + (o :: l).length → Ts[i]? = some (some (.inr T)) → T (u i) W) → Q (kActs ops a0 vs (k + (o :: l).length)) W := by
      rintro v hob ⟨vs, h1, h2, h3⟩
      have el : k + (o :: l).length = k + 1 + l.length := by simp; omega
      refine ⟨vs, fun j hj => (h1 j (by omega)).trans (if_neg (by omega)), fun j hj hj2 => ?_, ?_⟩
      · by_cases e : j = k
        · subst e; exact ⟨hkT, hob.congr fun i hi => h1 i (by omega)⟩
        · exact h2 j (by omega) (by omega)
      · rw [el]; exact h3
    have eacts : ∀ v, kActs ops a0 (fun j => if j = k then v else vs0 j) k = kActs ops a0 vs0 k := fun v => kActs_congr k (fun j hj => if_neg (by omega))
    cases s with
    | none =>
      unfold kAllP at h
      obtain ⟨d1, d2⟩ := depS (fun T e => by cases e)
      by_cases hw : Region.wanted o (yielded ops (kActs ops a0 vs0 k).tmps) = true
      · rw [if_pos hw] at h
        obtain ⟨v, hq, hr⟩ := h
        rw [← act v] at hr
        refine fin v ?_ (kAllP_data u l Ts' (k + 1) F _ hl' hT' d1 d2 hr)
        intro o' s' ho' hs'
        obtain rfl := Option.some.inj (ho.symm.trans ho')
        obtain rfl := Option.some.inj (hs.symm.trans hs')
        simp only [eacts, hw, if_true]
        exact fun W hW hd => hq W hW (hdep o W hd)
      · rw [if_neg hw] at h
        rw [← act undef] at h
        refine fin undef ?_ (kAllP_data u l Ts' (k + 1) F _ hl' hT' d1 d2 h)
        intro o' s' ho' hs'
        obtain rfl := Option.some.inj (ho.symm.trans ho')
        obtain rfl := Option.some.inj (hs.symm.trans hs')
        simp only [eacts]
        rw [if_neg hw]; simp
    | some s =>
      cases s with
      | inl c =>
        unfold kAllP at h
        obtain ⟨d1, d2⟩ := depS (fun T e => by cases e)
        obtain ⟨hq, hr⟩ := h
        rw [← act c] at hr
        refine fin c ?_ (kAllP_data u l Ts' (k + 1) F _ hl' hT' d1 d2 hr)
        intro o' s' ho' hs'
        obtain rfl := Option.some.inj (ho.symm.trans ho')
        obtain rfl := Option.some.inj (hs.symm.trans hs')
        simp only [eacts, if_true]
        exact ⟨trivial, fun W hW hp hd => hq W hW hp (hdep o W hd)⟩
      | inr T =>
        unfold kAllP at h
        obtain ⟨hm, hq, hr⟩ := h
        have hr := hr (u k)
        rw [← act (u k)] at hr
        refine fin (u k) ?_ (kAllP_data u l Ts' (k + 1) _ _ hl' hT' ?_ ?_ hr)
        · intro o' s' ho' hs'
          obtain rfl := Option.some.inj (ho.symm.trans ho')
          obtain rfl := Option.some.inj (hs.symm.trans hs')
          simp only [eacts, if_true]
          exact ⟨trivial, hm, fun W hW hp hd => hq W hW hp (hdep o W hd)⟩
        · intro o' W hd
          refine ⟨?_, hdep o' W (fun i T h1 h2 h3 => hd i T h1 (by omega) h3)⟩
          by_cases hk : kWaits o' k = true
          · rw [if_pos hk]; exact hd k T hs (by omega) hk
          · rw [if_neg hk]; trivial
        · intro W hf
          exact ⟨hf k T (by omega) hs, hall W (fun i T h1 h2 => hf i T (by omega) h2)⟩

/-- how a run stands: as KInv; and till the pivot has come up, only R0 has been at work -/
structure KInvP (ops : Array Oper) (R R0 : World → World → Prop) (p : Nat) (W0 : World) (n : Nat) (Ts : List KSpec) (a0 : Act) (V : (Nat → Value) → Nat → Value) (listed : Array Bool) (a : Act) (g : Nat → Value) (W : World) : Prop extends KInv ops R W0 n Ts a0 V listed a g W where
  piv : listed.getD p false = false → R0 W0 W
variable {n : Nat} {Ts : List KSpec} {a0 : Act} {V : (Nat → Value) → Nat → Value}
theorem KInvP.step {P : Program} {Q' : Exit → Act → World → Prop} {listed : Array Bool} {a : Act} {g : Nat → Value} {W : World} (hB : KripB ops n) (hRefl : ∀ a, R a a) (htr : ∀ a b c, R a b → R b c → R a c) (h0Refl : ∀ a, R0 a a) (h0tr : ∀ a b c, R0 a b → R0 b c → R0 a c) (hsub : ∀ a b, R0 a b → R a b)
    (hV : ∀ u j, j < n → j < Ts.length ∧ KOblP P ops R R0 p W0 Ts a0 u (V u) j)
    (h : KInvP ops R R0 p W0 n Ts a0 V listed a g W) {i : Nat} (hi : i < n) (hr : i ∈ Region.ready .any ops listed) :
    wpOp P ops Q' i (fun a' W' => ∃ g', KInvP ops R R0 p W0 n Ts a0 V (listed.setIfInBounds i true) a' g' W') a W := by
  have hr' := hr
  obtain ⟨hun, o, ho, hall⟩ := mem_ready.1 hr'
  have hsz : i < listed.size := by rw [h.head.size]; exact (Array.getElem?_eq_some_iff.1 ho).1
  have hunf := getD_both hun
  have hiT : i < Ts.length := (hV g i hi).1
  obtain ⟨s, hs⟩ : ∃ s, Ts[i]? = some s := ⟨_, List.getElem?_eq_getElem hiT⟩
  have deps : ∀ u, (∀ j T, listed.getD j false = true → Ts[j]? = some (some (.inr T)) → u j = g j) → KDeps Ts u o i W := by
    intro u hu j T hT hj hw
    obtain ⟨e, he, hb⟩ := Array.any_eq_true'.1 hw
    simp only [Bool.and_eq_true, beq_iff_eq] at hb
    have hl := hall e he hb.1
    rw [hb.2] at hl
    rw [hu j T hl hT]
    exact h.facts j T hl hT
  have hri : ∀ a b, (if i = p then R else R0) a b → R a b := fun a b h => by
    split at h
    · exact h
    · exact hsub _ _ h
  have hrefi : ∀ a, (if i = p then R else R0) a a := fun a => by
    split
    · exact hRefl a
    · exact h0Refl a
  have pre : i = p → R0 W0 W := fun e => h.piv (by rw [← e]; exact hunf)
  -- what stands behind a value v in a world W'
  have next : ∀ v W', (if i = p then R else R0) W W' → (∀ T, Ts[i]? = some (some (.inr T)) → T v W') → (∀ j T, listed.getD j false = true → Ts[j]? = some (some (.inr T)) → T (g j) W') → (∀ u, (∀ j T, listed.getD j false = true → Ts[j]? = some (some (.inr T)) → u j = g j) → (∀ T, Ts[i]? = some (some (.inr T)) → u i = v) → V u i = v) →
      ∃ g', KInvP ops R R0 p W0 n Ts a0 V (listed.setIfInBounds i true) (a.put o.dst v) g' W' := by
    intro v W' hR hT hF hvu
    refine ⟨fun j => if j = i then v else g j, ⟨⟨h.head.set hr hi, htr _ _ _ h.rel (hri _ _ hR), ?_, ?_, ?_⟩, ?_⟩⟩
    · intro j T hj hT'
      by_cases e : j = i
      · subst e; simpa using hT T hT'
      · rw [if_neg e]; exact hF j T (((getD_set_iff hsz).1 hj).resolve_left e) hT'
    · intro u hu
      have hu1 : ∀ j T, listed.getD j false = true → Ts[j]? = some (some (.inr T)) → u j = g j := fun j T hl hT' => by
        have e : j ≠ i := fun e => by subst e; rw [hunf] at hl; cases hl
        have := hu j T ((getD_set_iff hsz).2 (.inr hl)) hT'
        rwa [if_neg e] at this
      intro j hj
      by_cases e : j = i
      · subst e
        rw [if_pos rfl]
        exact hvu u hu1 fun T hT' => by have := hu j T ((getD_set_iff hsz).2 (.inl rfl)) hT'; rwa [if_pos rfl] at this
      · rw [if_neg e]; exact h.vals u hu1 j (((getD_set_iff hsz).1 hj).resolve_left e)
    · have := h.slots.put ho (fun j oj d hl hoj hd => by
        have e : j ≠ i := fun e => by subst e; rw [hunf] at hl; cases hl
        have hjn : j < n := by
          rcases Nat.lt_or_ge j n with h' | h'
          · exact h'
          · have := getD_both (h.head.tail j h' (Array.getElem?_eq_some_iff.1 hoj).1)
            rw [this] at hl; cases hl
        exact hB.dst j i oj o d hjn hi e hoj ho hd) (fun j hl e => by subst e; rw [hunf] at hl; cases hl) v
      exact this.congrL (fun j _ => getD_set_iff hsz) (fun _ _ => rfl)
    · intro hp
      by_cases e : i = p
      · subst e
        rw [(getD_set_iff hsz).2 (.inl rfl)] at hp; cases hp
      · rw [if_neg e] at hR
        refine h0tr _ _ _ (h.piv ?_) hR
        cases hl : listed.getD p false with
        | false => rfl
        | true => rw [(getD_set_iff hsz).2 (.inr hl)] at hp; cases hp
  have ob := (hV g i hi).2 o s ho hs
  obtain ⟨ex, wn⟩ := h.toKInv.exec hB ho hi hr (u := g) (fun _ _ _ _ => rfl)
  have dg := deps g (fun _ _ _ _ => rfl)
  have slot0 : ∀ (a a' : Act) (L : Nat → Prop) (g : Nat → Value), KSlots ops a a' L g → ∀ d : Nat, a'.tmps[d]? = none ↔ a.tmps[d]? = none := by
    intro a a' L g hk d
    by_cases hex : ∃ j oj, L j ∧ ops[j]? = some oj ∧ oj.dst = some d
    · obtain ⟨j, oj, h1, h2, h3⟩ := hex
      rw [hk.laid j oj d h1 h2 h3]; simp
    · rw [hk.other d fun j oj h1 h2 h3 => hex ⟨j, oj, h1, h2, h3⟩]
  have hz : ∀ d : Nat, o.dst = some d → ((kActs ops a0 (V g) i).tmps[d]? = none ↔ a.tmps[d]? = none) := fun d _ =>
    (slot0 _ _ _ _ (kActs_slots hB a0 (V g) i (by omega)) d).trans (slot0 _ _ _ _ h.slots d).symm
  have viaStep : ∀ (T : Value → World → Prop), kStep P ops (if i = p then R else R0) o (kActs ops a0 (V g) i) W T → (∀ v W', (if i = p then R else R0) W W' → T v W' → ∃ g', KInvP ops R R0 p W0 n Ts a0 V (listed.setIfInBounds i true) (a.put o.dst v) g' W') → (∀ v, T v W → Region.wanted o (yielded ops a.tmps) = false → v = undef → ∃ g', KInvP ops R R0 p W0 n Ts a0 V (listed.setIfInBounds i true) (a.put o.dst v) g' W) →
      wpOp P ops Q' i (fun a' W' => ∃ g', KInvP ops R R0 p W0 n Ts a0 V (listed.setIfInBounds i true) a' g' W') a W := by
    intro T hst hn hn0
    unfold wpOp
    simp only [ho]
    unfold kStep at hst
    rw [← wn] at hst
    by_cases hw : Region.wanted o (yielded ops a.tmps) = true
    · rw [if_pos hw] at hst ⊢
      refine .inl ?_
      have := hst (fun a' W' => ∃ v, a' = (kActs ops a0 (V g) i).put o.dst v ∧ ((if i = p then R else R0) W W' ∧ T v W')) (fun _ _ _ => False) (fun v W' h1 h2 => ⟨v, rfl, h1, h2⟩)
      exact Oper.wp_mono (fun a' W' => by rintro ⟨v, rfl, h1, h2⟩; exact hn v W' h1 h2) (wp_other (Q' := Q') ex hz this)
    · rw [if_neg hw] at hst ⊢
      exact hn0 undef hst (by simpa using hw) rfl
  cases s with
  | none =>
    simp only at ob
    rw [← wn] at ob
    have noT : ∀ {p : (Value → World → Prop) → Prop}, ∀ T, Ts[i]? = some (some (.inr T)) → p T := fun T hT => by rw [hs] at hT; cases hT
    unfold wpOp
    simp only [ho]
    by_cases hw : Region.wanted o (yielded ops a.tmps) = true
    · rw [if_pos hw] at ob ⊢
      refine .inl ?_
      have hq := ob W h.rel dg
      have same : ∀ u, (∀ j T, listed.getD j false = true → Ts[j]? = some (some (.inr T)) → u j = g j) → kQuietUpon W (V u i) ((execOp a.eval o).run P W) := by
        intro u hu
        obtain ⟨ex', wn'⟩ := h.toKInv.exec hB ho hi hr hu
        have ob' := (hV u i hi).2 o none ho hs
        simp only at ob'
        rw [← wn', if_pos hw] at ob'
        have := ob' W h.rel (deps u hu)
        unfold kQuiet at this
        rwa [← ex'] at this
      unfold kQuiet at hq
      rw [← ex] at hq
      unfold Oper.wp
      generalize (execOp a.eval o).run P W = r at *
      cases r with
      | halt x w' => exact hq.elim
      | ok nx w' =>
        cases nx with
        | value v =>
          simp only [kQuietUpon] at hq same
          simp only [Oper.upon]
          obtain ⟨e1, e2⟩ := hq
          refine next v w' ?_ noT ?_ (fun u hu _ => ((same u hu).2).symm)
          · rw [e1]; exact hrefi W
          · intro j T hl hT; rw [e1]; exact h.facts j T hl hT
        | skip =>
          simp only [kQuietUpon] at hq same
          simp only [Oper.upon]
          obtain ⟨e1, e2⟩ := hq
          refine next undef w' ?_ noT ?_ (fun u hu _ => (same u hu).2)
          · rw [e1]; exact hrefi W
          · intro j T hl hT; rw [e1]; exact h.facts j T hl hT
        | _ => exact hq.elim
    · rw [if_neg hw] at ob ⊢
      refine next undef W (hrefi W) noT (fun j T hl hT => h.facts j T hl hT) (fun u hu _ => ?_)
      obtain ⟨ex', wn'⟩ := h.toKInv.exec hB ho hi hr hu
      have ob' := (hV u i hi).2 o none ho hs
      simp only at ob'
      rw [← wn', if_neg hw] at ob'
      exact ob'
  | some s =>
    have mono : ∀ j T, Ts[j]? = some (some (.inr T)) → j < n → ∀ v W W', (if j = p then R0 else R) W W' → T v W → T v W' := by
      intro j T hT hj
      obtain ⟨oj, hoj⟩ : ∃ oj, ops[j]? = some oj := ⟨_, Array.getElem?_eq_getElem (by have := hB.le; omega)⟩
      have := (hV g j hj).2 oj _ hoj hT
      exact this.2.1
    have factsK : ∀ W', (if i = p then R else R0) W W' → ∀ j T, listed.getD j false = true → Ts[j]? = some (some (.inr T)) → T (g j) W' := by
      intro W' hR j T hl hT
      have hjn : j < n := by
        rcases Nat.lt_or_ge j n with h' | h'
        · exact h'
        · have hjs : j < ops.size := by
            rcases Nat.lt_or_ge j ops.size with h2 | h2
            · exact h2
            · rw [← h.head.size] at h2
              simp [Array.getElem?_eq_none h2] at hl
          have := getD_both (h.head.tail j h' hjs)
          rw [this] at hl; cases hl
      refine mono j T hT hjn _ _ _ ?_ (h.facts j T hl hT)
      by_cases ej : j = p
      · rw [if_pos ej]
        have ei : ¬ i = p := fun e => by rw [ej, ← e, hunf] at hl; cases hl
        rwa [if_neg ei] at hR
      · rw [if_neg ej]; exact hri _ _ hR
    cases s with
    | inl c =>
      simp only at ob
      have noT : ∀ {p : (Value → World → Prop) → Prop}, ∀ T, Ts[i]? = some (some (.inr T)) → p T := fun T hT => by rw [hs] at hT; cases hT
      have hc : ∀ u, V u i = c := fun u => by have := (hV u i hi).2 o _ ho hs; exact this.1
      refine viaStep _ (ob.2 W h.rel pre dg) (fun v W' hR hv => ?_) (fun v hv hw hu => ?_)
      · exact next v W' hR noT (factsK W' hR) (fun u _ _ => by rw [hc u, hv])
      · exact next v W (hrefi W) noT (factsK W (hrefi W)) (fun u _ _ => by rw [hc u, hv])
    | inr T =>
      simp only at ob
      have hc : ∀ u, V u i = u i := fun u => by have := (hV u i hi).2 o _ ho hs; exact this.1
      refine viaStep T (ob.2.2 W h.rel pre dg) (fun v W' hR hv => ?_) (fun v hv hw hu => ?_)
      · exact next v W' hR (fun T' hT' => by rw [hs] at hT'; cases hT'; exact hv) (factsK W' hR) (fun u _ hT => by rw [hc u, hT T hs])
      · exact next v W (hrefi W) (fun T' hT' => by rw [hs] at hT'; cases hT'; exact hv) (factsK W (hrefi W)) (fun u _ hT => by rw [hc u, hT T hs])

theorem KInvP.run {P : Program} {Q' : Exit → Act → World → Prop} (hB : KripB ops n) (hRefl : ∀ a, R a a) (htr : ∀ a b c, R a b → R b c → R a c) (h0Refl : ∀ a, R0 a a) (h0tr : ∀ a b c, R0 a b → R0 b c → R0 a c) (hsub : ∀ a b, R0 a b → R a b)
    (hV : ∀ u j, j < n → j < Ts.length ∧ KOblP P ops R R0 p W0 Ts a0 u (V u) j) (hfin : ∀ u W, R W0 W → (∀ i T, i < n → Ts[i]? = some (some (.inr T)) → T (u i) W) → wpList P ops Q' (ops.toList.drop n) (kActs ops a0 (V u) n) W) :
    ∀ (m : Nat) (listed : Array Bool) (a : Act) (g : Nat → Value) (W : World), KInvP ops R R0 p W0 n Ts a0 V listed a g W → (unl n listed).length = m → wpAny P .any ops Q' (m + (ops.size - n)) listed a W
  | 0, listed, a, g, W, h, hm => by
    have hall : ∀ j, j < n → listed.getD j false = true := fun j hj => by
      cases hl : listed.getD j false with
      | true => rfl
      | false =>
        have : j ∈ unl n listed := List.mem_filter.2 ⟨List.mem_range.2 hj, by simp only [hl]; rfl⟩
        rw [List.eq_nil_of_length_eq_zero hm] at this
        cases this
    have hnot : ∀ j, n ≤ j → ¬ listed.getD j false = true := fun j hj hl => by
      rcases Nat.lt_or_ge j ops.size with h2 | h2
      · have := getD_both (h.head.tail j hj h2); rw [this] at hl; cases hl
      · rw [← h.head.size] at h2
        simp [Array.getElem?_eq_none h2] at hl
    have el : listed = (List.replicate n true ++ List.replicate (ops.size - n) false).toArray := by
      have hsz := h.head.size
      have hle := hB.le
      apply Array.ext
      · simp; omega
      · intro j h1 h2
        by_cases hj : j < n
        · have := hall j hj
          simp [h1] at this
          simp [this, hj]
        · have := hnot j (by omega)
          simp [h1] at this
          simp [this, List.getElem_append, hj]
    have ea : a = kActs ops a0 (V g) n := by
      have hs := kActs_slots hB a0 (V g) n (Nat.le_refl _)
      have ht : ∀ d : Nat, a.tmps[d]? = (kActs ops a0 (V g) n).tmps[d]? := fun d => h.slots.same hs fun j oj hj hd => by
        by_cases hjn : j < n
        · exact ⟨⟨fun _ => hjn, fun _ => hall j hjn⟩, fun _ => (h.vals g (fun _ _ _ _ => rfl) j (hall j hjn)).symm⟩
        · exact ⟨⟨fun hl => absurd hl (hnot j (by omega)), fun hl => absurd hl hjn⟩, fun hl => absurd hl (hnot j (by omega))⟩
      have hd : a.defers = (kActs ops a0 (V g) n).defers := h.slots.defers.trans hs.defers.symm
      have htm : a.tmps = (kActs ops a0 (V g) n).tmps := Array.ext_getElem? ht
      cases a
      simp only at htm hd
      rw [htm, hd]
    have := hfin g W h.rel (fun i T hi hT => h.facts i T (hall i hi) hT)
    rw [← ea] at this
    have hseq := hB.seq
    rw [← el] at hseq
    have hdl : (ops.toList.drop n).length = ops.size - n := by simp
    have := wpAny_of_seq (md := .any) (Q' := Q') (ops.toList.drop n) n listed a W (fun j => by simp [List.getElem?_drop]) (by rw [hdl]; exact hseq) this
    rw [hdl] at this
    rw [Nat.zero_add]
    exact this
  | m + 1, listed, a, g, W, h, hm => by
    rw [show m + 1 + (ops.size - n) = (m + (ops.size - n)) + 1 by omega]
    have hle := hB.le
    have hne : ∃ i, i ∈ Region.ready .any ops listed ∧ i < n := by
      have hex : ∃ j, j < n ∧ listed.getD j false = false := by
        have : unl n listed ≠ [] := fun e => by rw [e] at hm; cases hm
        obtain ⟨j, hj⟩ := List.exists_mem_of_ne_nil _ this
        obtain ⟨h1, h2⟩ := List.mem_filter.1 hj
        exact ⟨j, List.mem_range.1 h1, by simpa using h2⟩
      have least : ∀ j, j < n → listed.getD j false = false → ∃ i, i ∈ Region.ready .any ops listed ∧ i < n := by
        intro j
        induction j using Nat.strongRecOn with
        | _ j ih =>
          intro hj hl
          have hjs : j < ops.size := by omega
          have ho : ops[j]? = some ops[j] := Array.getElem?_eq_getElem hjs
          by_cases hall : ∀ e ∈ (ops[j]).after, Region.binds .any e = true → listed.getD e.on false = true
          · exact ⟨j, mem_ready.2 ⟨getD_in (by rw [h.head.size]; exact hjs) hl, _, ho, hall⟩, hj⟩
          · have : ∃ e ∈ (ops[j]).after, Region.binds .any e = true ∧ listed.getD e.on false = false := by
              apply Classical.byContradiction
              intro hn
              apply hall
              intro e he hb
              cases hl : listed.getD e.on false with
              | true => rfl
              | false => exact absurd ⟨e, he, hb, hl⟩ hn
            obtain ⟨e, he, hb, hl'⟩ := this
            have hlow := hB.low j _ hj ho e he hb
            exact ih e.on hlow (by omega) hl'
      obtain ⟨j, hj, hl⟩ := hex
      exact least j hj hl
    refine ⟨fun h0 => ?_, fun i hi => ?_⟩
    · obtain ⟨i, hi, _⟩ := hne
      rw [h0] at hi; cases hi
    · have hin : i < n := by
        rcases Nat.lt_or_ge i n with h' | h'
        · exact h'
        · obtain ⟨k, hk, hkn⟩ := hne
          have hkun := (mem_ready.1 hk).1
          have his : i < ops.size := by obtain ⟨_, o, ho, _⟩ := mem_ready.1 hi; exact (Array.getElem?_eq_some_iff.1 ho).1
          rcases hB.tail with ht | ⟨hs, hc⟩
          · omega
          · exact absurd hi (tail_waits hs hc (by omega) h.head _ k rfl hkn hkun i h')
      have hun := (mem_ready.1 hi).1
      have hsz : i < listed.size := by rw [h.head.size]; omega
      refine wpOp_mono (fun a' W' => ?_) (h.step hB hRefl htr h0Refl h0tr hsub hV hin hi)
      rintro ⟨g', hg'⟩
      have := unl_set hin hsz (getD_both hun)
      exact KInvP.run hB hRefl htr h0Refl h0tr hsub hV hfin m _ a' g' W' hg' (by omega)

/-- A region that draws its order: the first n operations, each shown once, in whatever later world it comes up; then the rest, one behind the other. -/
theorem wp_region_kpiv {P : Program} (R R0 : World → World → Prop) (p : Nat) (hRefl : ∀ a, R a a) (htr : ∀ a b c, R a b → R b c → R a c) (h0Refl : ∀ a, R0 a a) (h0tr : ∀ a b c, R0 a b → R0 b c → R0 a c) (hsub : ∀ a b, R0 a b → R a b) {id : Nat} {Q' : Exit → Act → World → Prop} {a : Act} {w : World} {l : List Oper} (n : Nat) (hm : P.follows .mixedOrders = true)
    (hB : kripB l.toArray n = true) {Ts : List KSpec}
    (h : kAllP P l.toArray R R0 p w.drew (fun a W => wpList P l.toArray Q' (l.drop n) a W) 0 (l.take n) Ts a []) : (Code.region id l.toArray true).wp P Q' a w := by
  have hB := kripB_spec hB
  have hle := hB.le
  refine wp_region_any hm ?_
  have dat := fun u => kAllP_data (Ts := Ts) (a0 := a) u (l.take n) Ts 0 [] (fun _ => undef) (fun j hj => by
    have : j < n := by simp at hj; omega
    simp [this]) (fun j => by simp) (fun _ _ _ => trivial) (fun _ _ => trivial) h
  have hlen : 0 + (l.take n).length = n := by simp at hle ⊢; omega
  rw [hlen] at dat
  let V := fun u => Classical.choose (dat u)
  have hV : ∀ u, _ := fun u => Classical.choose_spec (dat u)
  have inv0 : KInvP l.toArray R R0 p w.drew n Ts a V (Array.replicate l.toArray.size false) a (fun _ => undef) w.drew := by
    refine ⟨⟨⟨by simp, fun j oj _ hl => (by rw [getD_replicate_false] at hl; cases hl), fun t _ ht => getD_in (by simpa using ht) (getD_replicate_false _ _)⟩, hRefl _, fun j T hl => (by rw [getD_replicate_false] at hl; cases hl), fun u _ j hl => (by rw [getD_replicate_false] at hl; cases hl), ?_⟩, fun _ => h0Refl _⟩
    exact (KSlots.init l.toArray a (fun _ => undef)).congrL (fun j _ => by rw [getD_replicate_false]; simp) (fun _ h => h.elim)
  have hu0 : (unl n (Array.replicate l.toArray.size false)).length = n := by
    unfold unl
    rw [List.filter_eq_self.2 (fun j _ => by rw [getD_replicate_false]; rfl)]
    simp
  have := KInvP.run (P := P) (Q' := Q') hB hRefl htr h0Refl h0tr hsub (Ts := Ts) (V := V) (fun u j hj => (hV u).2.1 j (Nat.zero_le _) (by omega)) (fun u W hW hf => by
    exact (hV u).2.2 W hW (fun i T hi hT => hf i T (by omega) hT)) n _ a _ w.drew inv0 hu0
  rw [show n + (l.toArray.size - n) = l.toArray.size by omega] at this
  exact this
end

section
variable {P : Program} {ops : Array Oper} {R R0 : World → World → Prop} {p : Nat} {W0 : World} {Q : Act → World → Prop} {k : Nat} {o : Oper} {l : List Oper} {Ts : List KSpec} {a : Act} {F : List (Nat × (World → Prop))}
theorem kAllP_p (h : ∀ K : Act → Prop, (∀ a', kAllP P ops R R0 p W0 Q (k + 1) l Ts a' F → K a') → if Region.wanted o (yielded ops a.tmps) then ∃ v, (∀ W, kQuiet P o a W v) ∧ K (a.put o.dst v) else K (a.put o.dst undef)) :
    kAllP P ops R R0 p W0 Q k (o :: l) (none :: Ts) a F := by
  unfold kAllP
  have := h _ (fun _ h => h)
  split
  · rename_i hw
    rw [if_pos hw] at this
    obtain ⟨v, h1, h2⟩ := this
    exact ⟨v, fun W _ _ => h1 W, h2⟩
  · rename_i hw
    rw [if_neg hw] at this
    exact this
theorem kAllP_skip (hw : Region.wanted o (yielded ops a.tmps) = false) (h : kAllP P ops R R0 p W0 Q (k + 1) l Ts (a.put o.dst undef) F) : kAllP P ops R R0 p W0 Q k (o :: l) (none :: Ts) a F := by
  unfold kAllP; rw [if_neg (by simp [hw])]; exact h
theorem kAllP_pw (hw : Region.wanted o (yielded ops a.tmps) = true) (h : ∀ K : Act → Prop, (∀ a', kAllP P ops R R0 p W0 Q (k + 1) l Ts a' F → K a') → ∃ v, (∀ W, kQuiet P o a W v) ∧ K (a.put o.dst v)) : kAllP P ops R R0 p W0 Q k (o :: l) (none :: Ts) a F := by
  unfold kAllP; rw [if_pos hw]
  obtain ⟨v, h1, h2⟩ := h _ (fun _ h => h)
  exact ⟨v, fun W _ _ => h1 W, h2⟩
/-- an operation whose value is known, not the pivot -/
theorem kAllP_d (c : Value) (hk : k ≠ p) (h : ∀ W, R W0 W → kHas o W F → kStep P ops R0 o a W (fun v _ => v = c)) (hr : kAllP P ops R R0 p W0 Q (k + 1) l Ts (a.put o.dst c) F) : kAllP P ops R R0 p W0 Q k (o :: l) (some (.inl c) :: Ts) a F := by
  unfold kAllP
  exact ⟨fun W hW _ hF => by rw [if_neg hk]; exact h W hW hF, hr⟩
/-- the pivot -/
theorem kAllP_t (T : Value → World → Prop) (hk : k = p) (hm : ∀ v W W', R0 W W' → T v W → T v W') (h : ∀ W, R0 W0 W → kHas o W F → kStep P ops R o a W T) (hr : ∀ u, kAllP P ops R R0 p W0 Q (k + 1) l Ts (a.put o.dst u) ((k, T u) :: F)) : kAllP P ops R R0 p W0 Q k (o :: l) (some (.inr T) :: Ts) a F := by
  unfold kAllP
  exact ⟨fun v W W' hR => hm v W W' (by rwa [if_pos hk] at hR), fun W _ hp hF => by rw [if_pos hk]; exact h W (hp hk) hF, hr⟩
/-- a fact, not the pivot's -/
theorem kAllP_u (T : Value → World → Prop) (hk : k ≠ p) (hm : ∀ v W W', R W W' → T v W → T v W') (h : ∀ W, R W0 W → kHas o W F → kStep P ops R0 o a W T) (hr : ∀ u, kAllP P ops R R0 p W0 Q (k + 1) l Ts (a.put o.dst u) ((k, T u) :: F)) : kAllP P ops R R0 p W0 Q k (o :: l) (some (.inr T) :: Ts) a F := by
  unfold kAllP
  exact ⟨fun v W W' hR => hm v W W' (by rwa [if_neg hk] at hR), fun W hW _ hF => by rw [if_neg hk]; exact h W hW hF, hr⟩
theorem kAllP_nil (h : ∀ W, R W0 W → kAllHas W F → Q a W) : kAllP P ops R R0 p W0 Q k [] Ts a F := by
  cases Ts <;> (unfold kAllP; exact h)
end
end Go.Proofs.YtgoldgamjogadaaGreat
