/-
  Ticks: how they lie; ident.May; clock.Get.
-/
import Derived.Test.YtlfpefnlgiohbaaGreatEq
import Derived.Test.YtlfpefnlgiohbaaGreatCloP
namespace Go.Proofs.YtlfpefnlgiohbaaGreat
open Go.RowKit

abbrev cT (t : Tick) : List Value := [.int .i64 t.1.1, .int .i64 t.1.2, .int .i64 t.2]
abbrev tV (t : Tick) : Value := .agg #[.int .i64 t.1.1, .int .i64 t.1.2, .int .i64 t.2]
def tick0 : Tick := ((0, 0), 0)
/-- a list of ticks that can be read -/
def RdT (w : World) (A : Option Addr) (n : Nat) (l : List Tick) : Prop := l.length = n ∧ RdK w 3 A n (l.flatMap cT)
theorem RdT.keep0 {w w' : World} {A : Option Addr} {n : Nat} {l : List Tick} (h : RdT w A n l) (hk : Keep (fun _ => False) w w') : RdT w' A n l := ⟨h.1, h.2.keep0 hk⟩
theorem RdT.at_ {w : World} {A : Option Addr} {n : Nat} {l : List Tick} (h : RdT w A n l) {i : Nat} (hi : i < n) : ∃ g off, A = some ⟨g, off, none⟩ ∧ w.cell? ⟨g, off + i * 3, none⟩ = some (.int .i64 (l.getD i tick0).1.1) ∧ w.cell? ⟨g, off + i * 3 + 1, none⟩ = some (.int .i64 (l.getD i tick0).1.2) ∧ w.cell? ⟨g, off + i * 3 + 2, none⟩ = some (.int .i64 (l.getD i tick0).2) := by
  have hl : i < l.length := by rw [h.1]; exact hi
  have e : l.getD i tick0 = l[i] := by simp [List.getD, hl]
  obtain ⟨g, off, v, h1, h2, h3⟩ := h.2.2 (i * 3) (by omega)
  obtain ⟨g', off', v', h1', h2', h3'⟩ := h.2.2 (i * 3 + 1) (by omega)
  rw [h1] at h1'; injection h1' with h1'; injection h1' with q1 q2; subst q1 q2
  obtain ⟨g', off', v'', h1', h2'', h3''⟩ := h.2.2 (i * 3 + 2) (by omega)
  rw [h1] at h1'; injection h1' with h1'; injection h1' with q1 q2; subst q1 q2
  have f0 := flat_get cT 3 (fun _ => rfl) l i 0 hl (by omega)
  have f1 := flat_get cT 3 (fun _ => rfl) l i 1 hl (by omega)
  have f2 := flat_get cT 3 (fun _ => rfl) l i 2 hl (by omega)
  rw [Nat.add_zero, h2] at f0
  rw [h2'] at f1
  rw [h2''] at f2
  simp at f0 f1 f2
  exact ⟨g, off, h1, by rw [h3, e, f0], by rw [Nat.add_assoc, h3', e, f1], by rw [Nat.add_assoc, h3'', e, f2]⟩
/-- a slice of ticks that can be read -/
def TSl (w : World) (A : Option Addr) (n c : Nat) (l : List Tick) : Prop := RdT w A n l ∧ n ≤ c ∧ c ≤ maxLen ∧ (A = none ∨ ∃ g off, A = some ⟨g, off, none⟩)
theorem TSl.keep0 {w w' : World} {A : Option Addr} {n c : Nat} {l : List Tick} (h : TSl w A n c l) (hk : Keep (fun _ => False) w w') : TSl w' A n c l := ⟨h.1.keep0 hk, h.2⟩
theorem SlK.tsl {w : World} {t : TypeId} {row : Option Nat} {A : Option Addr} {n c : Nat} {l : List Tick} (h : SlK w t 3 row A n c (l.flatMap cT)) : TSl w A n c l :=
  ⟨⟨by have := h.1; rw [flat_len cT 3 (fun _ => rfl)] at this; omega, h.rd⟩, h.2.1, h.2.2.1, by
    rcases h.2.2.2 with ⟨_, e, _⟩ | ⟨g, off, _, _, e, _⟩
    · exact .inl e
    · exact .inr ⟨g, off, e⟩⟩
theorem RdT.none_ (w : World) (A : Option Addr) : RdT w A 0 [] := ⟨rfl, by simp, fun j hj => by omega⟩
theorem TSl.nil_ (w : World) : TSl w none 0 0 [] := ⟨RdT.none_ _ _, Nat.le_refl _, by simp [maxLen], .inl rfl⟩
/-- a slice of ticks, to be read -/
def GotT (l : List Tick) (w : World) (e : Ending) (w' : World) : Prop := ∃ A n c, e = .returned (.slice A n c) ∧ TSl w' A n c l ∧ Keep (fun _ => False) w w'

set_option maxHeartbeats 400000 in
theorem may_any (p : ID) (w : World) : Calls Tryz.prog 33 #[idV p] w (Tell (.bool (mayID p)) w) := by
  obtain ⟨a, i⟩ := p
  go_enter Tryz.func33, Tryz.ntmps33
  go_wp2
  all_goals
    go_ret
    refine ⟨ret_bool ?_, (Keep.refl _ w).alloc _⟩
    rw [Bool.eq_iff_iff]
    simp only [mayID, decide_eq_true_eq]
    first | (simp; omega) | omega

theorem get_next {l : List Tick} {k : Nat} (x : ID) (hk : k < l.length) : ((l.getD k tick0).1 = x → getM (l.take (k + 1)) x = max (getM (l.take k) x) (l.getD k tick0).2) ∧ (¬ (l.getD k tick0).1 = x → getM (l.take (k + 1)) x = getM (l.take k) x) := by
  have e : l.getD k tick0 = l[k] := by simp [List.getD, hk]
  rw [e, List.take_succ_eq_append_getElem hk, getM_app, getM_cons]
  have h0 : getM [] x = 0 := rfl
  have h1 := getM_nn (l.take k) x
  rw [h0]
  constructor
  · intro h; rw [if_pos h]; omega
  · intro h; rw [if_neg h]; omega
set_option maxRecDepth 100000 in
set_option maxHeartbeats 1000000 in
theorem cloGet_any (A : Option Addr) (n c : Nat) (l : List Tick) (x : ID) (w : World) (h : RdT w A n l) (hn : n ≤ 9223372036854775807) :
    Calls Tryz.prog 352 #[.slice A n c, idV x] w (Tell (.int .i64 (getM l x)) w) := by
  obtain ⟨a, i⟩ := x
  have HL := Lib.hid h.1
  have HR := Lib.hid h
  clear h
  obtain ⟨W0, hW0⟩ : ∃ W0, w.alloc (.cells #[.int .i64 a, .int .i64 i] 30) = W0 := ⟨_, rfl⟩
  have hB : Blk W0 w.heap.size 30 #[.int .i64 a, .int .i64 i] := by rw [← hW0]; exact Blk.new _ _ _
  have hK : Keep (fun _ => False) w W0 := by rw [← hW0]; exact (Keep.refl _ w).alloc _
  have HB := Lib.hid hB
  have HK := Lib.hid hK
  clear hB hK
  go_enter Tryz.func352, Tryz.ntmps352
  go_wp2
  have HW0 := Lib.hid hW0
  clear hW0
  go_loopw [10, 5] (fun j v wr => ∃ k : Nat, k ≤ n ∧ j = .int .i64 (k : Int) ∧ v = .int .i64 (getM (l.take k) (a, i)) ∧ Hid (Keep (fun _ => False) W0 wr)) (fun j _ _ => n - (intOf j).toNat)
  case atStart => exact ⟨0, by omega, rfl, rfl, Lib.hid (Keep.refl _ _)⟩
  case round =>
    obtain ⟨k, hk, rfl, rfl, HKr⟩ := hrel
    by_cases hlt : k < n
    · obtain ⟨g, off, hA, c0, c1, c2⟩ := HR.out.at_ hlt
      have kk := keep0_trans _ _ _ HK.out HKr.out
      have q0 := kk.cell c0 (fun h => h)
      have q1 := kk.cell c1 (fun h => h)
      have q2 := kk.cell c2 (fun h => h)
      have HBr := Lib.hid (HB.out.keep HKr.out (fun h => h))
      have HX := Lib.hid (get_next (l := l) (k := k) (a, i) (by rw [HL.out]; exact hlt))
      subst hA
      clear c0 c1 c2 kk
      generalize getM (l.take k) (a, i) = N0 at HX
      generalize l.getD k tick0 = t at q0 q1 q2 HX
      obtain ⟨⟨b, j⟩, m⟩ := t
      simp only at q0 q1 q2
      obtain ⟨W1, hW1⟩ : ∃ W1, wr.alloc (.cells #[.int .i64 b, .int .i64 j, .int .i64 m] 178) = W1 := ⟨_, rfl⟩
      have hE : Blk W1 wr.heap.size 178 #[.int .i64 b, .int .i64 j, .int .i64 m] := by rw [← hW1]; exact Blk.new _ _ _
      have hk1 : Keep (fun _ => False) wr W1 := by rw [← hW1]; exact (Keep.refl _ wr).alloc _
      have hE0 := hE.cell 0
      have hE1 := hE.cell 1
      have hE2 := hE.cell 2
      have b0 := hk1.cell (HBr.out.cell 0) (fun h => h)
      have b1 := hk1.cell (HBr.out.cell 1) (fun h => h)
      have HK1 := Lib.hid (keep0_trans _ _ _ HKr.out hk1)
      clear hE hk1
      have hkI : (k : Int) < (n : Int) := by omega
      have hkJ : (0 : Int) ≤ (k : Int) := by omega
      have e2 : IntKind.i64.wrap (k : Int) = (k : Int) := IntWalk.i64_in _ (by omega)
      have G := gID
      by_cases he : (b, j) = (a, i)
      · have E := (fun W => by simpa [he] using eql_ID (b, j) (a, i) W : ∀ W, (binOp .eql 30 (idV (b, j)) (idV (a, i))).run Tryz.prog W = .ok (.bool true) W)
        have HM := Lib.hid (HX.out.1 he)
        clear he HX
        go_wp2
        go_roundw
        case rel => exact ⟨k + 1, by omega, by go_num, by rw [HM.out]; congr 1; split <;> omega, HK1⟩
        case measure => simp [intOf]; omega
      · have E := (fun W => by simpa [he] using eql_ID (b, j) (a, i) W : ∀ W, (binOp .eql 30 (idV (b, j)) (idV (a, i))).run Tryz.prog W = .ok (.bool false) W)
        have HM := Lib.hid (HX.out.2 he)
        clear he HX
        go_wp2
        go_roundw
        case rel => exact ⟨k + 1, by omega, by go_num, by rw [HM.out], HK1⟩
        case measure => simp [intOf]; omega
    · obtain rfl : k = n := by omega
      have HM : Hid (getM (l.take k) (a, i) = getM l (a, i)) := Lib.hid (by rw [List.take_of_length_le (by rw [HL.out]; exact Nat.le_refl _)])
      go_wp2
      go_ret
      exact ⟨ret_int HM.out, keep0_trans _ _ _ HK.out HKr.out⟩
end Go.Proofs.YtlfpefnlgiohbaaGreat
