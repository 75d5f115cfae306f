/-
  clock.Compare.
-/
import Derived.Test.YtljmpjkfdkcjnaaCloF
namespace Go.Proofs.Ytljmpjkfdkcjnaa
open Go.RowKit

theorem blk_cast {w : World} {g : Nat} {t : TypeId} {cs cs' : Array Value} (h : Blk w g t cs) (e : cs = cs') : Blk w g t cs' := e ▸ h
set_option maxRecDepth 100000 in
set_option maxHeartbeats 2000000 in
theorem compare1_any (Bx By : Nat) (x y : Bool) (d : ID) (p q : Int) (w : World) (hx : Blk w Bx 4 #[.bool x]) (hy : Blk w By 4 #[.bool y]) (hne : Bx ≠ By) :
    Calls Try.prog 19 #[idV d, .int .i64 p, .int .i64 q, .pointer (some ⟨Bx, 0, none⟩), .pointer (some ⟨By, 0, none⟩)] w (fun e w' => (∃ v, e = .returned v) ∧ Blk w' Bx 4 #[.bool (x || decide (p < q))] ∧ Blk w' By 4 #[.bool (y || decide (p > q))] ∧ Keep (fun g => g = Bx ∨ g = By) w w') := by
  obtain ⟨a, i⟩ := d
  have hk0 := (Keep.refl (fun _ => False) w).alloc (.cells #[.int .i64 a, .int .i64 i] 28)
  have hbx := hx.keep hk0 (fun h => h)
  have hby := hy.keep hk0 (fun h => h)
  have cx := hbx.cell 0
  have cy := hby.cell 0
  have fx := hbx.frozen 0
  have fy := hby.frozen 0
  have HX := Lib.hid hbx
  have HY := Lib.hid hby
  have HK0 := Lib.hid hk0
  have hne2 : By ≠ Bx := fun e => hne e.symm
  clear hk0 hbx hby hx hy
  obtain ⟨u, v, d1, d2, d3, huv⟩ : ∃ u v, decide (p < q) = u ∧ decide (p > q) = v ∧ decide (q < p) = v ∧ (u && v) = false := ⟨_, _, rfl, rfl, rfl, by rw [← Bool.decide_and, decide_eq_false_iff_not]; omega⟩
  cases x <;> cases y <;> cases u <;> cases v <;> try (exact absurd huv (by decide))
  all_goals
    have e1 := d1
    have e2 := d2
    have e3 := d3
    simp only [decide_eq_true_eq, decide_eq_false_iff_not] at e1 e2 e3
    go_enter Try.func19, Try.ntmps19
    go_wp2
    go_end0
    refine ⟨⟨_, rfl⟩, ?_, ?_, ?_⟩
    · refine blk_cast ((HX.out.set_ 0 (.bool _)).far (p := ⟨By, 0, none⟩) hne (.bool _)) ?_
      simp
    · refine blk_cast ((HY.out.far (p := ⟨Bx, 0, none⟩) hne2 (.bool _)).set_ 0 (.bool _)) ?_
      simp
    · exact (HK0.out.mono (fun _ _ h => h.elim)).setCell (fun _ => .inl rfl) _ |>.setCell (fun _ => .inr rfl) _
def anyL (l k : List Tick) (j : Nat) : Bool := ((idsM l k).take j).any (fun id => decide (getM l id < getM k id))
def anyG (l k : List Tick) (j : Nat) : Bool := ((idsM l k).take j).any (fun id => decide (getM l id > getM k id))
/-- behind j of each's rounds -/
def JC (w w1 : World) (Bx By : Nat) (l k : List Tick) (j : Nat) (W : World) : Prop :=
  Blk W Bx 4 #[.bool (anyL l k j)] ∧ Blk W By 4 #[.bool (anyG l k j)] ∧ Keep (fun g => g = Bx ∨ g = By) w1 W ∧ Keep (fun _ => False) w W
theorem JC.keep0 {w w1 : World} {Bx By : Nat} {l k : List Tick} {j : Nat} {W W' : World} (h : JC w w1 Bx By l k j W) (hk : Keep (fun _ => False) W W') : JC w w1 Bx By l k j W' := by
  obtain ⟨h1, h2, h4, h5⟩ := h
  exact ⟨h1.keep hk (fun h => h), h2.keep hk (fun h => h), h4.trans (hk.mono fun _ _ h => h.elim), keep0_trans _ _ _ h5 hk⟩
theorem JC.step {w w1 : World} {Bx By : Nat} {l k : List Tick} {j : Nat} {W : World} (h : JC w w1 Bx By l k j W) (hj : j < (idsM l k).length) (hBx : w.heap.size ≤ Bx) (hBy : w.heap.size ≤ By) (hne : Bx ≠ By) :
    Calls Try.prog 19 #[idV ((idsM l k).getD j (0, 0)), .int .i64 (getM l ((idsM l k).getD j (0, 0))), .int .i64 (getM k ((idsM l k).getD j (0, 0))), .pointer (some ⟨Bx, 0, none⟩), .pointer (some ⟨By, 0, none⟩)] W (fun e W' => (∃ v, e = .returned v) ∧ JC w w1 Bx By l k (j + 1) W') := by
  obtain ⟨h1, h2, h4, h5⟩ := h
  have e : (idsM l k).getD j (0, 0) = (idsM l k)[j] := by simp [List.getD, hj]
  have eL : anyL l k (j + 1) = (anyL l k j || decide (getM l ((idsM l k).getD j (0, 0)) < getM k ((idsM l k).getD j (0, 0)))) := by
    unfold anyL; rw [List.take_succ_eq_append_getElem hj, List.any_append, e]; simp
  have eG : anyG l k (j + 1) = (anyG l k j || decide (getM l ((idsM l k).getD j (0, 0)) > getM k ((idsM l k).getD j (0, 0)))) := by
    unfold anyG; rw [List.take_succ_eq_append_getElem hj, List.any_append, e]; simp
  refine (compare1_any Bx By _ _ _ _ _ W h1 h2 hne).mono ?_
  rintro e' W' ⟨hv, q1, q2, q4⟩
  refine ⟨hv, by rw [eL]; exact q1, by rw [eG]; exact q2, h4.trans (q4.mono fun g _ hg => .inl hg), h5.trans (q4.mono fun g _ hg => .inr ?_)⟩
  rcases hg with hg | hg <;> omega
set_option maxRecDepth 100000 in
set_option maxHeartbeats 1000000 in
theorem compareC_any (A B : Option Addr) (n m c d : Nat) (l k : List Tick) (w : World) (h : RdT w A n l) (h2 : RdT w B m k) (hn : n ≤ 1000000) (hm : m ≤ 1000000) :
    Calls Try.prog 9 #[.slice A n c, .slice B m d] w (Tell (.int .u8 (cmpM l k)) w) := by
  have HR := Lib.hid h
  have HR2 := Lib.hid h2
  clear h h2
  obtain ⟨w0, h0⟩ : ∃ w0, w0 = (w.alloc (.cells #[.bool false] 4)).alloc (.cells #[.bool false] 4) := ⟨_, rfl⟩
  have hE := fun w0 (h0 : w0 = (w.alloc (.cells #[.bool false] 4)).alloc (.cells #[.bool false] 4)) => each_cmp A B n m c d l k w.heap.size (w.heap.size + 1) w0 (fun g => g = w.heap.size ∨ g = w.heap.size + 1) (JC w w w.heap.size (w.heap.size + 1) l k (idsM l k).length) hn hm (by subst h0; exact HR.out.keep0 (((Keep.refl _ w).alloc _).alloc _)) (by subst h0; exact HR2.out.keep0 (((Keep.refl _ w).alloc _).alloc _)) (by subst h0; intro g hg; simp; omega) (fun w1 hw1 => by
    have hb0 : Blk w0 w.heap.size 4 #[.bool false] := by subst h0; exact (Blk.new _ _ _).alloc _
    have hb1 : Blk w0 (w.heap.size + 1) 4 #[.bool false] := by subst h0; exact Blk.new_ (by simp) _ _
    have hk0 : Keep (fun _ => False) w w0 := by subst h0; exact ((Keep.refl _ w).alloc _).alloc _
    have hk1 := keep0_trans _ _ _ hk0 hw1
    refine ⟨JC w w1 w.heap.size (w.heap.size + 1) l k, ⟨hb0.keep hw1 (fun h => h), hb1.keep hw1 (fun h => h), Keep.refl _ _, hk1⟩, (fun j W W' hj hk => hj.keep0 hk), (fun j W hj => ?_), (fun j W hj hJ => hJ.step hj (Nat.le_refl _) (by omega) (by omega)), (fun W hJ => ?_)⟩
    · obtain ⟨_, _, q4, q5⟩ := hj
      exact ⟨HR.out.keep0 q5, HR2.out.keep0 q5, q4⟩
    · obtain ⟨q1, q2, q4, q5⟩ := hJ
      exact ⟨q1, q2, q5.mono (fun _ _ h => h.elim), q5⟩)
  have HE := Lib.hid hE
  clear hE
  go_enter Try.func9, Try.ntmps9
  go_wp2_with fail
  refine (HE.out _ rfl).mono ?_
  rintro e w1 ⟨rfl, h1, h2, _, h5⟩
  have q0 := h1.cell 0
  have q1 := h2.cell 0
  have H5 := Lib.hid h5
  have eL : anyL l k (idsM l k).length = lessM l k := by unfold anyL lessM; rw [List.take_length]
  have eG : anyG l k (idsM l k).length = lessM k l := by unfold anyG; rw [List.take_length]; exact cmpM_more l k
  rw [eL] at q0
  rw [eG] at q1
  have HV := Lib.hid (show cmpM l k = if lessM l k = true ∧ lessM k l = true then 4 else if lessM l k = true then 2 else if lessM k l = true then 3 else 1 from rfl)
  clear h1 h2 h5 eL eG h0
  cases e1 : lessM l k <;> cases e2 : lessM k l
  all_goals
    rw [e1] at q0
    rw [e2] at q1
    rw [e1, e2] at HV
    go_wp2
    go_ret
    exact ⟨ret_int (by rw [HV.out]; rfl), H5.out⟩
end Go.Proofs.Ytljmpjkfdkcjnaa
