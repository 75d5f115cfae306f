/-
  clock.Join.
-/
import Derived.Test.YtljmpjkfdkcjnaaCloE
namespace Go.Proofs.Ytljmpjkfdkcjnaa
open Go.RowKit

def joinF (l k : List Tick) (id : ID) : Tick := (id, max (getM l id) (getM k id))
theorem joinM_map (l k : List Tick) : joinM l k = (idsM l k).map (joinF l k) := rfl
/-- behind j of each's rounds -/
def JJ (w w1 : World) (Bo : Nat) (l k : List Tick) (j : Nat) (W : World) : Prop :=
  ∃ row A c, Blk W Bo 24 #[.slice A j c] ∧ SlK W 35 3 row A j c ((((idsM l k).take j).map (joinF l k)).flatMap cT) ∧ (∀ g, row = some g → w1.heap.size ≤ g) ∧ Keep (fun g => g = Bo) w1 W ∧ Keep (fun _ => False) w W
theorem JJ.keep0 {w w1 : World} {Bo : Nat} {l k : List Tick} {j : Nat} {W W' : World} (h : JJ w w1 Bo l k j W) (hk : Keep (fun _ => False) W W') : JJ w w1 Bo l k j W' := by
  obtain ⟨row, A, c, h1, h2, h3, h4, h5⟩ := h
  exact ⟨row, A, c, h1.keep hk (fun h => h), h2.keep hk (fun _ _ h => h), h3, h4.trans (hk.mono fun _ _ h => h.elim), keep0_trans _ _ _ h5 hk⟩
theorem JJ.step {w w1 : World} {Bo : Nat} {l k : List Tick} {j : Nat} {W : World} (h : JJ w w1 Bo l k j W) (hj : j < (idsM l k).length) (hlen : (idsM l k).length ≤ 2000000) (hBo : w.heap.size ≤ Bo) (hw1 : w.heap.size ≤ w1.heap.size) :
    Calls Try.prog 22 #[idV ((idsM l k).getD j (0, 0)), .int .i64 (getM l ((idsM l k).getD j (0, 0))), .int .i64 (getM k ((idsM l k).getD j (0, 0))), .pointer (some ⟨Bo, 0, none⟩)] W (fun e W' => (∃ v, e = .returned v) ∧ JJ w w1 Bo l k (j + 1) W') := by
  obtain ⟨row, A, c, h1, h2, h3, h4, h5⟩ := h
  have e : (idsM l k).getD j (0, 0) = (idsM l k)[j] := by simp [List.getD, hj]
  refine (join1_any Bo row A j c _ _ _ _ W h1 h2 (by omega)).mono ?_
  rintro e' W' ⟨hv, row', A', c', q1, q2, q3, q4⟩
  refine ⟨hv, row', A', c', q1, ?_, ?_, ?_, ?_⟩
  · rw [List.take_succ_eq_append_getElem hj, List.map_append, List.map_cons, List.map_nil]
    rw [e] at q2
    exact q2
  · intro g hg
    rcases q3 with q | ⟨g', q, hg'⟩
    · exact h3 g (by rw [← q, hg])
    · rw [hg] at q; injection q with q; have := h4.size; omega
  · refine h4.trans (q4.mono fun g _ hg => ?_)
    rcases hg with hg | hg
    · exact .inl hg
    · exact .inr (h3 g hg)
  · refine h5.trans (q4.mono fun g _ hg => ?_)
    rcases hg with hg | hg
    · exact .inr (by omega)
    · exact .inr (Nat.le_trans hw1 (h3 g hg))
theorem idsM_len {l k : List Tick} {n m : Nat} (h : l.length = n) (h2 : k.length = m) (hn : n ≤ 1000000) (hm : m ≤ 1000000) : (idsM l k).length ≤ 2000000 := by
  rw [idsM_pos]
  have h1 := setM_len (posI (l ++ k))
  have h3 := posI_len (l ++ k)
  rw [List.length_append, h, h2] at h3
  omega
set_option maxRecDepth 100000 in
set_option maxHeartbeats 1000000 in
theorem joinC_any (A B : Option Addr) (n m c d : Nat) (l k : List Tick) (w : World) (h : RdT w A n l) (h2 : RdT w B m k) (hn : n ≤ 1000000) (hm : m ≤ 1000000) :
    Calls Try.prog 15 #[.slice A n c, .slice B m d] w (NewT (joinM l k) w) := by
  have HR := Lib.hid h
  have HR2 := Lib.hid h2
  have hlen := idsM_len h.1 h2.1 hn hm
  clear h h2
  have hE := fun w0 (h0 : w0 = w.alloc (.cells #[.slice none 0 0] 24)) => each_join A B n m c d l k w.heap.size w0 (fun g => g = w.heap.size) (JJ w w w.heap.size l k (idsM l k).length) hn hm (by subst h0; exact HR.out.keep0 ((Keep.refl _ w).alloc _)) (by subst h0; exact HR2.out.keep0 ((Keep.refl _ w).alloc _)) (by subst h0; intro g hg; simp; omega) (fun w1 hw1 => by
    have hb0 : Blk w0 w.heap.size 24 #[.slice none 0 0] := by subst h0; exact Blk.new _ _ _
    have hk0 : Keep (fun _ => False) w w0 := by subst h0; exact (Keep.refl _ w).alloc _
    have hk1 := keep0_trans _ _ _ hk0 hw1
    refine ⟨JJ w w1 w.heap.size l k, ⟨none, none, 0, hb0.keep hw1 (fun h => h), SlK.nil_ _ _ _, (fun g hg => by cases hg), Keep.refl _ _, hk1⟩, (fun j W W' hj hk => hj.keep0 hk), (fun j W hj => ?_), (fun j W hj hJ => hJ.step hj hlen (Nat.le_refl _) hk1.size), (fun W hJ => ?_)⟩
    · obtain ⟨_, _, _, _, _, _, q4, q5⟩ := hj
      exact ⟨HR.out.keep0 q5, HR2.out.keep0 q5, q4⟩
    · obtain ⟨row, A', c', q1, q2, q3, q4, q5⟩ := hJ
      exact ⟨row, A', c', q1, q2, (fun g hg => Nat.le_trans hk1.size (q3 g hg)), q5.mono (fun _ _ h => h.elim), q5⟩)
  have HE := Lib.hid hE
  clear hE
  go_enter Try.func15, Try.ntmps15
  go_wp2_with fail
  refine (HE.out _ rfl).mono ?_
  rintro e w1 ⟨rfl, row, A', c', h1, h2, h3, h4, h5⟩
  have q0 := h1.cell 0
  have H2 := Lib.hid h2
  have H3 := Lib.hid h3
  have H5 := Lib.hid h5
  clear h2 h3 h4 h5 h1
  go_wp2
  go_ret
  have e1 : (joinM l k).length = (idsM l k).length := by rw [joinM_map, List.length_map]
  refine ⟨row, A', c', by rw [e1]; rfl, ?_, H3.out, H5.out⟩
  have := H2.out
  rw [List.take_length, ← joinM_map] at this
  rw [e1]
  exact this
end Go.Proofs.Ytljmpjkfdkcjnaa
