/-
  Roster: the laws' own words.
-/
import Derived.Test.YthlfgjlnjmjppaaRosO
import Derived.Test.YthlfgjlnjmjppaaRosU
import Derived.Test.YthlfgjlnjmjppaaKord
import Derived.Deep.Cut
namespace Go.Proofs.Ythlfgjlnjmjppaa
open Go.RowKit

def IsLv (w : World) (v : Value) (l : List LI) : Prop := ∃ A n c, v = .slice A n c ∧ IsLs w A n l
theorem IsLv.keep0 {w w' : World} {v : Value} {l : List LI} (h : IsLv w v l) (hk : Keep (fun _ => False) w w') : IsLv w' v l := by
  obtain ⟨A, n, c, e, h⟩ := h; exact ⟨A, n, c, e, h.keep0 hk⟩
theorem isM_of {w : World} {A B : Option Addr} {n c m d : Nat} {M : List Mem} {F : List ID} (h : IsL w (.agg #[.slice A n c, .slice B m d]) M F) : IsM w (.slice A n c) M := by
  obtain ⟨A', n', c', B', m', d', e, h1, _⟩ := h
  injection e with e
  simp at e
  obtain ⟨⟨e1, e2, e3⟩, _⟩ := e
  subst e1 e2 e3
  exact ⟨_, _, _, rfl, h1⟩
theorem isF_of {w : World} {A B : Option Addr} {n c m d : Nat} {M : List Mem} {F : List ID} (h : IsL w (.agg #[.slice A n c, .slice B m d]) M F) : IsF w (.slice B m d) F := by
  obtain ⟨A', n', c', B', m', d', e, _, h1⟩ := h
  injection e with e
  simp at e
  obtain ⟨_, e1, e2, e3⟩ := e
  subst e1 e2 e3
  exact ⟨_, _, _, rfl, h1⟩
theorem isLs_cells {w : World} {g : Nat} {t : TypeId} {l : List LI} {cs : Array Value} (hb : Blk w g t cs) (h : ∀ i, i < l.length → ∃ A1 n1 c1 A2 n2 c2, cs[i * 2]? = some (.slice A1 n1 c1) ∧ cs[i * 2 + 1]? = some (.slice A2 n2 c2) ∧ RdMem w A1 n1 (l.getD i ([], [])).1 ∧ RdI w A2 n2 (l.getD i ([], [])).2) :
    IsLs w (some ⟨g, 0, none⟩) l.length l :=
  ⟨rfl, fun i hi => by
    obtain ⟨A1, n1, c1, A2, n2, c2, h1, h2, h3, h4⟩ := h i hi
    exact ⟨g, 0, A1, n1, c1, A2, n2, c2, rfl, by rw [Nat.zero_add, hb.cell, h1], by rw [Nat.zero_add, hb.cell, h2], h3, h4⟩⟩
theorem isLv2 {w : World} {A B A' B' : Option Addr} {n c m d n' c' m' d' : Nat} {x y : LI} (h : IsL w (.agg #[.slice A n c, .slice B m d]) x.1 x.2) (h' : IsL w (.agg #[.slice A' n' c', .slice B' m' d']) y.1 y.2) :
    IsLv (w.alloc (.cells #[.slice A n c, .slice B m d, .slice A' n' c', .slice B' m' d'] 25)) (.slice (some ⟨w.heap.size, 0, none⟩) 2 2) [x, y] := by
  obtain ⟨_, _, _, e1, q1⟩ := isM_of h
  obtain ⟨_, _, _, e2, q2⟩ := isF_of h
  obtain ⟨_, _, _, e3, q3⟩ := isM_of h'
  obtain ⟨_, _, _, e4, q4⟩ := isF_of h'
  simp only [Value.slice.injEq] at e1 e2 e3 e4
  obtain ⟨rfl, rfl, rfl⟩ := e1
  obtain ⟨rfl, rfl, rfl⟩ := e2
  obtain ⟨rfl, rfl, rfl⟩ := e3
  obtain ⟨rfl, rfl, rfl⟩ := e4
  have hk := (Keep.refl (fun _ => False) w).alloc (.cells #[.slice A n c, .slice B m d, .slice A' n' c', .slice B' m' d'] 25)
  refine ⟨_, _, _, rfl, isLs_cells (l := [x, y]) (Blk.new _ _ _) fun i hi => ?_⟩
  match i, hi with
  | 0, _ => exact ⟨A, n, c, B, m, d, rfl, rfl, q1.keep0 hk, q2.keep0 hk⟩
  | 1, _ => exact ⟨A', n', c', B', m', d', rfl, rfl, q3.keep0 hk, q4.keep0 hk⟩
theorem isLv1 {w : World} {A B : Option Addr} {n c m d : Nat} {x : LI} (h : IsL w (.agg #[.slice A n c, .slice B m d]) x.1 x.2) :
    IsLv (w.alloc (.cells #[.slice A n c, .slice B m d] 25)) (.slice (some ⟨w.heap.size, 0, none⟩) 1 1) [x] := by
  obtain ⟨_, _, _, e1, q1⟩ := isM_of h
  obtain ⟨_, _, _, e2, q2⟩ := isF_of h
  simp only [Value.slice.injEq] at e1 e2
  obtain ⟨rfl, rfl, rfl⟩ := e1
  obtain ⟨rfl, rfl, rfl⟩ := e2
  have hk := (Keep.refl (fun _ => False) w).alloc (.cells #[.slice A n c, .slice B m d] 25)
  refine ⟨_, _, _, rfl, isLs_cells (l := [x]) (Blk.new _ _ _) fun i hi => ?_⟩
  match i, hi with
  | 0, _ => exact ⟨A, n, c, B, m, d, rfl, rfl, q1.keep0 hk, q2.keep0 hk⟩
theorem isLv3 {w : World} {A B A' B' A'' B'' : Option Addr} {n c m d n' c' m' d' n'' c'' m'' d'' : Nat} {x y z : LI} (h : IsL w (.agg #[.slice A n c, .slice B m d]) x.1 x.2) (h' : IsL w (.agg #[.slice A' n' c', .slice B' m' d']) y.1 y.2) (h'' : IsL w (.agg #[.slice A'' n'' c'', .slice B'' m'' d'']) z.1 z.2) :
    IsLv (w.alloc (.cells #[.slice A n c, .slice B m d, .slice A' n' c', .slice B' m' d', .slice A'' n'' c'', .slice B'' m'' d''] 25)) (.slice (some ⟨w.heap.size, 0, none⟩) 3 3) [x, y, z] := by
  obtain ⟨_, _, _, e1, q1⟩ := isM_of h
  obtain ⟨_, _, _, e2, q2⟩ := isF_of h
  obtain ⟨_, _, _, e3, q3⟩ := isM_of h'
  obtain ⟨_, _, _, e4, q4⟩ := isF_of h'
  obtain ⟨_, _, _, e5, q5⟩ := isM_of h''
  obtain ⟨_, _, _, e6, q6⟩ := isF_of h''
  simp only [Value.slice.injEq] at e1 e2 e3 e4 e5 e6
  obtain ⟨rfl, rfl, rfl⟩ := e1
  obtain ⟨rfl, rfl, rfl⟩ := e2
  obtain ⟨rfl, rfl, rfl⟩ := e3
  obtain ⟨rfl, rfl, rfl⟩ := e4
  obtain ⟨rfl, rfl, rfl⟩ := e5
  obtain ⟨rfl, rfl, rfl⟩ := e6
  have hk := (Keep.refl (fun _ => False) w).alloc (.cells #[.slice A n c, .slice B m d, .slice A' n' c', .slice B' m' d', .slice A'' n'' c'', .slice B'' m'' d''] 25)
  refine ⟨_, _, _, rfl, isLs_cells (l := [x, y, z]) (Blk.new _ _ _) fun i hi => ?_⟩
  match i, hi with
  | 0, _ => exact ⟨A, n, c, B, m, d, rfl, rfl, q1.keep0 hk, q2.keep0 hk⟩
  | 1, _ => exact ⟨A', n', c', B', m', d', rfl, rfl, q3.keep0 hk, q4.keep0 hk⟩
  | 2, _ => exact ⟨A'', n'', c'', B'', m'', d'', rfl, rfl, q5.keep0 hk, q6.keep0 hk⟩
theorem samel_is (v v' : Value) (a b : LI) (w : World) (r : Bool) (h : IsL w v a.1 a.2) (h' : IsL w v' b.1 b.2) (l1 : lenOk a.1 a.2) (l2 : lenOk b.1 b.2) (hr : decide (a = b) = r) :
    Calls Try.prog 19 #[v, v'] w (Tell (.bool r) w) := by
  subst hr; exact samel_any v v' a b w h h' l1 l2
theorem large_is (v : Value) (l : List LI) (w : World) (r : Bool) (h : IsLv w v l) (hl : l.length ≤ 1000) (hr : l.any bigL = r) : Calls Try.prog 10 #[v] w (Tell (.bool r) w) := by
  subst hr
  obtain ⟨A, n, c, rfl, h⟩ := h
  exact large_any A n c l w h (by rw [← h.1]; exact hl)
theorem rmay_is (v v' : Value) (m : List Mem) (f : List ID) (w : World) (r : Bool) (h : IsM w v m) (h' : IsF w v' f) (hm : m.length ≤ 10000) (hf : f.length ≤ 10000) (hr : mayT m f = r) :
    Calls Try.prog 20 #[v, v'] w (Tell (.bool r) w) := by
  subst hr
  obtain ⟨A, n, c, rfl, h⟩ := h
  obtain ⟨A', n', c', rfl, h'⟩ := h'
  exact rmay_any A A' n c n' c' m f w h h' (by rw [← h.1]; omega) (by rw [← h'.1]; omega)
theorem len_join (a b : LI) : lenOk (joinL a b).1 (joinL a b).2 := by
  have := join_len a.1 a.2 b.1 b.2
  exact ⟨Nat.le_trans this.1 (by omega), Nat.le_trans this.2 (by omega)⟩
theorem len_small {a : LI} (h : bigL a = false) : lenOk a.1 a.2 := by
  simp only [bigL, Bool.or_eq_false_iff, decide_eq_false_iff_not] at h
  exact ⟨by omega, by omega⟩
theorem len_empty : lenOk (([], []) : LI).1 (([], []) : LI).2 := ⟨by simp, by simp⟩
end Go.Proofs.Ythlfgjlnjmjppaa
