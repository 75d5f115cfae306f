/-
  Roster: the laws' own words.
-/
import Derived.Test.YthlfgjlnjmjppaaRosO
import Derived.Test.YthlfgjlnjmjppaaRosU
import Derived.Test.YthlfgjlnjmjppaaKord
import Derived.Deep.Cut
namespace Go.Proofs.Ythlfgjlnjmjppaa
open Go.RowKit

def IsLv (w : World) (v : Value) (l : List LI) : Prop := ∃ A n c, v = .slice A n c ∧ IsLs w A n l
theorem IsLv.keep0 {w w' : World} {v : Value} {l : List LI} (h : IsLv w v l) (hk : Keep (fun _ => False) w w') : IsLv w' v l := by
  obtain ⟨A, n, c, e, h⟩ := h; exact ⟨A, n, c, e, h.keep0 hk⟩
theorem isM_of {w : World} {A B : Option Addr} {n c m d : Nat} {M : List Mem} {F : List ID} (h : IsL w (.agg #[.slice A n c, .slice B m d]) M F) : IsM w (.slice A n c) M := by
  obtain ⟨A', n', c', B', m', d', e, h1, _⟩ := h
  injection e with e
  simp at e
  obtain ⟨⟨e1, e2, e3⟩, _⟩ := e
  subst e1 e2 e3
  exact ⟨_, _, _, rfl, h1⟩
theorem isF_of {w : World} {A B : Option Addr} {n c m d : Nat} {M : List Mem} {F : List ID} (h : IsL w (.agg #[.slice A n c, .slice B m d]) M F) : IsF w (.slice B m d) F := by
  obtain ⟨A', n', c', B', m', d', e, _, h1⟩ := h
  injection e with e
  simp at e
  obtain ⟨_, e1, e2, e3⟩ := e
  subst e1 e2 e3
  exact ⟨_, _, _, rfl, h1⟩
theorem isLs_cells {w : World} {g : Nat} {t : TypeId} {l : List LI} {cs : Array Value} (hb : Blk w g t cs) (h : ∀ i, i < l.length → ∃ A1 n1 c1 A2 n2 c2, cs[i * 2]? = some (.slice A1 n1 c1) ∧ cs[i * 2 + 1]? = some (.slice A2 n2 c2) ∧ RdMem w A1 n1 (l.getD i ([], [])).1 ∧ RdI w A2 n2 (l.getD i ([], [])).2) :
    IsLs w (some ⟨g, 0, none⟩) l.length l :=
  ⟨rfl, fun i hi => by
    obtain ⟨A1, n1, c1, A2, n2, c2, h1, h2, h3, h4⟩ := h i hi
    exact ⟨g, 0, A1, n1, c1, A2, n2, c2, rfl, by rw [Nat.zero_add, hb.cell, h1], by rw [Nat.zero_add, hb.cell, h2], h3, h4⟩⟩
theorem isLv2 {w : World} {A B A' B' : Option Addr} {n c m d n' c' m' d' : Nat} {x y : LI} (h : IsL w (.agg #[.slice A n c, .slice B m d]) x.1 x.2) (h' : IsL w (.agg #[.slice A' n' c', .slice B' m' d']) y.1 y.2) :
    IsLv (w.alloc (.cells #[.slice A n c, .slice B m d, .slice A' n' c', .slice B' m' d'] 25)) (.slice (some ⟨w.heap.size, 0, none⟩) 2 2) [x, y] := by
  obtain ⟨_, _, _, e1, q1⟩ := isM_of h
  obtain ⟨_, _, _, e2, q2⟩ := isF_of h
  obtain ⟨_, _, _, e3, q3⟩ := isM_of h'
  obtain ⟨_, _, _, e4, q4⟩ := isF_of h'
  simp only [Value.slice.injEq] at e1 e2 e3 e4
  obtain ⟨rfl, rfl, rfl⟩ := e1
  obtain ⟨rfl, rfl, rfl⟩ := e2
  obtain ⟨rfl, rfl, rfl⟩ := e3
  obtain ⟨rfl, rfl, rfl⟩ := e4
  have hk := (Keep.refl (fun _ => False) w).alloc (.cells #[.slice A n c, .slice B m d, .slice A' n' c', .slice B' m' d'] 25)
  refine ⟨_, _, _, rfl, isLs_cells (l := [x, y]) (Blk.new _ _ _) fun i hi => ?_⟩
  match i, hi with
  | 0, _ => exact ⟨A, n, c, B, m, d, rfl, rfl, q1.keep0 hk, q2.keep0 hk⟩
  | 1, _ => exact ⟨A', n', c', B', m', d', rfl, rfl, q3.keep0 hk, q4.keep0 hk⟩
theorem isLv1 {w : World} {A B : Option Addr} {n c m d : Nat} {x : LI} (h : IsL w (.agg #[.slice A n c, .slice B m d]) x.1 x.2) :
    IsLv (w.alloc (.cells #[.slice A n c, .slice B m d] 25)) (.slice (some ⟨w.heap.size, 0, none⟩) 1 1) [x] := by
  obtain ⟨_, _, _, e1, q1⟩ := isM_of h
  obtain ⟨_, _, _, e2, q2⟩ := isF_of h
  simp only [Value.slice.injEq] at e1 e2
  obtain ⟨rfl, rfl, rfl⟩ := e1
  obtain ⟨rfl, rfl, rfl⟩ := e2
  have hk := (Keep.refl (fun _ => False) w).alloc (.cells #[.slice A n c, .slice B m d] 25)
  refine ⟨_, _, _, rfl, isLs_cells (l := [x]) (Blk.new _ _ _) fun i hi => ?_⟩
  match i, hi with
  | 0, _ => exact ⟨A, n, c, B, m, d, rfl, rfl, q1.keep0 hk, q2.keep0 hk⟩
theorem isLv3 {w : World} {A B A' B' A'' B'' : Option Addr} {n c m d n' c' m' d' n'' c'' m'' d'' : Nat} {x y z : LI} (h : IsL w (.agg #[.slice A n c, .slice B m d]) x.1 x.2) (h' : IsL w (.agg #[.slice A' n' c', .slice B' m' d']) y.1 y.2) (h'' : IsL w (.agg #[.slice A'' n'' c'', .slice B'' m'' d'']) z.1 z.2) :
    IsLv (w.alloc (.cells #[.slice A n c, .slice B m d, .slice A' n' c', .slice B' m' d', .slice A'' n'' c'', .slice B'' m'' d''] 25)) (.slice (some ⟨w.heap.size, 0, none⟩) 3 3) [x, y, z] := by
  obtain ⟨_, _, _, e1, q1⟩ := isM_of h
  obtain ⟨_, _, _, e2, q2⟩ := isF_of h
  obtain ⟨_, _, _, e3, q3⟩ := isM_of h'
  obtain ⟨_, _, _, e4, q4⟩ := isF_of h'
  obtain ⟨_, _, _, e5, q5⟩ := isM_of h''
  obtain ⟨_, _, _, e6, q6⟩ := isF_of h''
  simp only [Value.slice.injEq] at e1 e2 e3 e4 e5 e6
  obtain ⟨rfl, rfl, rfl⟩ := e1
  obtain ⟨rfl, rfl, rfl⟩ := e2
  obtain ⟨rfl, rfl, rfl⟩ := e3
  obtain ⟨rfl, rfl, rfl⟩ := e4
  obtain ⟨rfl, rfl, rfl⟩ := e5
  obtain ⟨rfl, rfl, rfl⟩ := e6
  have hk := (Keep.refl (fun _ => False) w).alloc (.cells #[.slice A n c, .slice B m d, .slice A' n' c', .slice B' m' d', .slice A'' n'' c'', .slice B'' m'' d''] 25)
  refine ⟨_, _, _, rfl, isLs_cells (l := [x, y, z]) (Blk.new _ _ _) fun i hi => ?_⟩
  match i, hi with
  | 0, _ => exact ⟨A, n, c, B, m, d, rfl, rfl, q1.keep0 hk, q2.keep0 hk⟩
  | 1, _ => exact ⟨A', n', c', B', m', d', rfl, rfl, q3.keep0 hk, q4.keep0 hk⟩
  | 2, _ => exact ⟨A'', n'', c'', B'', m'', d'', rfl, rfl, q5.keep0 hk, q6.keep0 hk⟩
theorem samel_is (v v' : Value) (a b : LI) (w : World) (r : Bool) (h : IsL w v a.1 a.2) (h' : IsL w v' b.1 b.2) (l1 : lenOk a.1 a.2) (l2 : lenOk b.1 b.2) (hr : decide (a = b) = r) :
    Calls Try.prog 19 #[v, v'] w (Tell (.bool r) w) := by
  subst hr; exact samel_any v v' a b w h h' l1 l2
theorem large_is (v : Value) (l : List LI) (w : World) (r : Bool) (h : IsLv w v l) (hl : l.length ≤ 1000) (hr : l.any bigL = r) : Calls Try.prog 10 #[v] w (Tell (.bool r) w) := by
  subst hr
  obtain ⟨A, n, c, rfl, h⟩ := h
  exact large_any A n c l w h (by rw [← h.1]; exact hl)
theorem rmay_is (v v' : Value) (m : List Mem) (f : List ID) (w : World) (r : Bool) (h : IsM w v m) (h' : IsF w v' f) (hm : m.length ≤ 10000) (hf : f.length ≤ 10000) (hr : mayT m f = r) :
    Calls Try.prog 20 #[v, v'] w (Tell (.bool r) w) := by
  subst hr
  obtain ⟨A, n, c, rfl, h⟩ := h
  obtain ⟨A', n', c', rfl, h'⟩ := h'
  exact rmay_any A A' n c n' c' m f w h h' (by rw [← h.1]; omega) (by rw [← h'.1]; omega)
theorem len_join (a b : LI) : lenOk (joinL a b).1 (joinL a b).2 := by
  have := join_len a.1 a.2 b.1 b.2
  exact ⟨Nat.le_trans this.1 (by omega), Nat.le_trans this.2 (by omega)⟩
theorem len_small {a : LI} (h : bigL a = false) : lenOk a.1 a.2 := by
  simp only [bigL, Bool.or_eq_false_iff, decide_eq_false_iff_not] at h
  exact ⟨by omega, by omega⟩
theorem len_empty : lenOk (([], []) : LI).1 (([], []) : LI).2 := ⟨by simp, by simp⟩
theorem get_is (v : Value) (M : List Mem) (p : ID) (w : World) (o : Option Mem) (h : IsM w v M) (hl : M.length ≤ 10000) (ho : getT M p = o) : Calls Try.prog 12 #[v, idV p] w (Tell (optV o) w) := by
  subst ho
  obtain ⟨A, n, c, rfl, h⟩ := h
  exact get_any A n c M p w h (by rw [← h.1]; omega)
theorem at_is (v : Value) (M : List Mem) (a : Int) (w : World) (o : Option Mem) (h : IsM w v M) (hl : M.length ≤ 10000) (ho : atT M a = o) : Calls Try.prog 18 #[v, .int .i64 a] w (Tell (optV o) w) := by
  subst ho
  obtain ⟨A, n, c, rfl, h⟩ := h
  exact at_any A n c M a w h (by rw [← h.1]; omega)
theorem optV_none : optV none = .tuple #[.agg #[.int .i64 0, .int .i64 0, .int .u8 0, .int .i64 0], .bool false] := rfl
theorem optV_some (a i s n : Int) : optV (some ⟨a, i, s, n⟩) = .tuple #[.agg #[.int .i64 a, .int .i64 i, .int .u8 s, .int .i64 n], .bool true] := rfl
theorem gone_is (v : Value) (F : List ID) (p : ID) (w : World) (r : Bool) (h : IsF w v F) (hl : F.length ≤ 10000) (hr : goneT F p = r) : Calls Try.prog 13 #[v, idV p] w (Tell (.bool r) w) := by
  subst hr
  obtain ⟨A, n, c, rfl, h⟩ := h
  exact gone_any A n c F p w h (by rw [← h.1]; omega)
theorem floor_is (v : Value) (F : List ID) (a : Int) (w : World) (r : Int) (h : IsF w v F) (hl : F.length ≤ 10000) (hr : floorT F a = r) : Calls Try.prog 15 #[v, .int .i64 a] w (Tell (.int .i64 r) w) := by
  subst hr
  obtain ⟨A, n, c, rfl, h⟩ := h
  exact floor_any A n c F a w h (by rw [← h.1]; omega)
theorem old_is (v : Value) (M : List Mem) (w : World) (o : Mem) (h : IsM w v M) (hl : M.length ≤ 10000) (ho : oldT M = o) : Calls Try.prog 22 #[v] w (Tell (.tuple #[memV o, .bool (decide (0 < o.no))]) w) := by
  subst ho
  obtain ⟨A, n, c, rfl, h⟩ := h
  exact old_any A n c M w h (by rw [← h.1]; omega)
theorem rdM_of {w : World} {A B : Option Addr} {n c m d : Nat} {M : List Mem} {F : List ID} (h : IsL w (.agg #[.slice A n c, .slice B m d]) M F) : RdMem w A n M := by
  obtain ⟨_, _, _, e, h1⟩ := isM_of h
  simp only [Value.slice.injEq] at e
  obtain ⟨rfl, rfl, rfl⟩ := e
  exact h1
theorem rdI_of {w : World} {A B : Option Addr} {n c m d : Nat} {M : List Mem} {F : List ID} (h : IsL w (.agg #[.slice A n c, .slice B m d]) M F) : RdI w B m F := by
  obtain ⟨_, _, _, e, h1⟩ := isF_of h
  simp only [Value.slice.injEq] at e
  obtain ⟨rfl, rfl, rfl⟩ := e
  exact h1
theorem len_100 {a : LI} (h : bigL a = false) : a.1.length ≤ 100 ∧ a.2.length ≤ 100 := by
  simp only [bigL, Bool.or_eq_false_iff, decide_eq_false_iff_not] at h
  omega
end Go.Proofs.Ythlfgjlnjmjppaa
