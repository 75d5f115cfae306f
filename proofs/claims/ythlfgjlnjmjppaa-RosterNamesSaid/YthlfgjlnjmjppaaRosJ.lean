/-
  Roster: the law's own helpers: one, of, low, join, same, says.
-/
import Derived.Test.YthlfgjlnjmjppaaRosI
import Derived.Test.YthlfgjlnjmjppaaRosH
namespace Go.Proofs.Ythlfgjlnjmjppaa
open Go.RowKit

/-- a list of members, of IDs, a List, that can be read -/
def IsM (w : World) (v : Value) (M : List Mem) : Prop := ∃ A n c, v = .slice A n c ∧ RdMem w A n M
def IsF (w : World) (v : Value) (F : List ID) : Prop := ∃ A n c, v = .slice A n c ∧ RdI w A n F
def IsL (w : World) (v : Value) (M : List Mem) (F : List ID) : Prop := ∃ A n c B m d, v = .agg #[.slice A n c, .slice B m d] ∧ RdMem w A n M ∧ RdI w B m F
theorem IsM.keep0 {w w' : World} {v : Value} {M : List Mem} (h : IsM w v M) (hk : Keep (fun _ => False) w w') : IsM w' v M := by
  obtain ⟨A, n, c, e, h⟩ := h; exact ⟨A, n, c, e, h.keep0 hk⟩
theorem IsF.keep0 {w w' : World} {v : Value} {F : List ID} (h : IsF w v F) (hk : Keep (fun _ => False) w w') : IsF w' v F := by
  obtain ⟨A, n, c, e, h⟩ := h; exact ⟨A, n, c, e, h.keep0 hk⟩
theorem IsL.keep0 {w w' : World} {v : Value} {M : List Mem} {F : List ID} (h : IsL w v M F) (hk : Keep (fun _ => False) w w') : IsL w' v M F := by
  obtain ⟨A, n, c, B, m, d, e, h, h'⟩ := h; exact ⟨A, n, c, B, m, d, e, h.keep0 hk, h'.keep0 hk⟩
theorem RdMem.nil_ (w : World) : RdMem w none 0 [] := ⟨rfl, rfl, fun j hj => by omega⟩
theorem RdI.nil_ (w : World) : RdI w none 0 [] := ⟨rfl, rfl, fun j hj => by omega⟩
theorem IsM.one {w : World} {g : Nat} {x : Mem} (h : Blk w g 32 #[.int .i64 x.addr, .int .i64 x.inc, .int .u8 x.st, .int .i64 x.no]) : IsM w (.slice (some ⟨g, 0, none⟩) 1 1) [x] :=
  ⟨_, _, _, rfl, rfl, RdK.of_blk h 1 4 rfl⟩
theorem IsF.one {w : World} {g : Nat} {p : ID} (h : Blk w g 27 #[.int .i64 p.1, .int .i64 p.2]) : IsF w (.slice (some ⟨g, 0, none⟩) 1 1) [p] :=
  ⟨_, _, _, rfl, rfl, RdK.of_blk h 1 2 rfl⟩
/-- the call hands back such a value, in new memory at most -/
def Gets (T : Value → World → Prop) (w : World) (e : Ending) (w' : World) : Prop := ∃ u, e = .returned u ∧ T u w' ∧ Keep (fun _ => False) w w'
def lenOk (M : List Mem) (F : List ID) : Prop := M.length ≤ 10000 ∧ F.length ≤ 10000

theorem one_any (a i s n : Int) (w : World) : Calls Try.prog 25 #[.int .i64 a, .int .i64 i, .int .u8 s, .int .i64 n] w (Tell (memV ⟨a, i, s, n⟩) w) := by
  go_enter Try.func25, Try.ntmps25
  go_wp2
  exact bodyPost_ret (v := memV ⟨a, i, s, n⟩) (by simp [results, Try.results25, go_sem]) rfl ⟨rfl, (Keep.refl _ w).alloc _⟩
theorem of_any (v : Value) (M : List Mem) (w : World) (h : IsM w v M) : Calls Try.prog 17 #[v] w (Gets (fun u W => IsL W u M []) w) := by
  obtain ⟨A, n, c, rfl, h⟩ := h
  have H := Lib.hid h
  clear h
  go_enter Try.func17, Try.ntmps17
  go_wp2
  refine bodyPost_ret (v := .agg #[.slice A n c, .slice none 0 0]) (by simp [results, Try.results17, go_sem]) rfl ?_
  exact ⟨_, rfl, ⟨A, n, c, none, 0, 0, rfl, H.out.keep0 ((Keep.refl _ w).alloc _), RdI.nil_ _⟩, (Keep.refl _ w).alloc _⟩
theorem low_any (a i : Int) (w : World) : Calls Try.prog 26 #[.int .i64 a, .int .i64 i] w (Gets (fun u W => IsF W u [(a, i)]) w) := by
  go_enter Try.func26, Try.ntmps26
  go_wp2
  go_ret
  exact ⟨_, rfl, IsF.one (p := (a, i)) (Blk.new _ _ _), (Keep.refl _ w).alloc _⟩

theorem join_len (m : List Mem) (f : List ID) (n : List Mem) (g : List ID) : (joinT m f n g).1.length ≤ 12 ∧ (joinT m f n g).2.length ≤ 12 := ⟨memT_len _ _ 12, lowT_len _ 12⟩
/-- Join, in plain words -/
def JoinSays2 (w : World) (r : List Mem × List ID) (e : Ending) (w' : World) : Prop :=
  ∃ vm vf, e = .returned (.tuple #[vm, vf]) ∧ IsM w' vm r.1 ∧ IsF w' vf r.2 ∧ Keep (fun _ => False) w w'
theorem joins_any (v1 v2 v3 v4 : Value) (m : List Mem) (f : List ID) (m' : List Mem) (f' : List ID) (w : World) (h1 : IsM w v1 m) (h2 : IsF w v2 f) (h3 : IsM w v3 m') (h4 : IsF w v4 f') (l1 : lenOk m f) (l2 : lenOk m' f') :
    Calls Try.prog 27 #[v1, v2, v3, v4] w (JoinSays2 w (joinT m f m' f')) := by
  obtain ⟨A1, n1, c1, rfl, h1⟩ := h1
  obtain ⟨A2, n2, c2, rfl, h2⟩ := h2
  obtain ⟨A3, n3, c3, rfl, h3⟩ := h3
  obtain ⟨A4, n4, c4, rfl, h4⟩ := h4
  unfold lenOk at l1 l2
  have e1 := h1.1
  have e2 := h2.1
  have e3 := h3.1
  have e4 := h4.1
  refine (join_any A1 A2 A3 A4 n1 n2 n3 n4 c1 c2 c3 c4 m f m' f' w h1 h2 h3 h4 (by omega) (by omega) (by omega) (by omega)).mono ?_
  rintro e w' ⟨rM, rL, AM, AL, cM, cL, rfl, hM, hL, _, _, hk⟩
  exact ⟨_, _, rfl, ⟨_, _, _, rfl, rfl, hM.rd⟩, ⟨_, _, _, rfl, rfl, hL.rd⟩, hk⟩
theorem samesm_any (v v' : Value) (l l' : List Mem) (w : World) (h : IsM w v l) (h' : IsM w v' l') (hl : l.length ≤ 10000) (hl' : l'.length ≤ 10000) :
    Calls Try.prog 30 #[v, v'] w (Tell (.bool (decide (l = l'))) w) := by
  obtain ⟨A, n, c, rfl, h⟩ := h
  obtain ⟨A', n', c', rfl, h'⟩ := h'
  exact same_mems A A' n n' c c' l l' w h h' (by rw [← h.1]; omega) (by rw [← h'.1]; omega)
theorem samesi_any (v v' : Value) (l l' : List ID) (w : World) (h : IsF w v l) (h' : IsF w v' l') (hl : l.length ≤ 10000) (hl' : l'.length ≤ 10000) :
    Calls Try.prog 31 #[v, v'] w (Tell (.bool (decide (l = l'))) w) := by
  obtain ⟨A, n, c, rfl, h⟩ := h
  obtain ⟨A', n', c', rfl, h'⟩ := h'
  exact same_ids A A' n n' c c' l l' w h h' (by rw [← h.1]; omega) (by rw [← h'.1]; omega)
abbrev LI := List Mem × List ID
def joinL (a b : LI) : LI := joinT a.1 a.2 b.1 b.2
/-- the same in memory of its own -/
def IsLT (w : World) (v : Value) (M : List Mem) (F : List ID) : Prop := ∃ (rM rL : Option Nat) (A B : Option Addr) (c d : Nat), v = .agg #[.slice A M.length c, .slice B F.length d] ∧ SlK w 32 4 rM A M.length c (M.flatMap cMem) ∧ SlK w 27 2 rL B F.length d (F.flatMap cID)
theorem IsLT.isL {w : World} {v : Value} {M : List Mem} {F : List ID} (h : IsLT w v M F) : IsL w v M F := by
  obtain ⟨rM, rL, A, B, c, d, e, h1, h2⟩ := h
  exact ⟨_, _, _, _, _, _, e, ⟨rfl, h1.rd⟩, ⟨rfl, h2.rd⟩⟩
theorem IsLT.keep0 {w w' : World} {v : Value} {M : List Mem} {F : List ID} (h : IsLT w v M F) (hk : Keep (fun _ => False) w w') : IsLT w' v M F := by
  obtain ⟨rM, rL, A, B, c, d, e, h1, h2⟩ := h
  exact ⟨rM, rL, A, B, c, d, e, h1.keep hk (fun _ _ h => h), h2.keep hk (fun _ _ h => h)⟩
/-- .. stands behind a store into a block of another type -/
theorem IsLT.far {w w' : World} {v : Value} {M : List Mem} {F : List ID} {g : Nat} {t : TypeId} {cs : Array Value} (h : IsLT w v M F) (hb : Blk w g t cs) (h1 : t ≠ 32) (h2 : t ≠ 27) (hk : Keep (fun k => k = g) w w') : IsLT w' v M F := by
  obtain ⟨rM, rL, A, B, c, d, e, q1, q2⟩ := h
  exact ⟨rM, rL, A, B, c, d, e, q1.keep hk (fun k hr e => q1.row_ne hb h1 (by rw [hr, e])), q2.keep hk (fun k hr e => q2.row_ne hb h2 (by rw [hr, e]))⟩
/-- what join answers, in memory of its own -/
def JoinOwn (w : World) (r : LI) (e : Ending) (w' : World) : Prop := ∃ (rM rL : Option Nat) (A B : Option Addr) (c d : Nat), e = .returned (.agg #[.slice A r.1.length c, .slice B r.2.length d]) ∧
  SlK w' 32 4 rM A r.1.length c (r.1.flatMap cMem) ∧ SlK w' 27 2 rL B r.2.length d (r.2.flatMap cID) ∧ (∀ g, rM = some g → w.heap.size ≤ g) ∧ (∀ g, rL = some g → w.heap.size ≤ g) ∧ Keep (fun _ => False) w w'
set_option maxHeartbeats 400000 in
theorem joinl_own2 (v v' : Value) (a b : LI) (w : World) (h : IsL w v a.1 a.2) (h' : IsL w v' b.1 b.2) (l1 : lenOk a.1 a.2) (l2 : lenOk b.1 b.2) :
    Calls Try.prog 11 #[v, v'] w (JoinOwn w (joinL a b)) := by
  obtain ⟨A, n, c, B, m, d, rfl, h1, h2⟩ := h
  obtain ⟨A', n', c', B', m', d', rfl, h1', h2'⟩ := h'
  unfold lenOk at l1 l2
  have e1 := h1.1
  have e2 := h2.1
  have e3 := h1'.1
  have e4 := h2'.1
  have hn : n ≤ 10000 ∧ m ≤ 10000 ∧ n' ≤ 10000 ∧ m' ≤ 10000 := by omega
  have HN := Lib.hid hn
  have H1 := Lib.hid h1
  have H2 := Lib.hid h2
  have H1' := Lib.hid h1'
  have H2' := Lib.hid h2'
  have ka : Keep (fun _ => False) w (((w.alloc (.cells #[.slice A n c, .slice B m d] 25)).alloc (.cells #[.slice A' n' c', .slice B' m' d'] 25)).alloc (.cells #[.slice none 0 0, .slice none 0 0] 25)) := (((Keep.refl _ w).alloc _).alloc _).alloc _
  have KA := Lib.hid ka
  have BR := Lib.hid (Blk.new_ (w := (w.alloc (.cells #[.slice A n c, .slice B m d] 25)).alloc (.cells #[.slice A' n' c', .slice B' m' d'] 25)) (B := w.heap.size + 1 + 1) (by simp) 25 #[.slice none 0 0, .slice none 0 0])
  clear h1 h2 h1' h2' l1 l2 ka e1 e2 e3 e4 hn
  go_enter Try.func11, Try.ntmps11
  go_wp2_with fail
  refine (join_any A B A' B' n m n' m' c d c' d' a.1 a.2 b.1 b.2 _ (H1.out.keep0 KA.out) (H2.out.keep0 KA.out) (H1'.out.keep0 KA.out) (H2'.out.keep0 KA.out) (by have := HN.out; omega) (by have := HN.out; omega) (by have := HN.out; omega) (by have := HN.out; omega)).mono ?_
  rintro e w2 ⟨rM, rL, X, Y, p, q, rfl, hx, hy, hoM, hoL, hk⟩
  have HO := Lib.hid (And.intro hoM hoL)
  clear hoM hoL
  have hb := BR.out.keep hk (fun h => h)
  have d0 := hb.cell 0
  have d1 := hb.cell 1
  have f0 := hb.frozen 0
  have f1 := hb.frozen 1
  simp at d0 d1
  have HX := Lib.hid hx
  have HY := Lib.hid hy
  have HB := Lib.hid hb
  have HK := Lib.hid (keep0_trans _ _ _ KA.out hk)
  clear hx hy hk hb
  have HJ := Lib.hid (show joinL a b = joinT a.1 a.2 b.1 b.2 from rfl)
  unfold joinT at HJ
  generalize memT (allT a.1 b.1) (flT (allT a.1 b.1) (a.2 ++ b.2)) 12 = ms at *
  generalize lowT (flT (allT a.1 b.1) (a.2 ++ b.2)) 12 = ls at *
  go_wp2
  have hk2 : Keep (fun k => k = w.heap.size + 1 + 1) w2 ((w2.setCell ⟨w.heap.size + 1 + 1, 0, none⟩ (.slice X ms.length p)).setCell ⟨w.heap.size + 1 + 1, 1, none⟩ (.slice Y ls.length q)) := ((Keep.refl (fun k => k = w.heap.size + 1 + 1) w2).setCell (fun _ => rfl) _).setCell (fun _ => rfl) _
  refine bodyPost_ret (v := .agg #[.slice X ms.length p, .slice Y ls.length q]) (by simp [results, Try.results11, go_sem, d0, d1]) rfl ?_
  rw [HJ.out]
  refine ⟨rM, rL, X, Y, p, q, rfl, HX.out.keep hk2 ?_, HY.out.keep hk2 ?_, (fun g hg => by have := HO.out.1 g hg; simp at this; omega), (fun g hg => by have := HO.out.2 g hg; simp at this; omega), (HK.out.new (by simp; omega) _).new (by simp; omega) _⟩
  · rintro g hg rfl; exact HX.out.row_ne HB.out (by decide) hg
  · rintro g hg rfl; exact HY.out.row_ne HB.out (by decide) hg
theorem joinl_own (v v' : Value) (a b : LI) (w : World) (h : IsL w v a.1 a.2) (h' : IsL w v' b.1 b.2) (l1 : lenOk a.1 a.2) (l2 : lenOk b.1 b.2) :
    Calls Try.prog 11 #[v, v'] w (Gets (fun u W => IsLT W u (joinL a b).1 (joinL a b).2) w) :=
  (joinl_own2 v v' a b w h h' l1 l2).mono fun _ _ ⟨rM, rL, A, B, c, d, he, h1, h2, _, _, hk⟩ => ⟨_, he, ⟨rM, rL, A, B, c, d, rfl, h1, h2⟩, hk⟩
theorem joinl_any (v v' : Value) (a b : LI) (w : World) (h : IsL w v a.1 a.2) (h' : IsL w v' b.1 b.2) (l1 : lenOk a.1 a.2) (l2 : lenOk b.1 b.2) :
    Calls Try.prog 11 #[v, v'] w (Gets (fun u W => IsL W u (joinL a b).1 (joinL a b).2) w) :=
  (joinl_own v v' a b w h h' l1 l2).mono fun _ _ ⟨u, he, hu, hk⟩ => ⟨u, he, hu.isL, hk⟩
set_option maxHeartbeats 400000 in
theorem samel_any (v v' : Value) (a b : LI) (w : World) (h : IsL w v a.1 a.2) (h' : IsL w v' b.1 b.2) (l1 : lenOk a.1 a.2) (l2 : lenOk b.1 b.2) :
    Calls Try.prog 19 #[v, v'] w (Tell (.bool (decide (a = b))) w) := by
  obtain ⟨A, n, c, B, m, d, rfl, h1, h2⟩ := h
  obtain ⟨A', n', c', B', m', d', rfl, h1', h2'⟩ := h'
  have H1 := Lib.hid h1
  have H2 := Lib.hid h2
  have H1' := Lib.hid h1'
  have H2' := Lib.hid h2'
  have L1 := Lib.hid l1
  have L2 := Lib.hid l2
  have ka : Keep (fun _ => False) w ((w.alloc (.cells #[.slice A n c, .slice B m d] 25)).alloc (.cells #[.slice A' n' c', .slice B' m' d'] 25)) := ((Keep.refl _ w).alloc _).alloc _
  have KA := Lib.hid ka
  have B0 := Lib.hid ((Blk.new w 25 #[.slice A n c, .slice B m d]).alloc (.cells #[.slice A' n' c', .slice B' m' d'] 25))
  have B1 := Lib.hid (Blk.new_ (w := w.alloc (.cells #[.slice A n c, .slice B m d] 25)) (B := w.heap.size + 1) (by simp) 25 #[.slice A' n' c', .slice B' m' d'])
  clear h1 h2 h1' h2' l1 l2 ka
  have hd : decide (a = b) = (decide (a.1 = b.1) && decide (a.2 = b.2)) := by
    rw [Bool.eq_iff_iff]; simp [Prod.ext_iff]
  have HD := Lib.hid hd
  clear hd
  go_enter Try.func19, Try.ntmps19
  go_wp2_with fail
  refine (samesm_any _ _ a.1 b.1 _ ⟨A, n, c, rfl, H1.out.keep0 KA.out⟩ ⟨A', n', c', rfl, H1'.out.keep0 KA.out⟩ L1.out.1 L2.out.1).mono ?_
  rintro e w2 ⟨rfl, hk⟩
  have b0 := (B0.out.keep hk (fun h => h)).cell 1
  have b1 := (B1.out.keep hk (fun h => h)).cell 1
  simp at b0 b1
  have HK := Lib.hid (keep0_trans _ _ _ KA.out hk)
  clear hk
  cases hm : decide (a.1 = b.1)
  · rw [hm] at HD
    clear hm
    go_wp2
    go_ret
    exact ⟨ret_bool HD.out.symm, HK.out⟩
  · rw [hm] at HD
    clear hm
    go_wp2_with fail
    refine (samesi_any _ _ a.2 b.2 _ ⟨B, m, d, rfl, H2.out.keep0 HK.out⟩ ⟨B', m', d', rfl, H2'.out.keep0 HK.out⟩ L1.out.2 L2.out.2).mono ?_
    rintro e w3 ⟨rfl, hk⟩
    have HK3 := Lib.hid (keep0_trans _ _ _ HK.out hk)
    clear hk
    go_wp2
    go_ret
    exact ⟨ret_bool HD.out.symm, HK3.out⟩
set_option maxHeartbeats 400000 in
theorem says_any (v v' v2 : Value) (a b x : LI) (w : World) (h : IsL w v a.1 a.2) (h' : IsL w v' b.1 b.2) (hx : IsL w v2 x.1 x.2) (l1 : lenOk a.1 a.2) (l2 : lenOk b.1 b.2) (l3 : lenOk x.1 x.2) :
    Calls Try.prog 24 #[v, v', v2] w (Tell (.bool (decide (joinL a b = x))) w) := by
  obtain ⟨A, n, c, B, m, d, rfl, h1, h2⟩ := h
  obtain ⟨A', n', c', B', m', d', rfl, h1', h2'⟩ := h'
  obtain ⟨A2, n2, c2, B2, m2, d2, rfl, x1, x2⟩ := hx
  have H1 := Lib.hid h1
  have H2 := Lib.hid h2
  have H1' := Lib.hid h1'
  have H2' := Lib.hid h2'
  have X1 := Lib.hid x1
  have X2 := Lib.hid x2
  have L1 := Lib.hid l1
  have L2 := Lib.hid l2
  have L3 := Lib.hid l3
  have ka : Keep (fun _ => False) w (((w.alloc (.cells #[.slice A n c, .slice B m d] 25)).alloc (.cells #[.slice A' n' c', .slice B' m' d'] 25)).alloc (.cells #[.slice A2 n2 c2, .slice B2 m2 d2] 25)) := (((Keep.refl _ w).alloc _).alloc _).alloc _
  have KA := Lib.hid ka
  have B0 := Lib.hid (Blk.new_ (w := (w.alloc (.cells #[.slice A n c, .slice B m d] 25)).alloc (.cells #[.slice A' n' c', .slice B' m' d'] 25)) (B := w.heap.size + 1 + 1) (by simp) 25 #[.slice A2 n2 c2, .slice B2 m2 d2])
  clear h1 h2 h1' h2' l1 l2 l3 x1 x2 ka
  have hjl := join_len a.1 a.2 b.1 b.2
  have hje : joinL a b = joinT a.1 a.2 b.1 b.2 := rfl
  rw [hje]
  obtain ⟨J, hJ⟩ : ∃ J, joinT a.1 a.2 b.1 b.2 = J := ⟨_, rfl⟩
  rw [hJ] at hjl ⊢
  have HJ := Lib.hid hJ
  have HJL := Lib.hid hjl
  have hd : decide (J = x) = (decide (J.1 = x.1) && decide (J.2 = x.2)) := by
    rw [Bool.eq_iff_iff]; simp [Prod.ext_iff]
  have HD := Lib.hid hd
  clear hd hjl hje hJ
  go_enter Try.func24, Try.ntmps24
  go_wp2_with fail
  refine (joins_any _ _ _ _ a.1 a.2 b.1 b.2 _ ⟨A, n, c, rfl, H1.out.keep0 KA.out⟩ ⟨B, m, d, rfl, H2.out.keep0 KA.out⟩ ⟨A', n', c', rfl, H1'.out.keep0 KA.out⟩ ⟨B', m', d', rfl, H2'.out.keep0 KA.out⟩ L1.out L2.out).mono ?_
  rintro e w2 ⟨vm, vf, rfl, hm, hf, hk⟩
  have HM := Lib.hid hm
  have HF := Lib.hid hf
  have b0 := (B0.out.keep hk (fun h => h)).cell 0
  have B0' := Lib.hid (B0.out.keep hk (fun h => h))
  simp at b0
  have HK := Lib.hid (keep0_trans _ _ _ KA.out hk)
  clear hk hm hf
  rw [HJ.out] at HM HF
  go_wp2_with fail
  refine (samesm_any _ _ J.1 x.1 _ HM.out ⟨A2, n2, c2, rfl, X1.out.keep0 HK.out⟩ (by have := HJL.out.1; omega) L3.out.1).mono ?_
  rintro e w3 ⟨rfl, hk⟩
  have b1 := (B0'.out.keep hk (fun h => h)).cell 1
  simp at b1
  have HF3 := Lib.hid (HF.out.keep0 hk)
  have HK3 := Lib.hid (keep0_trans _ _ _ HK.out hk)
  clear hk b0
  cases hm : decide (J.1 = x.1)
  · rw [hm] at HD
    clear hm
    go_wp2
    go_ret
    exact ⟨ret_bool (by rw [HD.out]; rfl), HK3.out⟩
  · rw [hm] at HD
    clear hm
    go_wp2_with fail
    refine (samesi_any _ _ J.2 x.2 _ HF3.out ⟨B2, m2, d2, rfl, X2.out.keep0 HK3.out⟩ (by have := HJL.out.2; omega) L3.out.2).mono ?_
    rintro e w4 ⟨rfl, hk⟩
    have HK4 := Lib.hid (keep0_trans _ _ _ HK3.out hk)
    clear hk
    go_wp2
    go_ret
    exact ⟨ret_bool (by rw [HD.out]; rfl), HK4.out⟩
end Go.Proofs.Ythlfgjlnjmjppaa
