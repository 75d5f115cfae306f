/-
  clock.ids.
-/
import Derived.Test.YtljmpjkfdkcjnaaCloA
import Derived.Test.YtljmpjkfdkcjnaaSetS
import Derived.Test.YtljmpjkfdkcjnaaConcatT
namespace Go.Proofs.Ytljmpjkfdkcjnaa
open Go.RowKit

theorem infoR : (Try.prog.info? 28).map (fun i => (i.zero, i.size, i.bytes)) = some (some (.agg #[.int .i64 0, .int .i64 0]), 2, 16) := by kernel_rfl
theorem RdI.one_ {w : World} {g : Nat} {t : TypeId} {x : ID} (h : Blk w g t #[.int .i64 x.1, .int .i64 x.2]) : RdI w (some ⟨g, 0, none⟩) 1 [x] := ⟨rfl, RdK.of_blk h 1 2 rfl⟩
theorem one_flatI (l : List ID) : ∀ u ∈ l.flatMap cID, u.oneCell' = true := by
  intro u hu
  rw [List.mem_flatMap] at hu
  obtain ⟨x, _, hx⟩ := hu
  simp at hx
  rcases hx with rfl | rfl <;> rfl
theorem one_flatT (l : List Tick) : ∀ u ∈ l.flatMap cT, u.oneCell' = true := by
  intro u hu
  rw [List.mem_flatMap] at hu
  obtain ⟨x, _, hx⟩ := hu
  simp at hx
  rcases hx with rfl | rfl | rfl <;> rfl
theorem grew_new {w w1 w2 : World} {row row2 : Option Nat} {A A2 : Option Addr} {c c2 m : Nat} (h : (m = 0 ∧ row2 = row ∧ A2 = A ∧ c2 = c ∧ w2 = w1) ∨ Grew row A c w1 row2 A2 c2 w2) (hk : Keep (fun _ => False) w w1) (hr : ∀ g, row = some g → w.heap.size ≤ g) :
    Keep (fun _ => False) w w2 ∧ ∀ g, row2 = some g → w.heap.size ≤ g := by
  rcases h with ⟨_, e1, _, _, e2⟩ | h
  · rw [e1, e2]; exact ⟨hk, hr⟩
  · exact ⟨h.keep0 hk hr, h.own hk.size hr⟩
def posI (l : List Tick) : List ID := (l.filter (fun t => decide (0 < t.2))).map (·.1)
theorem posI_len (l : List Tick) : (posI l).length ≤ l.length := by unfold posI; rw [List.length_map]; exact List.length_filter_le _ _
theorem posI_next {l : List Tick} {k : Nat} (hk : k < l.length) : (0 < (l.getD k tick0).2 → posI (l.take (k + 1)) = posI (l.take k) ++ [(l.getD k tick0).1]) ∧ (¬ 0 < (l.getD k tick0).2 → posI (l.take (k + 1)) = posI (l.take k)) := by
  have e : l.getD k tick0 = l[k] := by simp [List.getD, hk]
  unfold posI
  rw [e, List.take_succ_eq_append_getElem hk, List.filter_append, List.map_append]
  constructor
  · intro h; simp [h]
  · intro h
    have : decide (0 < l[k].2) = false := decide_eq_false h
    simp [this]
theorem idsM_pos (a b : List Tick) : idsM a b = setM (posI (a ++ b)) := rfl
set_option maxRecDepth 100000 in
set_option maxHeartbeats 2000000 in
theorem ids_any (A B : Option Addr) (n m c d : Nat) (l k : List Tick) (w : World) (h : RdT w A n l) (h2 : RdT w B m k) (hn : n ≤ 1000000) (hm : m ≤ 1000000) :
    Calls Try.prog 23 #[.slice A n c, .slice B m d] w (NewI (idsM l k) w) := by
  obtain ⟨i0, hi, hz0, hz1, hz2⟩ := info_parts infoR
  have HI := Lib.hid hi
  have HZ0 := Lib.hid hz0
  have HZ1 := Lib.hid hz1
  have HZ2 := Lib.hid hz2
  have HR := Lib.hid h
  have HR2 := Lib.hid h2
  clear h h2 hi hz0 hz1 hz2
  have hb := Blk.new w 24 #[.slice A n c, .slice B m d]
  have HB := Lib.hid hb
  have hk0 := (Keep.refl (fun _ => False) w).alloc (.cells #[.slice A n c, .slice B m d] 24)
  have HK0 := Lib.hid hk0
  clear hb hk0
  go_enter Try.func23, Try.ntmps23
  go_wp2_with fail
  refine (concatT_any w.heap.size A B n m c d (l.flatMap cT) (k.flatMap cT) _ (HB.out.cell 0) (HB.out.cell 1) (HR.out.keep0 HK0.out).2 (HR2.out.keep0 HK0.out).2 (one_flatT l) (one_flatT k) hn hm).mono ?_
  rintro e w1 ⟨row, A1, c1, rfl, hs, hr, hk⟩
  have HS : Hid (RdT w1 A1 (n + m) (l ++ k)) := Lib.hid ⟨by rw [List.length_append, HR.out.1, HR2.out.1], by rw [List.flatMap_append]; exact hs.rd⟩
  have HK := Lib.hid (keep0_trans _ _ _ HK0.out hk)
  have HE : Hid (idsM l k = setM (posI (l ++ k))) := Lib.hid (idsM_pos l k)
  clear hs hk hr HB HK0
  have hN : n + m ≤ 2000000 := by omega
  generalize n + m = N at *
  generalize l ++ k = L at *
  have HL := Lib.hid HS.out.1
  go_wp2_with fail
  go_loopw [13, 5] (fun j v wr => ∃ (q : Nat) (row : Option Nat) (A2 : Option Addr) (n2 c2 : Nat), q ≤ N ∧ j = .int .i64 (q : Int) ∧ v = .slice A2 n2 c2 ∧ Hid (SlK wr 28 2 row A2 n2 c2 ((posI (L.take q)).flatMap cID)) ∧ Hid (∀ g, row = some g → w1.heap.size ≤ g) ∧ Hid (Keep (fun _ => False) w1 wr)) (fun j _ _ => N - (intOf j).toNat)
  case atStart => exact ⟨0, none, none, 0, 0, Nat.zero_le _, rfl, rfl, Lib.hid (SlK.nil_ _ _ _), Lib.hid (fun g hg => by cases hg), Lib.hid (Keep.refl _ _)⟩
  case round =>
    obtain ⟨q, row, A2, n2, c2, hq, rfl, rfl, HS2, HR3, HKr⟩ := hrel
    by_cases hlt : q < N
    · obtain ⟨g, off, hA, c0, c1, c2'⟩ := HS.out.at_ hlt
      have q0 := HKr.out.cell c0 (fun h => h)
      have q1 := HKr.out.cell c1 (fun h => h)
      have q2 := HKr.out.cell c2' (fun h => h)
      have HX := Lib.hid (posI_next (l := L) (k := q) (by rw [HL.out]; exact hlt))
      have hn2 : n2 ≤ 2000000 := by
        have e1 := HS2.out.1
        rw [flat_len cID 2 (fun _ => rfl)] at e1
        have e3 := posI_len (L.take q)
        rw [List.length_take] at e3
        omega
      subst hA
      clear c0 c1 c2'
      generalize L.getD q tick0 = t at q0 q1 q2 HX
      obtain ⟨⟨b, j⟩, u⟩ := t
      simp only at q0 q1 q2
      obtain ⟨W1, hW1⟩ : ∃ W1, wr.alloc (.cells #[.int .i64 b, .int .i64 j, .int .i64 u] 35) = W1 := ⟨_, rfl⟩
      have hE : Blk W1 wr.heap.size 35 #[.int .i64 b, .int .i64 j, .int .i64 u] := by rw [← hW1]; exact Blk.new _ _ _
      have hk1 : Keep (fun _ => False) wr W1 := by rw [← hW1]; exact (Keep.refl _ wr).alloc _
      have hE0 := hE.cell 0
      have hE1 := hE.cell 1
      have hE2 := hE.cell 2
      have HK1 := Lib.hid (keep0_trans _ _ _ HKr.out hk1)
      have HS1 := Lib.hid (HS2.out.keep hk1 (fun _ _ h => h))
      clear hE hk1
      have hkI : (q : Int) < (N : Int) := by omega
      have hkJ : (0 : Int) ≤ (q : Int) := by omega
      have e2 : IntKind.i64.wrap (q : Int) = (q : Int) := IntWalk.i64_in _ (by omega)
      by_cases hu : 0 < u
      · have HM := Lib.hid (HX.out.1 hu)
        clear HX
        go_wp2_with (at_builtin; refine wpList_append_slK rfl _ _ _ rfl i0 _ 16 Try.underlying49 HI.out HZ0.out HZ1.out HZ2.out rfl (by omega) (HS1.out.keep ((Keep.refl (fun _ => False) _).alloc _) (fun _ _ h => h)) rfl rfl (RdI.one_ (x := (b, j)) (Blk.new _ _ _)).2 (one_flatI _) (by unfold maxLen; omega) (by omega) ?_; intro row2 A3 c3 w3 hs2 hr2
                     obtain ⟨hk3, hw3⟩ := grew_new hr2 (HK1.out.alloc _) HR3.out
                     have HS3 := Lib.hid hs2
                     have HK3 := Lib.hid hk3
                     have HR4 := Lib.hid hw3
                     clear hs2 hr2 hk3 hw3)
        go_roundw
        case rel => exact ⟨q + 1, row2, A3, n2 + 1, c3, by omega, by go_num, rfl, Lib.hid (by rw [HM.out, List.flatMap_append]; exact HS3.out), HR4, HK3⟩
        case measure => simp [intOf]; omega
      · have HM := Lib.hid (HX.out.2 hu)
        clear HX
        go_wp2
        go_roundw
        case rel => exact ⟨q + 1, row, A2, n2, c2, by omega, by go_num, rfl, Lib.hid (by rw [HM.out]; exact HS1.out), HR3, HK1⟩
        case measure => simp [intOf]; omega
    · obtain rfl : q = N := by omega
      have HM : Hid (RdI wr A2 n2 (posI L)) := Lib.hid (by
        have e1 := HS2.out.rd
        rw [List.take_of_length_le (by rw [HL.out]; exact Nat.le_refl _)] at e1
        refine ⟨?_, e1⟩
        have e2 := e1.1
        rw [flat_len cID 2 (fun _ => rfl)] at e2
        omega)
      have hn2 : n2 ≤ 2000000 := by have := posI_len L; have := HM.out.1; have := HL.out; omega
      go_wp2_with fail
      refine (set_any A2 n2 c2 (posI L) _ HM.out (by omega)).mono ?_
      rintro e w2 ⟨row, A3, c3, rfl, hs3, hr3, hk3⟩
      have HS3 := Lib.hid hs3
      have HK3 := Lib.hid (keep0_trans _ _ _ HK.out (keep0_trans _ _ _ HKr.out hk3))
      have HR4 := Lib.hid (fun g hg => Nat.le_trans (Nat.le_trans HK.out.size HKr.out.size) (hr3 g hg))
      clear hs3 hr3 hk3
      go_wp2
      go_ret
      rw [HE.out]
      exact ⟨row, A3, c3, rfl, HS3.out, HR4.out, HK3.out⟩
end Go.Proofs.Ytljmpjkfdkcjnaa
