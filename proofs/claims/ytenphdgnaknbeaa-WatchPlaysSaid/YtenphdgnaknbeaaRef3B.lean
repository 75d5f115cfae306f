/-
  The reference's put, Set, Put, Del, Join, Same at IDs. Written by gen_ref3b.py.
-/
import Derived.Test.YtenphdgnaknbeaaRef3A
import Derived.Test.YtenphdgnaknbeaaCmpct
namespace Go.Proofs.Ytenphdgnaknbeaa
open Go.RowKit
attribute [local irreducible] kAll
attribute [local go_sem] kQuiet kQuietUpon

/-- a slice of IDs that can be read -/
def ISl (w : World) (A : Option Addr) (n c : Nat) (l : List ID) : Prop := RdI w A n l ∧ n ≤ c ∧ c ≤ maxLen ∧ (A = none ∨ ∃ g off, A = some ⟨g, off, none⟩)
theorem ISl.keep0 {w w' : World} {A : Option Addr} {n c : Nat} {l : List ID} (h : ISl w A n c l) (hk : Keep (fun _ => False) w w') : ISl w' A n c l := ⟨h.1.keep0 hk, h.2⟩
theorem SlK.isl {w : World} {t : TypeId} {row : Option Nat} {A : Option Addr} {n c : Nat} {l : List ID} (h : SlK w t 2 row A n c (l.flatMap cID)) : ISl w A n c l :=
  ⟨⟨by have := h.1; rw [flat_len cID 2 (fun _ => rfl)] at this; omega, h.rd⟩, h.2.1, h.2.2.1, by
    rcases h.2.2.2 with ⟨_, e, _⟩ | ⟨g, off, _, _, e, _⟩
    · exact .inl e
    · exact .inr ⟨g, off, e⟩⟩
/-- a slice of IDs, to be read -/
def GotI (l : List ID) (w : World) (e : Ending) (w' : World) : Prop := ∃ A n c, e = .returned (.slice A n c) ∧ ISl w' A n c l ∧ Keep (fun _ => False) w w'
theorem RdI.take {w : World} {A : Option Addr} {n : Nat} {l : List ID} (h : RdI w A n l) {k : Nat} (hk : k ≤ n) : RdI w A k (l.take k) := by
  refine ⟨by rw [List.length_take, h.1]; omega, by rw [flat_len cID 2 (fun _ => rfl), List.length_take, h.1]; omega, fun j hj => ?_⟩
  obtain ⟨g, off, v, h1, h2, h3⟩ := h.2.2 j (by omega)
  refine ⟨g, off, v, h1, ?_, h3⟩
  have e : (l.take k).flatMap cID ++ (l.drop k).flatMap cID = l.flatMap cID := by rw [← List.flatMap_append, List.take_append_drop]
  rw [← e, List.getElem?_append_left (by rw [flat_len cID 2 (fun _ => rfl), List.length_take, h.1]; omega)] at h2
  exact h2
theorem RdI.drop {w : World} {g off : Nat} {n : Nat} {l : List ID} (h : RdI w (some ⟨g, off, none⟩) n l) {k : Nat} (_ : k ≤ n) : RdI w (some ⟨g, off + k * 2, none⟩) (n - k) (l.drop k) := by
  refine ⟨by rw [List.length_drop, h.1], by rw [flat_len cID 2 (fun _ => rfl), List.length_drop, h.1], fun j hj => ?_⟩
  obtain ⟨g', off', v, h1, h2, h3⟩ := h.2.2 (k * 2 + j) (by omega)
  injection h1 with h1; injection h1 with q1 q2; subst q1 q2
  refine ⟨g, off + k * 2, v, rfl, ?_, by rw [Nat.add_assoc]; exact h3⟩
  have e : (l.take k).flatMap cID ++ (l.drop k).flatMap cID = l.flatMap cID := by rw [← List.flatMap_append, List.take_append_drop]
  have hlen : ((l.take k).flatMap cID).length = k * 2 := by rw [flat_len cID 2 (fun _ => rfl), List.length_take, h.1]; omega
  rw [← e, List.getElem?_append_right (by omega), hlen, show k * 2 + j - k * 2 = j by omega] at h2
  exact h2
theorem RdI.none_ (w : World) (A : Option Addr) : RdI w A 0 [] := ⟨rfl, by simp, fun j hj => by omega⟩
theorem RdI.one_ {w : World} {g : Nat} {t : TypeId} {x : ID} (h : Blk w g t #[.int .i64 x.1, .int .i64 x.2]) : RdI w (some ⟨g, 0, none⟩) 1 [x] := ⟨rfl, RdK.of_blk h 1 2 rfl⟩

theorem putR_at {l : List ID} {x : ID} {k : Nat} (h : Ris l) (_ : k ≤ l.length) (h1 : ∀ y ∈ l.take k, ltID y x = true) (h2 : k < l.length → ltID (l.getD k (0, 0)) x = false) :
    (k < l.length → l.getD k (0, 0) = x → putR l x = l) ∧ ((k < l.length → ¬ l.getD k (0, 0) = x) → putR l x = l.take k ++ x :: l.drop k) := by
  constructor
  · intro hlt he
    unfold putR
    rw [if_pos]
    rw [← he]; simp [List.getD, hlt]
  · intro hne
    have hd : ∀ y ∈ l.drop k, ltID x y = true := by
      intro y hy
      have hlt : k < l.length := by
        rcases Nat.lt_or_ge k l.length with q | q
        · exact q
        · rw [List.drop_of_length_le q] at hy; cases hy
      have e : l.getD k (0, 0) = l[k] := by simp [List.getD, hlt]
      have q1 : ltID x l[k] = true := by
        rcases lt_tri x l[k] with c | c | c
        · exact c
        · exact absurd (by rw [e, ← c]) (hne hlt)
        · have := h2 hlt; rw [e, c] at this; cases this
      rw [List.drop_eq_getElem_cons hlt, List.mem_cons] at hy
      rcases hy with rfl | hy
      · exact q1
      · have hP : Ris (l.drop k) := h.sub (List.drop_sublist k l)
        rw [List.drop_eq_getElem_cons hlt] at hP
        unfold Ris at hP
        rw [List.pairwise_cons] at hP
        exact lt_trans q1 (hP.1 y hy)
    have hx : x ∉ l := by
      intro hx
      rw [← List.take_append_drop k l, List.mem_append] at hx
      rcases hx with hx | hx
      · have := h1 x hx; rw [lt_irr] at this; cases this
      · have := hd x hx; rw [lt_irr] at this; cases this
    unfold putR
    rw [if_neg hx]
    have e1 : l.filter (fun y => ltID y x) = l.take k := by
      conv => lhs; rw [← List.take_append_drop k l]
      rw [List.filter_append, List.filter_eq_self.2 h1, List.filter_eq_nil_iff.2 (fun y hy => by rw [lt_asym (hd y hy)]; simp), List.append_nil]
    have e2 : l.filter (fun y => !ltID y x) = l.drop k := by
      conv => lhs; rw [← List.take_append_drop k l]
      rw [List.filter_append, List.filter_eq_nil_iff.2 (fun y hy => by rw [h1 y hy]; simp), List.filter_eq_self.2 (fun y hy => by rw [lt_asym (hd y hy)]; rfl), List.nil_append]
    rw [e1, e2]
theorem take_lt_next {l : List ID} {k : Nat} {x : ID} (h : ∀ y ∈ l.take k, ltID y x = true) (hk : k < l.length) (he : ltID (l.getD k (0, 0)) x = true) : ∀ y ∈ l.take (k + 1), ltID y x = true := by
  intro y hy
  rw [List.take_succ_eq_append_getElem hk, List.mem_append, List.mem_singleton] at hy
  rcases hy with hy | hy
  · exact h y hy
  · rw [hy]; simpa [List.getD, hk] using he
theorem infoR : (Try.prog.info? 33).map (fun i => (i.zero, i.size, i.bytes)) = some (some (.agg #[.int .i64 0, .int .i64 0]), 2, 16) := by kernel_rfl
theorem SlK.empty2 {w : World} {g : Nat} (h : Blk w g 33 #[]) : SlK w 33 2 (some g) (some ⟨g, 0, none⟩) 0 0 [] :=
  ⟨by simp, Nat.le_refl _, by simp [maxLen], .inr ⟨g, 0, #[], rfl, rfl, h, by simp, fun j hj => by omega⟩⟩
theorem one_flat' (l : List ID) : ∀ u ∈ l.flatMap cID, u.oneCell' = true := by
  intro u hu
  rw [List.mem_flatMap] at hu
  obtain ⟨x, _, hx⟩ := hu
  simp at hx
  rcases hx with rfl | rfl <;> rfl
theorem grew_new {w w1 w2 : World} {row row2 : Option Nat} {A A2 : Option Addr} {c c2 m : Nat} (h : (m = 0 ∧ row2 = row ∧ A2 = A ∧ c2 = c ∧ w2 = w1) ∨ Grew row A c w1 row2 A2 c2 w2) (hk : Keep (fun _ => False) w w1) (hr : ∀ g, row = some g → w.heap.size ≤ g) :
    Keep (fun _ => False) w w2 ∧ ∀ g, row2 = some g → w.heap.size ≤ g := by
  rcases h with ⟨_, e1, _, _, e2⟩ | h
  · rw [e1, e2]; exact ⟨hk, hr⟩
  · exact ⟨h.keep0 hk hr, h.own hk.size hr⟩

set_option maxRecDepth 100000 in
set_option maxHeartbeats 4000000 in
theorem putR_any (A : Option Addr) (n c : Nat) (l : List ID) (x : ID) (w : World) (h : ISl w A n c l) (hs : Ris l) (hn : n ≤ 1000000) :
    Calls Try.prog 42 #[.slice A n c, idV x] w (GotI (putR l x) w) := by
  obtain ⟨a, i⟩ := x
  have HL := Lib.hid h.1.1
  have HR := Lib.hid h
  have HS := Lib.hid hs
  have hnc := h.2.1
  have hcm := h.2.2.1
  have HA := Lib.hid h.2.2.2
  unfold maxLen at hcm
  obtain ⟨i0, hi, hz0, hz1, hz2⟩ := info_parts infoR
  have HI := Lib.hid hi
  have HZ0 := Lib.hid hz0
  have HZ1 := Lib.hid hz1
  have HZ2 := Lib.hid hz2
  clear h hs hi hz0 hz1 hz2
  obtain ⟨W0, hW0⟩ : ∃ W0, w.alloc (.cells #[.int .i64 a, .int .i64 i] 33) = W0 := ⟨_, rfl⟩
  have hB : Blk W0 w.heap.size 33 #[.int .i64 a, .int .i64 i] := by rw [← hW0]; exact Blk.new _ _ _
  have hK : Keep (fun _ => False) w W0 := by rw [← hW0]; exact (Keep.refl _ w).alloc _
  have HB := Lib.hid hB
  have HK := Lib.hid hK
  clear hB hK
  go_enter Try.func42, Try.ntmps42
  go_wp2
  have HW0 := Lib.hid hW0
  clear hW0
  go_loopw [5] (fun j wr => ∃ k : Nat, k ≤ n ∧ j = .int .i64 (k : Int) ∧ Hid (∀ y ∈ l.take k, ltID y (a, i) = true) ∧ Hid (Keep (fun _ => False) W0 wr)) (fun j _ => n - (intOf j).toNat)
  case atStart => exact ⟨0, by omega, rfl, Lib.hid (by simp), Lib.hid (Keep.refl _ _)⟩
  case round =>
    obtain ⟨k, hk, rfl, HN, HKr⟩ := hrel
    have KW := Lib.hid (keep0_trans _ _ _ HK.out HKr.out)
    have HBr := Lib.hid (HB.out.keep HKr.out (fun h => h))
    have B0 := HBr.out.cell 0
    have B1 := HBr.out.cell 1
    simp only [List.getElem?_toArray, List.getElem?_cons_zero, List.getElem?_cons_succ] at B0 B1
    have e2 : IntKind.i64.wrap (k : Int) = (k : Int) := IntWalk.i64_in _ (by omega)
    have hkJ : (0 : Int) ≤ (k : Int) := by omega
    by_cases hlt : k < n
    · obtain ⟨g, off, hA, c0, c1⟩ := HR.out.1.at_ hlt
      have Q0 := KW.out.cell c0 (fun h => h)
      have Q1 := KW.out.cell c1 (fun h => h)
      have hll : k < l.length := by rw [HL.out]; exact hlt
      have HX := Lib.hid (fun he => take_lt_next HN.out hll he)
      have HY := Lib.hid (fun he => putR_at (x := (a, i)) HS.out (by omega) HN.out (fun _ => he))
      have hkI : (k : Int) < (n : Int) := by omega
      clear c0 c1
      generalize hy : l.getD k (0, 0) = y at Q0 Q1 HX HY
      obtain ⟨b, j⟩ := y
      simp only at Q0 Q1
      subst hA
      go_wp2_with fail
      refine wp_region_krip (Keep (fun _ => False)) (Keep.refl _) keep0_trans 11 (by kernel_rfl) (by kernel_rfl) (Ts := [none, none, none, none, none, none, none, none, some (.inl (idV (b, j))), some (.inl (idV (a, i))), some (.inl (.bool (ltID (b, j) (a, i))))]) ?_
      simp only [List.take, List.drop]
      refine kAll_p (fun K hK => ?_)
      go_simp
      generalize hZ : (Act.mk _ _) = Z
      refine hK Z ?_
      subst hZ
      clear hK K
      refine kAll_p (fun K hK => ?_)
      go_simp
      generalize hZ : (Act.mk _ _) = Z
      refine hK Z ?_
      subst hZ
      clear hK K
      refine kAll_p (fun K hK => ?_)
      go_simp
      generalize hZ : (Act.mk _ _) = Z
      refine hK Z ?_
      subst hZ
      clear hK K
      refine kAll_p (fun K hK => ?_)
      go_simp
      generalize hZ : (Act.mk _ _) = Z
      refine hK Z ?_
      subst hZ
      clear hK K
      refine kAll_p (fun K hK => ?_)
      go_simp
      generalize hZ : (Act.mk _ _) = Z
      refine hK Z ?_
      subst hZ
      clear hK K
      refine kAll_pw (by kernel_rfl) (fun K hK => ?_)
      go_simp
      generalize hZ : (Act.mk _ _) = Z
      refine hK Z ?_
      subst hZ
      clear hK K
      refine kAll_pw (by kernel_rfl) (fun K hK => ?_)
      go_simp
      generalize hZ : (Act.mk _ _) = Z
      refine hK Z ?_
      subst hZ
      clear hK K
      refine kAll_pw (by kernel_rfl) (fun K hK => ?_)
      go_simp
      generalize hZ : (Act.mk _ _) = Z
      refine hK Z ?_
      subst hZ
      clear hK K
      refine kAll_dn _ (fun W hW hF => kStep_w (by kernel_rfl) fun K Q hK => ?_) (fun K hK => ?_)
      · have c0 := Keep.cell hW (show World.cell? (World.drew _) _ = some _ from Q0) (fun h => h)
        have c1 := Keep.cell hW (show World.cell? (World.drew _) _ = some _ from Q1) (fun h => h)
        go_simp
        exact hK _ _ (Keep.refl _ _) rfl
      go_simp
      generalize hZ : (Act.mk _ _) = Z
      refine hK Z ?_
      subst hZ
      clear hK K
      refine kAll_dn _ (fun W hW hF => kStep_w (by kernel_rfl) fun K Q hK => ?_) (fun K hK => ?_)
      · have c0 := Keep.cell hW (show World.cell? (World.drew _) _ = some _ from B0) (fun h => h)
        have c1 := Keep.cell hW (show World.cell? (World.drew _) _ = some _ from B1) (fun h => h)
        go_simp
        exact hK _ _ (Keep.refl _ _) rfl
      go_simp
      generalize hZ : (Act.mk _ _) = Z
      refine hK Z ?_
      subst hZ
      clear hK K
      refine kAll_dn _ (fun W hW hF => kStep_w (by kernel_rfl) fun K Q hK => ?_) (fun K hK => ?_)
      · go_simp
        refine (lessR_any (b, j) (a, i) W).mono ?_
        rintro e w' ⟨rfl, hk⟩
        exact hK _ _ hk rfl
      go_simp
      generalize hZ : (Act.mk _ _) = Z
      refine hK Z ?_
      subst hZ
      clear hK K
      refine kAll_nil (fun W hW hF => ?_)
      clear hF
      cases hb : ltID (b, j) (a, i) with
      | true =>
        have HX2 := Lib.hid (HX.out hb)
        go_wp2
        go_roundw
        case rel => exact ⟨k + 1, by omega, by go_num, HX2, Lib.hid (keepD HKr.out hW)⟩
        case measure => simp [intOf]; omega
      | false =>
        have HY2 := Lib.hid (HY.out hb)
        have HBW := Lib.hid (HBr.out.drew.keep hW (fun h => h))
        have KWW := Lib.hid (keepD KW.out hW)
        have c0 := Keep.cell hW (show World.cell? (World.drew _) _ = some _ from Q0) (fun h => h)
        have c1 := Keep.cell hW (show World.cell? (World.drew _) _ = some _ from Q1) (fun h => h)
        have d0 := HBW.out.cell 0
        have d1 := HBW.out.cell 1
        clear hb hW Q0 Q1 B0 B1 HX HY
        have G := gID
        by_cases he : (b, j) = (a, i)
        · have E := (fun W => by simpa [he] using eql_ID (b, j) (a, i) W : ∀ W, (binOp .eql 33 (idV (b, j)) (idV (a, i))).run Try.prog W = .ok (.bool true) W)
          have HP := Lib.hid (HY2.out.1 hll he)
          clear he
          go_wp2
          go_quiet (fail)
          go_wp2
          go_ret
          exact ⟨_, _, _, rfl, by rw [HP.out]; exact HR.out.keep0 (KWW.out.drewN _), KWW.out.drewN _⟩
        · have E := (fun W => by simpa [he] using eql_ID (b, j) (a, i) W : ∀ W, (binOp .eql 33 (idV (b, j)) (idV (a, i))).run Try.prog W = .ok (.bool false) W)
          have HP := Lib.hid (HY2.out.2 (fun _ => he))
          clear he
          go_wp2
          go_quiet (fail)
          go_wp2_with (first
            | (at_builtin; refine wpList_append_slK rfl _ _ _ rfl i0 _ 16 Try.underlying30 HI.out HZ0.out HZ1.out HZ2.out rfl (by omega) (SlK.empty2 (Blk.new _ _ _)) rfl rfl (((HR.out.1.take hk).keep0 (KWW.out.drewN _)).keep0 ((Keep.refl _ _).alloc _)).2 (one_flat' _) (by unfold maxLen; omega) (by omega) ?_; intro row1 A1 c1 w1 hs1 hr1
               obtain ⟨hk1, hw1⟩ := grew_new hr1 (((Keep.refl (fun _ => False) W).drewN _).alloc _) (fun g hg => by injection hg with hg; rw [← hg]; exact Nat.le_refl _)
               have hs1 : SlK w1 33 2 row1 A1 k c1 ((l.take k).flatMap cID) := by simpa using hs1
               have d0 := hk1.cell (show World.cell? _ ⟨w.heap.size, 0, none⟩ = some (.int .i64 a) from HBW.out.cell 0) (fun h => h)
               have d1 := hk1.cell (show World.cell? _ ⟨w.heap.size, 1, none⟩ = some (.int .i64 i) from HBW.out.cell 1) (fun h => h)
               have HS1 := Lib.hid hs1
               have HK1 := Lib.hid hk1
               have HW1 := Lib.hid hw1
               clear hs1 hk1 hw1 hr1)
            | (at_builtin; refine wpList_append_slK rfl _ _ _ rfl i0 _ 16 Try.underlying30 HI.out HZ0.out HZ1.out HZ2.out rfl (by omega) (HS1.out.keep0 ((Keep.refl _ _).alloc _)) rfl rfl (RdI.one_ (x := (a, i)) (Blk.new _ _ _)).2 (one_flat' _) (by unfold maxLen; omega) (by omega) ?_; intro row2 A2 c2 w2 hs2 hr2
               obtain ⟨hk2, hw2⟩ := grew_new hr2 (HK1.out.alloc _) HW1.out
               have HS2 := Lib.hid hs2
               have HK2 := Lib.hid hk2
               have HW2 := Lib.hid hw2
               clear hs2 hk2 hw2 hr2)
            | (at_builtin; refine wpList_append_slK rfl _ _ _ rfl i0 _ 16 Try.underlying30 HI.out HZ0.out HZ1.out HZ2.out rfl (by omega) HS2.out rfl rfl ((HR.out.1.drop hk).keep0 (keep0_trans _ _ _ KWW.out HK2.out)).2 (one_flat' _) (by unfold maxLen; omega) (by omega) ?_; intro row3 A3 c3 w3 hs3 hr3
               obtain ⟨hk3, hw3⟩ := grew_new hr3 HK2.out HW2.out
               have HS3 := Lib.hid hs3
               have HK3 := Lib.hid hk3
               clear hs3 hk3 hw3 hr3))
          all_goals
            go_ret
            refine ⟨_, _, _, rfl, ?_, keep0_trans _ _ _ KWW.out HK3.out⟩
            rw [HP.out]
            have e : (l.take k).flatMap cID ++ [(a, i)].flatMap cID ++ (l.drop k).flatMap cID = (l.take k ++ (a, i) :: l.drop k).flatMap cID := by simp [List.flatMap_append]
            have := HS3.out
            rw [e] at this
            exact this.isl
    · obtain rfl : k = n := by omega
      have HP := Lib.hid ((putR_at (x := (a, i)) HS.out (by rw [HL.out]; exact Nat.le_refl _) HN.out (fun h => by rw [HL.out] at h; omega)).2 (fun h => by rw [HL.out] at h; omega))
      have KWW := KW
      have HBW := HBr
      clear B0 B1
      rcases HA.out with hA | ⟨g, off, hA⟩
      · have hk0 : k = 0 := by
          rcases Nat.eq_zero_or_pos k with q | q
          · exact q
          · obtain ⟨g, off, hA', _⟩ := HR.out.1.at_ q
            rw [hA] at hA'; cases hA'
        subst hk0
        have hl : l = [] := List.eq_nil_of_length_eq_zero HL.out
        subst hl
        subst hA
        go_wp2
        go_quiet (fail)
        go_wp2
        go_quiet (fail)
        go_wp2_with (first
          | (at_builtin; refine wpList_append_slK rfl _ _ _ rfl i0 _ 16 Try.underlying30 HI.out HZ0.out HZ1.out HZ2.out rfl (by omega) (SlK.empty2 (Blk.new _ _ _)) rfl rfl (RdI.none_ _ none).2 (one_flat' _) (by unfold maxLen; omega) (by omega) ?_; intro row1 A1 c1 w1 hs1 hr1
             obtain ⟨hk1, hw1⟩ := grew_new hr1 (((Keep.refl (fun _ => False) wr).drewN _).alloc _) (fun g hg => by injection hg with hg; rw [← hg]; exact Nat.le_refl _)
             have hs1 : SlK w1 33 2 row1 A1 0 c1 ((([] : List ID).take 0).flatMap cID) := by simpa using hs1
             have d0 := hk1.cell (show World.cell? _ ⟨w.heap.size, 0, none⟩ = some (.int .i64 a) from HBW.out.cell 0) (fun h => h)
             have d1 := hk1.cell (show World.cell? _ ⟨w.heap.size, 1, none⟩ = some (.int .i64 i) from HBW.out.cell 1) (fun h => h)
             have HS1 := Lib.hid hs1
             have HK1 := Lib.hid hk1
             have HW1 := Lib.hid hw1
             clear hs1 hk1 hw1 hr1)
          | (at_builtin; refine wpList_append_slK rfl _ _ _ rfl i0 _ 16 Try.underlying30 HI.out HZ0.out HZ1.out HZ2.out rfl (by omega) (HS1.out.keep0 ((Keep.refl _ _).alloc _)) rfl rfl (RdI.one_ (x := (a, i)) (Blk.new _ _ _)).2 (one_flat' _) (by unfold maxLen; omega) (by omega) ?_; intro row2 A2 c2 w2 hs2 hr2
             obtain ⟨hk2, hw2⟩ := grew_new hr2 (HK1.out.alloc _) HW1.out
             have HS2 := Lib.hid hs2
             have HK2 := Lib.hid hk2
             have HW2 := Lib.hid hw2
             clear hs2 hk2 hw2 hr2)
          | (at_builtin; refine wpList_append_slK rfl _ _ _ rfl i0 _ 16 Try.underlying30 HI.out HZ0.out HZ1.out HZ2.out rfl (by omega) HS2.out rfl rfl (RdI.none_ _ none).2 (one_flat' _) (by unfold maxLen; omega) (by omega) ?_; intro row3 A3 c3 w3 hs3 hr3
             obtain ⟨hk3, hw3⟩ := grew_new hr3 HK2.out HW2.out
             have HS3 := Lib.hid hs3
             have HK3 := Lib.hid hk3
             clear hs3 hk3 hw3 hr3))
        all_goals
          go_ret
          refine ⟨_, _, _, rfl, ?_, keep0_trans _ _ _ KWW.out HK3.out⟩
          rw [HP.out]
          have e : (([] : List ID).take 0).flatMap cID ++ [(a, i)].flatMap cID ++ ([] : List ID).flatMap cID = (([] : List ID).take 0 ++ (a, i) :: ([] : List ID).drop 0).flatMap cID := by simp
          have := HS3.out
          rw [e] at this
          exact this.isl
      · subst hA
        have HD := Lib.hid (List.drop_of_length_le (l := l) (i := k) (by rw [HL.out]; exact Nat.le_refl _))
        go_wp2
        go_quiet (fail)
        go_wp2
        go_quiet (fail)
        go_wp2_with (first
          | (at_builtin; refine wpList_append_slK rfl _ _ _ rfl i0 _ 16 Try.underlying30 HI.out HZ0.out HZ1.out HZ2.out rfl (by omega) (SlK.empty2 (Blk.new _ _ _)) rfl rfl (((HR.out.1.take hk).keep0 (KWW.out.drewN _)).keep0 ((Keep.refl _ _).alloc _)).2 (one_flat' _) (by unfold maxLen; omega) (by omega) ?_; intro row1 A1 c1 w1 hs1 hr1
             obtain ⟨hk1, hw1⟩ := grew_new hr1 (((Keep.refl (fun _ => False) wr).drewN _).alloc _) (fun g hg => by injection hg with hg; rw [← hg]; exact Nat.le_refl _)
             have hs1 : SlK w1 33 2 row1 A1 k c1 ((l.take k).flatMap cID) := by simpa using hs1
             have d0 := hk1.cell (show World.cell? _ ⟨w.heap.size, 0, none⟩ = some (.int .i64 a) from HBW.out.cell 0) (fun h => h)
             have d1 := hk1.cell (show World.cell? _ ⟨w.heap.size, 1, none⟩ = some (.int .i64 i) from HBW.out.cell 1) (fun h => h)
             have HS1 := Lib.hid hs1
             have HK1 := Lib.hid hk1
             have HW1 := Lib.hid hw1
             clear hs1 hk1 hw1 hr1)
          | (at_builtin; refine wpList_append_slK rfl _ _ _ rfl i0 _ 16 Try.underlying30 HI.out HZ0.out HZ1.out HZ2.out rfl (by omega) (HS1.out.keep0 ((Keep.refl _ _).alloc _)) rfl rfl (RdI.one_ (x := (a, i)) (Blk.new _ _ _)).2 (one_flat' _) (by unfold maxLen; omega) (by omega) ?_; intro row2 A2 c2 w2 hs2 hr2
             obtain ⟨hk2, hw2⟩ := grew_new hr2 (HK1.out.alloc _) HW1.out
             have HS2 := Lib.hid hs2
             have HK2 := Lib.hid hk2
             have HW2 := Lib.hid hw2
             clear hs2 hk2 hw2 hr2)
          | (at_builtin; refine wpList_append_slK rfl _ _ _ rfl i0 _ 16 Try.underlying30 HI.out HZ0.out HZ1.out HZ2.out rfl (by omega) HS2.out rfl rfl (RdI.none_ _ _).2 (one_flat' _) (by unfold maxLen; omega) (by omega) ?_; intro row3 A3 c3 w3 hs3 hr3
             obtain ⟨hk3, hw3⟩ := grew_new hr3 HK2.out HW2.out
             have HS3 := Lib.hid hs3
             have HK3 := Lib.hid hk3
             clear hs3 hk3 hw3 hr3))
        all_goals
          go_ret
          refine ⟨_, _, _, rfl, ?_, keep0_trans _ _ _ KWW.out HK3.out⟩
          rw [HP.out]
          have e : (l.take k).flatMap cID ++ [(a, i)].flatMap cID ++ ([] : List ID).flatMap cID = (l.take k ++ (a, i) :: l.drop k).flatMap cID := by simp [HD.out]
          have := HS3.out
          rw [e] at this
          exact this.isl
end Go.Proofs.Ytenphdgnaknbeaa
