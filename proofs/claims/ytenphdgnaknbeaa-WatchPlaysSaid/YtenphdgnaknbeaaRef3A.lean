/-
  The reference's Less, Rising, Has, IDs at IDs. Written by gen_ref3a.py.
-/
import Derived.Test.YtenphdgnaknbeaaHas
import Derived.Test.YtenphdgnaknbeaaKord
namespace Go.Proofs.Ytenphdgnaknbeaa
open Go.RowKit
attribute [local irreducible] kAll
attribute [local go_sem] kQuiet kQuietUpon

set_option maxHeartbeats 1000000 in
theorem lessR_any (p q : ID) (w : World) : Calls Try.prog 43 #[idV p, idV q] w (Tell (.bool (ltID p q)) w) := by
  obtain ⟨a, i⟩ := p
  obtain ⟨b, j⟩ := q
  have hk : Keep (fun _ => False) w ((w.alloc (.cells #[.int .i64 a, .int .i64 i] 33)).alloc (.cells #[.int .i64 b, .int .i64 j] 33)) := ((Keep.refl _ w).alloc _).alloc _
  have HK := Lib.hid hk
  clear hk
  by_cases h : a = b
  · subst h
    have e1 : (a != a) = false := by simp
    have e2 : ltID (a, i) (a, j) = decide (i < j) := by simp [ltID]
    have E2 := Lib.hid e2
    clear e2
    go_enter Try.func43, Try.ntmps43
    go_wp2
    go_ret
    exact ⟨ret_bool E2.out.symm, HK.out⟩
  · have e1 : (a != b) = true := by simpa using h
    have e3 : (a == b) = false := by simpa using h
    have e2 : ltID (a, i) (b, j) = decide (a < b) := by simp [ltID, h]
    have E2 := Lib.hid e2
    clear e2 h
    go_enter Try.func43, Try.ntmps43
    go_wp2
    go_ret
    exact ⟨ret_bool E2.out.symm, HK.out⟩

instance (l : List ID) : Decidable (Ris l) := by unfold Ris; exact inferInstance
theorem ris_take {l : List ID} (h : Ris l) (k : Nat) : Ris (l.take k) := h.sub (List.take_sublist k l)
theorem ris_next {l : List ID} {k : Nat} (h : Ris (l.take (k + 1))) (hk : k + 1 < l.length) (hlt : ltID (l.getD k (0, 0)) (l.getD (k + 1) (0, 0)) = true) : Ris (l.take (k + 1 + 1)) := by
  have e : l.getD (k + 1) (0, 0) = l[k + 1] := by simp [List.getD, hk]
  have e1 : l.getD k (0, 0) = l[k] := by simp [List.getD, (by omega : k < l.length)]
  rw [e, e1] at hlt
  rw [List.take_succ_eq_append_getElem hk]
  unfold Ris
  rw [List.pairwise_append]
  refine ⟨h, List.pairwise_singleton _ _, fun x hx y hy => ?_⟩
  rw [List.mem_singleton] at hy
  subst hy
  rw [List.take_succ_eq_append_getElem (by omega : k < l.length), List.mem_append, List.mem_singleton] at hx
  rcases hx with hx | hx
  · rw [List.take_succ_eq_append_getElem (by omega : k < l.length)] at h
    unfold Ris at h
    rw [List.pairwise_append] at h
    exact lt_trans (h.2.2 x hx _ (by simp)) hlt
  · rw [hx]; exact hlt
theorem ris_not {l : List ID} {k : Nat} (hk : k + 1 < l.length) (hlt : ltID (l.getD k (0, 0)) (l.getD (k + 1) (0, 0)) = false) : ¬ Ris l := by
  intro h
  have := List.pairwise_iff_getElem.1 h k (k + 1) (by omega) hk (by omega)
  simp [List.getD, hk, (by omega : k < l.length)] at hlt
  rw [this] at hlt
  cases hlt
set_option maxRecDepth 100000 in
set_option maxHeartbeats 2000000 in
theorem risingR_any (A : Option Addr) (n c : Nat) (l : List ID) (w : World) (h : RdI w A n l) (hn : n ≤ 9223372036854775807) :
    Calls Try.prog 24 #[.slice A n c] w (Tell (.bool (decide (Ris l))) w) := by
  have HR := Lib.hid h
  have HL := Lib.hid h.1
  clear h
  go_enter Try.func24, Try.ntmps24
  go_wp2
  go_loopw [3] (fun i wr => ∃ k : Nat, (k + 1 ≤ n ∨ k = 0) ∧ i = .int .i64 ((k : Int) + 1) ∧ Hid (Ris (l.take (k + 1))) ∧ Hid (Keep (fun _ => False) w wr)) (fun i _ => n - (intOf i).toNat)
  case atStart =>
    refine ⟨0, .inr rfl, rfl, Lib.hid ?_, Lib.hid (Keep.refl _ _)⟩
    rcases l with _ | ⟨x, l⟩
    · exact ris_nil
    · simpa using ris_one x
  case round =>
    obtain ⟨k, hk, rfl, HS, HK⟩ := hrel
    by_cases hlt : k + 1 < n
    · obtain ⟨g, off, hA, p0, p1⟩ := HR.out.at_ hlt
      obtain ⟨g', off', hA', q0, q1⟩ := HR.out.at_ (by omega : k < n)
      rw [hA] at hA'; injection hA' with hA'; injection hA' with q2 q3; subst q2 q3
      have P0 := HK.out.cell p0 (fun h => h)
      have P1 := HK.out.cell p1 (fun h => h)
      have Q0 := HK.out.cell q0 (fun h => h)
      have Q1 := HK.out.cell q1 (fun h => h)
      have HN := Lib.hid (fun h => ris_next HS.out (by rw [HL.out]; exact hlt) h)
      have HM := Lib.hid (fun h => ris_not (l := l) (k := k) (by rw [HL.out]; exact hlt) h)
      subst hA
      clear p0 p1 q0 q1
      generalize l.getD (k + 1) (0, 0) = x at P0 P1 HN HM
      generalize l.getD k (0, 0) = y at Q0 Q1 HN HM
      obtain ⟨a, i⟩ := x
      obtain ⟨b, j⟩ := y
      simp only at P0 P1 Q0 Q1
      have hkI : (k : Int) + 1 < (n : Int) := by omega
      have hkL : (k : Int) < (n : Int) := by omega
      have e1 : IntKind.i64.wrap ((k : Int) + 1 - 1) = (k : Int) := (IntWalk.i64_in ((k : Int) + 1 - 1) (by omega)).trans (by omega)
      have e2 : IntKind.i64.wrap (k : Int) = (k : Int) := IntWalk.i64_in _ (by omega)
      have t1 : ((k : Int) + 1).toNat = k + 1 := by omega
      have hkM : (0 : Int) ≤ (k : Int) + 1 := by omega
      have hkJ : (0 : Int) ≤ (k : Int) := by omega
      go_wp2_with fail
      refine wp_region_krip (Keep (fun _ => False)) (Keep.refl _) keep0_trans 10 (by kernel_rfl) (by kernel_rfl) (Ts := [none, none, none, none, some (.inl (idV (b, j))), none, none, none, some (.inl (idV (a, i))), some (.inl (.bool (ltID (b, j) (a, i))))]) ?_
      simp only [List.take, List.drop]
      refine kAll_p (fun K hK => ?_)
      go_simp
      generalize hZ : (Act.mk _ _) = Z
      refine hK Z ?_
      subst hZ
      clear hK K
      refine kAll_p (fun K hK => ?_)
      go_simp
      generalize hZ : (Act.mk _ _) = Z
      refine hK Z ?_
      subst hZ
      clear hK K
      refine kAll_p (fun K hK => ?_)
      go_simp
      generalize hZ : (Act.mk _ _) = Z
      refine hK Z ?_
      subst hZ
      clear hK K
      refine kAll_p (fun K hK => ?_)
      go_simp
      generalize hZ : (Act.mk _ _) = Z
      refine hK Z ?_
      subst hZ
      clear hK K
      refine kAll_dn _ (fun W hW hF => kStep_of fun K Q hK => ?_) (fun K hK => ?_)
      · have c0 := Keep.cell hW (show World.cell? (World.drew _) _ = some _ from Q0) (fun h => h)
        have c1 := Keep.cell hW (show World.cell? (World.drew _) _ = some _ from Q1) (fun h => h)
        go_simp
        exact hK _ _ (Keep.refl _ _) rfl
      go_simp
      generalize hZ : (Act.mk _ _) = Z
      refine hK Z ?_
      subst hZ
      clear hK K
      refine kAll_p (fun K hK => ?_)
      go_simp
      generalize hZ : (Act.mk _ _) = Z
      refine hK Z ?_
      subst hZ
      clear hK K
      refine kAll_p (fun K hK => ?_)
      go_simp
      generalize hZ : (Act.mk _ _) = Z
      refine hK Z ?_
      subst hZ
      clear hK K
      refine kAll_p (fun K hK => ?_)
      go_simp
      generalize hZ : (Act.mk _ _) = Z
      refine hK Z ?_
      subst hZ
      clear hK K
      refine kAll_dn _ (fun W hW hF => kStep_of fun K Q hK => ?_) (fun K hK => ?_)
      · have c0 := Keep.cell hW (show World.cell? (World.drew _) _ = some _ from P0) (fun h => h)
        have c1 := Keep.cell hW (show World.cell? (World.drew _) _ = some _ from P1) (fun h => h)
        go_simp
        exact hK _ _ (Keep.refl _ _) rfl
      go_simp
      generalize hZ : (Act.mk _ _) = Z
      refine hK Z ?_
      subst hZ
      clear hK K
      refine kAll_dn _ (fun W hW hF => kStep_of fun K Q hK => ?_) (fun K hK => ?_)
      · go_simp
        refine (lessR_any (b, j) (a, i) W).mono ?_
        rintro e w' ⟨rfl, hk⟩
        exact hK _ _ hk rfl
      go_simp
      generalize hZ : (Act.mk _ _) = Z
      refine hK Z ?_
      subst hZ
      clear hK K
      refine kAll_nil (fun W hW hF => ?_)
      clear hF
      cases hb : ltID (b, j) (a, i) with
      | true =>
        have HN2 := Lib.hid (HN.out hb)
        go_wp2
        go_roundw
        case rel => exact ⟨k + 1, by omega, by go_num, HN2, Lib.hid (keepD HK.out hW)⟩
        case measure => simp [intOf]; omega
      | false =>
        have HM2 := Lib.hid (HM.out hb)
        go_wp2
        go_ret
        exact ⟨ret_bool (by simp [HM2.out]), keepD HK.out hW⟩
    · have hall : l.take (k + 1) = l := List.take_of_length_le (by rw [HL.out]; omega)
      have HS2 : Hid (Ris l) := Lib.hid (by have := HS.out; rwa [hall] at this)
      clear hall
      go_wp2
      go_ret
      exact ⟨ret_bool (by simp [HS2.out]), HK.out⟩
set_option maxRecDepth 100000 in
set_option maxHeartbeats 1000000 in
theorem hasR_any (A : Option Addr) (n c : Nat) (l : List ID) (x : ID) (w : World) (h : RdI w A n l) (hn : n ≤ 9223372036854775807) :
    Calls Try.prog 14 #[.slice A n c, idV x] w (Tell (.bool (decide (x ∈ l))) w) := by
  obtain ⟨a, i⟩ := x
  have HL := Lib.hid h.1
  have HR := Lib.hid h
  clear h
  obtain ⟨W0, hW0⟩ : ∃ W0, w.alloc (.cells #[.int .i64 a, .int .i64 i] 33) = W0 := ⟨_, rfl⟩
  have hB : Blk W0 w.heap.size 33 #[.int .i64 a, .int .i64 i] := by rw [← hW0]; exact Blk.new _ _ _
  have hK : Keep (fun _ => False) w W0 := by rw [← hW0]; exact (Keep.refl _ w).alloc _
  have HB := Lib.hid hB
  have HK := Lib.hid hK
  clear hB hK
  go_enter Try.func14, Try.ntmps14
  go_wp2
  have HW0 := Lib.hid hW0
  clear hW0
  go_loopw [5] (fun j wr => ∃ k : Nat, k ≤ n ∧ j = .int .i64 (k : Int) ∧ Hid ((a, i) ∉ l.take k) ∧ Hid (Keep (fun _ => False) W0 wr)) (fun j _ => n - (intOf j).toNat)
  case atStart => exact ⟨0, by omega, rfl, Lib.hid (by simp), Lib.hid (Keep.refl _ _)⟩
  case round =>
    obtain ⟨k, hk, rfl, HN, HKr⟩ := hrel
    by_cases hlt : k < n
    · obtain ⟨g, off, hA, c0, c1⟩ := HR.out.at_ hlt
      have kk := keep0_trans _ _ _ HK.out HKr.out
      have q0 := kk.cell c0 (fun h => h)
      have q1 := kk.cell c1 (fun h => h)
      have b0 := HKr.out.cell (HB.out.cell 0) (fun h => h)
      have b1 := HKr.out.cell (HB.out.cell 1) (fun h => h)
      have HX := Lib.hid (fun (he : ¬ l.getD k (0, 0) = (a, i)) => not_mem_next (x := (a, i)) HN.out (by rw [HL.out]; exact hlt) (fun h => he h.symm))
      have HY := Lib.hid (fun (he : l.getD k (0, 0) = (a, i)) => mem_at (x := (a, i)) (l := l) (k := k) (by rw [HL.out]; exact hlt) he.symm)
      subst hA
      clear c0 c1 kk
      generalize l.getD k (0, 0) = y at q0 q1 HX HY
      obtain ⟨b, j⟩ := y
      simp only at q0 q1
      have hkI : (k : Int) < (n : Int) := by omega
      have hkJ : (0 : Int) ≤ (k : Int) := by omega
      have e2 : IntKind.i64.wrap (k : Int) = (k : Int) := IntWalk.i64_in _ (by omega)
      have G := gID
      by_cases he : (b, j) = (a, i)
      · have E := (fun W => by simpa [he] using eql_ID (b, j) (a, i) W : ∀ W, (binOp .eql 33 (idV (b, j)) (idV (a, i))).run Try.prog W = .ok (.bool true) W)
        have HM := Lib.hid (HY.out he)
        clear he HX HY
        go_wp2
        go_quiet (fail)
        go_wp2
        go_ret
        exact ⟨ret_bool (by simp [HM.out]), keep0_trans _ _ _ HK.out (HKr.out.drewN _)⟩
      · have E := (fun W => by simpa [he] using eql_ID (b, j) (a, i) W : ∀ W, (binOp .eql 33 (idV (b, j)) (idV (a, i))).run Try.prog W = .ok (.bool false) W)
        have HM := Lib.hid (HX.out he)
        clear he HX HY
        go_wp2
        go_quiet (fail)
        go_wp2
        go_roundw
        case rel => exact ⟨k + 1, by omega, by go_num, HM, Lib.hid (HKr.out.drewN _)⟩
        case measure => simp [intOf]; omega
    · obtain rfl : k = n := by omega
      have HM : Hid ((a, i) ∉ l) := Lib.hid (by have := HN.out; rwa [List.take_of_length_le (by rw [HL.out]; exact Nat.le_refl _)] at this)
      go_wp2
      go_ret
      exact ⟨ret_bool (by simp [HM.out]), keep0_trans _ _ _ HK.out HKr.out⟩
theorem take_eq_next {l m : List ID} {k : Nat} (h : l.take k = m.take k) (h1 : k < l.length) (h2 : k < m.length) (he : l.getD k (0, 0) = m.getD k (0, 0)) : l.take (k + 1) = m.take (k + 1) := by
  rw [List.take_succ_eq_append_getElem h1, List.take_succ_eq_append_getElem h2, h]
  simp [List.getD, h1, h2] at he
  rw [he]
set_option maxRecDepth 100000 in
set_option maxHeartbeats 1000000 in
theorem idsR_any (A B : Option Addr) (n m c d : Nat) (l k : List ID) (w : World) (h : RdI w A n l) (h2 : RdI w B m k) (hn : n ≤ 9223372036854775807) (hm : m ≤ 9223372036854775807) :
    Calls Try.prog 31 #[.slice A n c, .slice B m d] w (Tell (.bool (decide (l = k))) w) := by
  by_cases hnm : n = m
  · subst hnm
    have HL := Lib.hid h.1
    have HL2 := Lib.hid h2.1
    have HR := Lib.hid h
    have HR2 := Lib.hid h2
    clear h h2
    go_enter Try.func31, Try.ntmps31
    go_wp2
    go_loopw [5] (fun j wr => ∃ r : Nat, r ≤ n ∧ j = .int .i64 (r : Int) ∧ Hid (l.take r = k.take r) ∧ Hid (Keep (fun _ => False) w wr)) (fun j _ => n - (intOf j).toNat)
    case atStart => exact ⟨0, by omega, rfl, Lib.hid (by simp), Lib.hid (Keep.refl _ _)⟩
    case round =>
      obtain ⟨r, hr, rfl, HN, HK⟩ := hrel
      by_cases hlt : r < n
      · obtain ⟨g, off, hA, c0, c1⟩ := HR.out.at_ hlt
        obtain ⟨g2, off2, hA2, d0, d1⟩ := HR2.out.at_ hlt
        have q0 := HK.out.cell c0 (fun h => h)
        have q1 := HK.out.cell c1 (fun h => h)
        have b0 := HK.out.cell d0 (fun h => h)
        have b1 := HK.out.cell d1 (fun h => h)
        have HX := Lib.hid (fun he => take_eq_next HN.out (by rw [HL.out]; exact hlt) (by rw [HL2.out]; exact hlt) he)
        have HY : Hid (¬ l.getD r (0, 0) = k.getD r (0, 0) → ¬ l = k) := Lib.hid (fun hne he => hne (by rw [he]))
        subst hA hA2
        clear c0 c1 d0 d1
        generalize l.getD r (0, 0) = x at q0 q1 HX HY
        generalize k.getD r (0, 0) = y at b0 b1 HX HY
        obtain ⟨a, i⟩ := x
        obtain ⟨b, j⟩ := y
        simp only at q0 q1 b0 b1
        have hkI : (r : Int) < (n : Int) := by omega
        have hkJ : (0 : Int) ≤ (r : Int) := by omega
        have e2 : IntKind.i64.wrap (r : Int) = (r : Int) := IntWalk.i64_in _ (by omega)
        have G := gID
        by_cases he : (a, i) = (b, j)
        · have E := (fun W => by simpa [he] using neq_ID (a, i) (b, j) W : ∀ W, (binOp .neq 33 (idV (a, i)) (idV (b, j))).run Try.prog W = .ok (.bool false) W)
          have HM := Lib.hid (HX.out he)
          clear he HX HY
          go_wp2
          go_quiet (fail)
          go_wp2
          go_roundw
          case rel => exact ⟨r + 1, by omega, by go_num, HM, Lib.hid (HK.out.drewN _)⟩
          case measure => simp [intOf]; omega
        · have E := (fun W => by simpa [he] using neq_ID (a, i) (b, j) W : ∀ W, (binOp .neq 33 (idV (a, i)) (idV (b, j))).run Try.prog W = .ok (.bool true) W)
          have HM := Lib.hid (HY.out he)
          clear he HX HY
          go_wp2
          go_quiet (fail)
          go_wp2
          go_ret
          exact ⟨ret_bool (by simp [HM.out]), HK.out.drewN _⟩
      · obtain rfl : r = n := by omega
        have HM : Hid (l = k) := Lib.hid (by have := HN.out; rwa [List.take_of_length_le (by rw [HL.out]; exact Nat.le_refl _), List.take_of_length_le (by rw [HL2.out]; exact Nat.le_refl _)] at this)
        go_wp2
        go_ret
        exact ⟨ret_bool (by simp [HM.out]), HK.out⟩
  · have hne : ¬ l = k := fun e => hnm (by rw [← h.1, ← h2.1, e])
    have HNe := Lib.hid hne
    have hI : ((n : Int) != (m : Int)) = true := by simp; omega
    have hI2 : ((n : Int) == (m : Int)) = false := by simp; omega
    clear hne h h2 hnm
    go_enter Try.func31, Try.ntmps31
    go_wp2
    go_ret
    exact ⟨ret_bool (by simp [HNe.out]), Keep.refl _ _⟩
end Go.Proofs.Ytenphdgnaknbeaa
