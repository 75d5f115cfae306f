/-
  ident.Rising, rows.May.
-/
import Derived.Test.YtgoldgamjogadaaGreatMgN6
namespace Go.Proofs.YtgoldgamjogadaaGreat
open Go.RowKit Go
set_option maxRecDepth 100000
attribute [local irreducible] kAll
attribute [local go_sem] kQuiet kQuietUpon

def okRi (l : List ID) (i : Nat) : Bool := decide (i = 0) || ltID (l.getD (i - 1) (0, 0)) (l.getD i (0, 0))
def risB (l : List ID) : Bool := (List.range l.length).all (okRi l)
theorem allB_no {f : Nat → Bool} {n k : Nat} (hk : k < n) (h : f k = false) : (List.range n).all f = false := by
  rw [Bool.eq_false_iff]; intro h2
  have := List.all_eq_true.1 h2 k (List.mem_range.2 hk)
  rw [h] at this; cases this
theorem allB_yes {f : Nat → Bool} {n : Nat} (h : ∀ j, j < n → f j = true) : (List.range n).all f = true := List.all_eq_true.2 fun j hj => h j (List.mem_range.1 hj)
set_option maxHeartbeats 4000000 in
theorem rising_any (A : Option Addr) (n c : Nat) (l : List ID) (w : World) (h : RdI w A n l) (hn : n ≤ 9223372036854775806) :
    Calls Tryz.prog 38 #[.slice A n c] w (Tell (.bool (risB l)) w) := by
  have HL := Lib.hid h.1
  have H := Lib.hid h
  clear h
  go_enter Tryz.func38, Tryz.ntmps38
  go_wp2_with fail
  go_loopw [6] (fun i wr => ∃ k : Nat, k ≤ n ∧ i = .int .i64 (k : Int) ∧ Hid (∀ j, j < k → okRi l j = true) ∧ Hid (Keep (fun _ => False) w wr)) (fun i _ => n - (intOf i).toNat)
  case atStart => exact ⟨0, Nat.zero_le _, rfl, Lib.hid (by intro j hj; omega), Lib.hid (Keep.refl _ _)⟩
  case round =>
    obtain ⟨k, hk, rfl, HA, HK⟩ := hrel
    by_cases hlt : k < n
    · obtain ⟨g, off, rfl, q0, q1⟩ := (H.out.keep0 HK.out).at_ hlt
      have HFL := Lib.hid (fun h => show risB l = false from allB_no (f := okRi l) (k := k) (by rw [HL.out]; exact hlt) h)
      have HO := Lib.hid (show okRi l k = (decide (k = 0) || ltID (l.getD (k - 1) (0, 0)) (l.getD k (0, 0))) from rfl)
      have HPR : Hid (0 < k → ∀ W, Keep (fun _ => False) wr W → W.cell? ⟨g, off + (k - 1) * 2, none⟩ = some (.int .i64 (l.getD (k - 1) (0, 0)).1) ∧ W.cell? ⟨g, off + (k - 1) * 2 + 1, none⟩ = some (.int .i64 (l.getD (k - 1) (0, 0)).2)) := Lib.hid fun h0 W hW => by
        obtain ⟨g', off', hA, p0, p1⟩ := (H.out.keep0 (keep0_trans _ _ _ HK.out hW)).at_ (i := k - 1) (by omega)
        injection hA with hA; injection hA with r1 r2; subst r1 r2; exact ⟨p0, p1⟩
      generalize l.getD (k - 1) (0, 0) = p at *
      generalize l.getD k (0, 0) = x at *
      obtain ⟨a, i⟩ := x
      obtain ⟨pa, pi⟩ := p
      simp only at q0 q1 HO HPR
      have hkJ0 : (0 : Int) ≤ (k : Int) := by omega
      have hkI0 : (k : Int) < (n : Int) := by omega
      have e2 : IntKind.i64.wrap (k : Int) = (k : Int) := IntWalk.i64_in _ (by omega)
      by_cases h0 : 0 < k
      · have HP := Lib.hid (HPR.out h0)
        have hkI : (0 : Int) < (k : Int) := by omega
        have hk1 : (1 : Int) ≤ (k : Int) := by omega
        have hkJ : (0 : Int) ≤ (k : Int) - 1 := by omega
        have hkK : (k : Int) - 1 < (n : Int) := by omega
        have hkT : ((k : Int) - 1).toNat = k - 1 := by omega
        have hkW : IntKind.i64.wrap ((k : Int) - 1) = (k : Int) - 1 := IntWalk.i64_in _ (by omega)
        have hkD : decide ((0 : Int) < (k : Int)) = true := decide_eq_true hkI
        rcases Bool.eq_false_or_eq_true (ltID (pa, pi) (a, i)) with hp | hp
        · have HLT := Lib.hid hp
          have HE := Lib.hid (show okRi l k = true by rw [HO.out, hp]; simp)
          clear hp
          go_wp2_with fail
          refine wp_region_krip (Keep (fun _ => False)) (Keep.refl _) keep0_trans 15 (by kernel_rfl) (by kernel_rfl) (Ts := [none, none, none, none, none, none, none, some (.inl (idV (pa, pi))), none, none, none, some (.inl (idV (a, i))), some (.inl (.bool true)), none, none]) ?_
          simp only [List.take, List.drop]
          refine kAll_p (fun K hK => ?_)
          go_simp
          generalize hZ : (Act.mk _ _) = Z
          refine hK Z ?_
          subst hZ
          clear hK K
          refine kAll_p (fun K hK => ?_)
          go_simp
          generalize hZ : (Act.mk _ _) = Z
          refine hK Z ?_
          subst hZ
          clear hK K
          refine kAll_p (fun K hK => ?_)
          go_simp
          generalize hZ : (Act.mk _ _) = Z
          refine hK Z ?_
          subst hZ
          clear hK K
          refine kAll_pw (by kernel_rfl) (fun K hK => ?_)
          go_simp
          generalize hZ : (Act.mk _ _) = Z
          refine hK Z ?_
          subst hZ
          clear hK K
          refine kAll_pw (by kernel_rfl) (fun K hK => ?_)
          go_simp
          generalize hZ : (Act.mk _ _) = Z
          refine hK Z ?_
          subst hZ
          clear hK K
          refine kAll_pw (by kernel_rfl) (fun K hK => ?_)
          go_simp
          generalize hZ : (Act.mk _ _) = Z
          refine hK Z ?_
          subst hZ
          clear hK K
          refine kAll_pw (by kernel_rfl) (fun K hK => ?_)
          go_simp
          generalize hZ : (Act.mk _ _) = Z
          refine hK Z ?_
          subst hZ
          clear hK K
          refine kAll_dn _ (fun W hW hF => kStep_w (by kernel_rfl) fun K Q hK => ?_) (fun K hK => ?_)
          · have hp := HP.out W (keepD (Keep.refl _ _) hW)
            have hp0 := hp.1
            have hp1 := hp.2
            clear hp
            go_simp
            exact hK _ _ (Keep.refl _ _) rfl
          go_simp
          generalize hZ : (Act.mk _ _) = Z
          refine hK Z ?_
          subst hZ
          clear hK K
          refine kAll_pw (by kernel_rfl) (fun K hK => ?_)
          go_simp
          generalize hZ : (Act.mk _ _) = Z
          refine hK Z ?_
          subst hZ
          clear hK K
          refine kAll_pw (by kernel_rfl) (fun K hK => ?_)
          go_simp
          generalize hZ : (Act.mk _ _) = Z
          refine hK Z ?_
          subst hZ
          clear hK K
          refine kAll_pw (by kernel_rfl) (fun K hK => ?_)
          go_simp
          generalize hZ : (Act.mk _ _) = Z
          refine hK Z ?_
          subst hZ
          clear hK K
          refine kAll_dn _ (fun W hW hF => kStep_w (by kernel_rfl) fun K Q hK => ?_) (fun K hK => ?_)
          · have hq0 := (keepD (Keep.refl _ _) hW).cell q0 (fun h => h)
            have hq1 := (keepD (Keep.refl _ _) hW).cell q1 (fun h => h)
            go_simp
            exact hK _ _ (Keep.refl _ _) rfl
          go_simp
          generalize hZ : (Act.mk _ _) = Z
          refine hK Z ?_
          subst hZ
          clear hK K
          refine kAll_dn _ (fun W hW hF => kStep_w (by kernel_rfl) fun K Q hK => ?_) (fun K hK => ?_)
          · go_simp
            refine (ltID_any (pa, pi) (a, i) W).mono ?_
            rintro e w' ⟨rfl, hk⟩
            rw [HLT.out]
            exact hK _ _ hk rfl
          go_simp
          generalize hZ : (Act.mk _ _) = Z
          refine hK Z ?_
          subst hZ
          clear hK K
          refine kAll_pw (by kernel_rfl) (fun K hK => ?_)
          go_simp
          generalize hZ : (Act.mk _ _) = Z
          refine hK Z ?_
          subst hZ
          clear hK K
          refine kAll_p (fun K hK => ?_)
          go_simp
          generalize hZ : (Act.mk _ _) = Z
          refine hK Z ?_
          subst hZ
          clear hK K
          refine kAll_nil (fun W hW hF => ?_)
          clear hF
          have HW := Lib.hid (keepD (Keep.refl _ _) hW)
          clear hW
          go_wp2
          go_roundw
          case rel => exact ⟨k + 1, by omega, by go_num, Lib.hid (allT_snoc HA.out HE.out), Lib.hid (keep0_trans _ _ _ HK.out HW.out)⟩
          case measure => simp [intOf]; omega
        · have HLT := Lib.hid hp
          have HB := Lib.hid (HFL.out (by rw [HO.out, hp, decide_eq_false (show ¬ k = 0 by omega)]; rfl))
          clear hp
          go_wp2_with fail
          refine wp_region_krip (Keep (fun _ => False)) (Keep.refl _) keep0_trans 15 (by kernel_rfl) (by kernel_rfl) (Ts := [none, none, none, none, none, none, none, some (.inl (idV (pa, pi))), none, none, none, some (.inl (idV (a, i))), some (.inl (.bool false)), none, none]) ?_
          simp only [List.take, List.drop]
          refine kAll_p (fun K hK => ?_)
          go_simp
          generalize hZ : (Act.mk _ _) = Z
          refine hK Z ?_
          subst hZ
          clear hK K
          refine kAll_p (fun K hK => ?_)
          go_simp
          generalize hZ : (Act.mk _ _) = Z
          refine hK Z ?_
          subst hZ
          clear hK K
          refine kAll_p (fun K hK => ?_)
          go_simp
          generalize hZ : (Act.mk _ _) = Z
          refine hK Z ?_
          subst hZ
          clear hK K
          refine kAll_pw (by kernel_rfl) (fun K hK => ?_)
          go_simp
          generalize hZ : (Act.mk _ _) = Z
          refine hK Z ?_
          subst hZ
          clear hK K
          refine kAll_pw (by kernel_rfl) (fun K hK => ?_)
          go_simp
          generalize hZ : (Act.mk _ _) = Z
          refine hK Z ?_
          subst hZ
          clear hK K
          refine kAll_pw (by kernel_rfl) (fun K hK => ?_)
          go_simp
          generalize hZ : (Act.mk _ _) = Z
          refine hK Z ?_
          subst hZ
          clear hK K
          refine kAll_pw (by kernel_rfl) (fun K hK => ?_)
          go_simp
          generalize hZ : (Act.mk _ _) = Z
          refine hK Z ?_
          subst hZ
          clear hK K
          refine kAll_dn _ (fun W hW hF => kStep_w (by kernel_rfl) fun K Q hK => ?_) (fun K hK => ?_)
          · have hp := HP.out W (keepD (Keep.refl _ _) hW)
            have hp0 := hp.1
            have hp1 := hp.2
            clear hp
            go_simp
            exact hK _ _ (Keep.refl _ _) rfl
          go_simp
          generalize hZ : (Act.mk _ _) = Z
          refine hK Z ?_
          subst hZ
          clear hK K
          refine kAll_pw (by kernel_rfl) (fun K hK => ?_)
          go_simp
          generalize hZ : (Act.mk _ _) = Z
          refine hK Z ?_
          subst hZ
          clear hK K
          refine kAll_pw (by kernel_rfl) (fun K hK => ?_)
          go_simp
          generalize hZ : (Act.mk _ _) = Z
          refine hK Z ?_
          subst hZ
          clear hK K
          refine kAll_pw (by kernel_rfl) (fun K hK => ?_)
          go_simp
          generalize hZ : (Act.mk _ _) = Z
          refine hK Z ?_
          subst hZ
          clear hK K
          refine kAll_dn _ (fun W hW hF => kStep_w (by kernel_rfl) fun K Q hK => ?_) (fun K hK => ?_)
          · have hq0 := (keepD (Keep.refl _ _) hW).cell q0 (fun h => h)
            have hq1 := (keepD (Keep.refl _ _) hW).cell q1 (fun h => h)
            go_simp
            exact hK _ _ (Keep.refl _ _) rfl
          go_simp
          generalize hZ : (Act.mk _ _) = Z
          refine hK Z ?_
          subst hZ
          clear hK K
          refine kAll_dn _ (fun W hW hF => kStep_w (by kernel_rfl) fun K Q hK => ?_) (fun K hK => ?_)
          · go_simp
            refine (ltID_any (pa, pi) (a, i) W).mono ?_
            rintro e w' ⟨rfl, hk⟩
            rw [HLT.out]
            exact hK _ _ hk rfl
          go_simp
          generalize hZ : (Act.mk _ _) = Z
          refine hK Z ?_
          subst hZ
          clear hK K
          refine kAll_pw (by kernel_rfl) (fun K hK => ?_)
          go_simp
          generalize hZ : (Act.mk _ _) = Z
          refine hK Z ?_
          subst hZ
          clear hK K
          refine kAll_p (fun K hK => ?_)
          go_simp
          generalize hZ : (Act.mk _ _) = Z
          refine hK Z ?_
          subst hZ
          clear hK K
          refine kAll_nil (fun W hW hF => ?_)
          clear hF
          have HW := Lib.hid (keepD (Keep.refl _ _) hW)
          clear hW
          go_wp2
          go_ret
          exact ⟨ret_bool HB.out.symm, keep0_trans _ _ _ HK.out HW.out⟩
      · have HE := Lib.hid (show okRi l k = true by rw [HO.out, decide_eq_true (show k = 0 by omega)]; rfl)
        obtain rfl : k = 0 := by omega
        simp only [Nat.zero_mul, Nat.add_zero] at q0 q1
        go_wp2_with fail
        refine wp_region_krip (Keep (fun _ => False)) (Keep.refl _) keep0_trans 15 (by kernel_rfl) (by kernel_rfl) (Ts := [none, none, none, none, none, none, none, none, none, none, none, none, none, none, none]) ?_
        simp only [List.take, List.drop]
        refine kAll_p (fun K hK => ?_)
        go_simp
        generalize hZ : (Act.mk _ _) = Z
        refine hK Z ?_
        subst hZ
        clear hK K
        refine kAll_p (fun K hK => ?_)
        go_simp
        generalize hZ : (Act.mk _ _) = Z
        refine hK Z ?_
        subst hZ
        clear hK K
        refine kAll_p (fun K hK => ?_)
        go_simp
        generalize hZ : (Act.mk _ _) = Z
        refine hK Z ?_
        subst hZ
        clear hK K
        refine kAll_skip (by kernel_rfl) ?_
        refine kAll_skip (by kernel_rfl) ?_
        refine kAll_skip (by kernel_rfl) ?_
        refine kAll_skip (by kernel_rfl) ?_
        refine kAll_skip (by kernel_rfl) ?_
        refine kAll_skip (by kernel_rfl) ?_
        refine kAll_skip (by kernel_rfl) ?_
        refine kAll_skip (by kernel_rfl) ?_
        refine kAll_skip (by kernel_rfl) ?_
        refine kAll_skip (by kernel_rfl) ?_
        refine kAll_skip (by kernel_rfl) ?_
        refine kAll_p (fun K hK => ?_)
        go_simp
        generalize hZ : (Act.mk _ _) = Z
        refine hK Z ?_
        subst hZ
        clear hK K
        refine kAll_nil (fun W hW hF => ?_)
        clear hF
        have HW := Lib.hid (keepD (Keep.refl _ _) hW)
        clear hW
        go_wp2
        go_roundw
        case rel => exact ⟨1, by omega, by go_num, Lib.hid (allT_snoc HA.out HE.out), Lib.hid (keep0_trans _ _ _ HK.out HW.out)⟩
        case measure => simp [intOf]; omega
    · obtain rfl : n = k := by omega
      have HB := Lib.hid (show risB l = true from allB_yes (f := okRi l) (by rw [HL.out]; exact HA.out))
      go_wp2
      go_ret
      exact ⟨ret_bool HB.out.symm, HK.out⟩
set_option maxHeartbeats 1000000 in
theorem rmay1_any (x : ID) (w : World) : Calls Tryz.prog 61 #[idV x] w (Tell (.bool (!mayID x)) w) := by
  obtain ⟨a, i⟩ := x
  have HK := Lib.hid ((Keep.refl (fun _ => False) w).alloc (.cells #[.int .i64 a, .int .i64 i] 24))
  go_enter Tryz.func61, Tryz.ntmps61
  go_wp2_with fail
  refine (may_any (a, i) _).mono ?_
  rintro e w1 ⟨rfl, hk⟩
  have HK2 := Lib.hid (keep0_trans _ _ _ HK.out hk)
  clear hk
  go_wp2
  go_ret
  exact ⟨rfl, HK2.out⟩
theorem eg_rmay1 : ∀ args w, (callFunc 61 args).run Tryz.prog w = .ok (.enter 61 args) w := enters_of Tryz.func61 (by kernel_rfl) rfl
theorem any_not_all {l : List ID} (h : l.any (fun x => !mayID x) = true) : l.all mayID = false := by
  rw [Bool.eq_false_iff]; intro h2
  obtain ⟨x, hx, h3⟩ := List.any_eq_true.1 h
  rw [List.all_eq_true.1 h2 x hx] at h3; cases h3
theorem any_not_no {l : List ID} (h : l.any (fun x => !mayID x) = false) : l.all mayID = true := by
  rw [List.any_eq_false] at h
  exact List.all_eq_true.2 fun x hx => by simpa using h x hx
def okRow (l : List RowM) (i : Nat) : Bool :=
  mayID (l.getD i row0).of && decide (1 ≤ (l.getD i row0).ver ∧ (l.getD i row0).ver ≤ 1099511627776) && risB (l.getD i row0).no && !decide ((l.getD i row0).of ∈ (l.getD i row0).no) && (decide (i = 0) || ltID (l.getD (i - 1) row0).of (l.getD i row0).of) && (l.getD i row0).no.all mayID
def mayR (l : List RowM) : Bool := (List.range l.length).all (okRow l) && decide (l.length ≤ 64)
theorem RdRow.prev {w : World} {g off n : Nat} {l : List RowM} (h : RdRow w (some ⟨g, off, none⟩) n l) {k : Nat} (hk : k < n) (h0 : 0 < k) :
    w.cell? ⟨g, off + (k - 1) * 4, none⟩ = some (.int .i64 (l.getD (k - 1) row0).of.1) ∧ w.cell? ⟨g, off + (k - 1) * 4 + 1, none⟩ = some (.int .i64 (l.getD (k - 1) row0).of.2) := by
  obtain ⟨g', off', v, hA, p0, p1, _⟩ := h.2 (k - 1) (by omega)
  injection hA with hA; injection hA with r1 r2; subst r1 r2; exact ⟨p0, p1⟩
set_option maxHeartbeats 8000000 in
theorem rowsMay_any (A : Option Addr) (n c : Nat) (l : List RowM) (w : World) (h : RdRow w A n l) (hn : n ≤ 10000) (hno : ∀ r ∈ l, r.no.length ≤ 10000) :
    Calls Tryz.prog 34 #[.slice A n c] w (Tell (.bool (mayR l)) w) := by
  have HL := Lib.hid h.1
  have H := Lib.hid h
  have HNo := Lib.hid hno
  clear h hno
  go_enter Tryz.func34, Tryz.ntmps34
  go_wp2_with fail
  go_loopw [7] (fun i wr => ∃ k : Nat, k ≤ n ∧ i = .int .i64 (k : Int) ∧ Hid (∀ j, j < k → okRow l j = true) ∧ Hid (Keep (fun _ => False) w wr)) (fun i _ => n - (intOf i).toNat)
  case atStart => exact ⟨0, Nat.zero_le _, rfl, Lib.hid (by intro j hj; omega), Lib.hid (Keep.refl _ _)⟩
  case round =>
    obtain ⟨k, hk, rfl, HA, HK⟩ := hrel
    by_cases hlt : k < n
    · obtain ⟨g, off, v0, rfl, q0, q1, q2, q3, ⟨An, nn, cn, rfl, hn0⟩⟩ := (H.out.keep0 HK.out).2 k hlt
      have HN := Lib.hid hn0
      have HNB := Lib.hid (show nn ≤ 10000 by rw [← hn0.1]; exact HNo.out _ (by simp [List.getD, show k < l.length by rw [HL.out]; exact hlt]))
      have HFL := Lib.hid (fun h => show mayR l = false by unfold mayR; rw [allB_no (f := okRow l) (k := k) (by rw [HL.out]; exact hlt) h]; rfl)
      have HO := Lib.hid (show okRow l k = (mayID (l.getD k row0).of && decide (1 ≤ (l.getD k row0).ver ∧ (l.getD k row0).ver ≤ 1099511627776) && risB (l.getD k row0).no && !decide ((l.getD k row0).of ∈ (l.getD k row0).no) && (decide (k = 0) || ltID (l.getD (k - 1) row0).of (l.getD k row0).of) && (l.getD k row0).no.all mayID) from rfl)
      have HPR : Hid (0 < k → ∀ W, Keep (fun _ => False) wr W → W.cell? ⟨g, off + (k - 1) * 4, none⟩ = some (.int .i64 (l.getD (k - 1) row0).of.1) ∧ W.cell? ⟨g, off + (k - 1) * 4 + 1, none⟩ = some (.int .i64 (l.getD (k - 1) row0).of.2)) := Lib.hid fun h0 W hW => (H.out.keep0 (keep0_trans _ _ _ HK.out hW)).prev hlt h0
      clear hn0
      generalize (l.getD (k - 1) row0).of = p at *
      generalize l.getD k row0 = x at *
      obtain ⟨⟨a, i⟩, v, no⟩ := x
      obtain ⟨pa, pi⟩ := p
      simp only at q0 q1 q2 q3 HO HPR HN
      have KX := Lib.hid ((Keep.refl (fun _ => False) wr).alloc (.cells #[.int .i64 a, .int .i64 i, .int .i64 v, .slice An nn cn] 37))
      have BX := Lib.hid (Blk.new wr 37 #[.int .i64 a, .int .i64 i, .int .i64 v, .slice An nn cn])
      have hkJ0 : (0 : Int) ≤ (k : Int) := by omega
      have hkI0 : (k : Int) < (n : Int) := by omega
      have e2 : IntKind.i64.wrap (k : Int) = (k : Int) := IntWalk.i64_in _ (by omega)
      rcases Bool.eq_false_or_eq_true (mayID (a, i)) with hM | hM
      · have HM := Lib.hid hM
        rw [hM] at HO
        clear hM
        by_cases h1 : v < 1
        · have hs1 : decide (v < 1) = true := decide_eq_true h1
          have HB := Lib.hid (HFL.out (by rw [HO.out, decide_eq_false (show ¬ (1 ≤ v ∧ v ≤ 1099511627776) by omega)]; simp))
          go_wp2_with fail
          refine wp_region_krip (Keep (fun _ => False)) (Keep.refl _) keep0_trans 43 (by kernel_rfl) (by kernel_rfl) (Ts := [none, some (.inl (idV (a, i))), some (.inl (.bool true)), none, none, none, some (.inl (.int .i64 v)), none, none, none, none, none, none, none, none, none, none, none, none, none, none, none, none, none, none, none, none, none, none, none, none, none, none, none, none, none, none, none, none, none, none, none, none]) ?_
          simp only [List.take, List.drop]
          refine kAll_p (fun K hK => ?_)
          go_simp
          generalize hZ : (Act.mk _ _) = Z
          refine hK Z ?_
          subst hZ
          clear hK K
          refine kAll_dn _ (fun W hW hF => kStep_of fun K Q hK => ?_) (fun K hK => ?_)
          · have c0 := (BX.out.drew.keep hW (fun h => h)).cell 0
            have c1 := (BX.out.drew.keep hW (fun h => h)).cell 1
            simp at c0 c1
            go_simp
            exact hK _ _ (Keep.refl _ _) rfl
          go_simp
          generalize hZ : (Act.mk _ _) = Z
          refine hK Z ?_
          subst hZ
          clear hK K
          refine kAll_dn _ (fun W hW hF => kStep_of fun K Q hK => ?_) (fun K hK => ?_)
          · go_simp
            refine (may_any (a, i) W).mono ?_
            rintro e w' ⟨rfl, hk⟩
            rw [HM.out]
            exact hK _ _ hk rfl
          go_simp
          generalize hZ : (Act.mk _ _) = Z
          refine hK Z ?_
          subst hZ
          clear hK K
          refine kAll_p (fun K hK => ?_)
          go_simp
          generalize hZ : (Act.mk _ _) = Z
          refine hK Z ?_
          subst hZ
          clear hK K
          refine kAll_p (fun K hK => ?_)
          go_simp
          generalize hZ : (Act.mk _ _) = Z
          refine hK Z ?_
          subst hZ
          clear hK K
          refine kAll_pw (by kernel_rfl) (fun K hK => ?_)
          go_simp
          generalize hZ : (Act.mk _ _) = Z
          refine hK Z ?_
          subst hZ
          clear hK K
          refine kAll_dn _ (fun W hW hF => kStep_w (by kernel_rfl) fun K Q hK => ?_) (fun K hK => ?_)
          · have c2 := (BX.out.drew.keep hW (fun h => h)).cell 2
            simp at c2
            go_simp
            exact hK _ _ (Keep.refl _ _) rfl
          go_simp
          generalize hZ : (Act.mk _ _) = Z
          refine hK Z ?_
          subst hZ
          clear hK K
          refine kAll_pw (by kernel_rfl) (fun K hK => ?_)
          go_simp
          generalize hZ : (Act.mk _ _) = Z
          refine hK Z ?_
          subst hZ
          clear hK K
          refine kAll_p (fun K hK => ?_)
          go_simp
          generalize hZ : (Act.mk _ _) = Z
          refine hK Z ?_
          subst hZ
          clear hK K
          refine kAll_p (fun K hK => ?_)
          go_simp
          generalize hZ : (Act.mk _ _) = Z
          refine hK Z ?_
          subst hZ
          clear hK K
          refine kAll_skip (by kernel_rfl) ?_
          refine kAll_skip (by kernel_rfl) ?_
          refine kAll_skip (by kernel_rfl) ?_
          refine kAll_p (fun K hK => ?_)
          go_simp
          generalize hZ : (Act.mk _ _) = Z
          refine hK Z ?_
          subst hZ
          clear hK K
          refine kAll_p (fun K hK => ?_)
          go_simp
          generalize hZ : (Act.mk _ _) = Z
          refine hK Z ?_
          subst hZ
          clear hK K
          refine kAll_skip (by kernel_rfl) ?_
          refine kAll_skip (by kernel_rfl) ?_
          refine kAll_skip (by kernel_rfl) ?_
          refine kAll_skip (by kernel_rfl) ?_
          refine kAll_p (fun K hK => ?_)
          go_simp
          generalize hZ : (Act.mk _ _) = Z
          refine hK Z ?_
          subst hZ
          clear hK K
          refine kAll_p (fun K hK => ?_)
          go_simp
          generalize hZ : (Act.mk _ _) = Z
          refine hK Z ?_
          subst hZ
          clear hK K
          refine kAll_skip (by kernel_rfl) ?_
          refine kAll_skip (by kernel_rfl) ?_
          refine kAll_skip (by kernel_rfl) ?_
          refine kAll_skip (by kernel_rfl) ?_
          refine kAll_skip (by kernel_rfl) ?_
          refine kAll_p (fun K hK => ?_)
          go_simp
          generalize hZ : (Act.mk _ _) = Z
          refine hK Z ?_
          subst hZ
          clear hK K
          refine kAll_p (fun K hK => ?_)
          go_simp
          generalize hZ : (Act.mk _ _) = Z
          refine hK Z ?_
          subst hZ
          clear hK K
          refine kAll_skip (by kernel_rfl) ?_
          refine kAll_skip (by kernel_rfl) ?_
          refine kAll_skip (by kernel_rfl) ?_
          refine kAll_skip (by kernel_rfl) ?_
          refine kAll_skip (by kernel_rfl) ?_
          refine kAll_skip (by kernel_rfl) ?_
          refine kAll_skip (by kernel_rfl) ?_
          refine kAll_skip (by kernel_rfl) ?_
          refine kAll_skip (by kernel_rfl) ?_
          refine kAll_skip (by kernel_rfl) ?_
          refine kAll_skip (by kernel_rfl) ?_
          refine kAll_skip (by kernel_rfl) ?_
          refine kAll_skip (by kernel_rfl) ?_
          refine kAll_skip (by kernel_rfl) ?_
          refine kAll_p (fun K hK => ?_)
          go_simp
          generalize hZ : (Act.mk _ _) = Z
          refine hK Z ?_
          subst hZ
          clear hK K
          refine kAll_nil (fun W hW hF => ?_)
          clear hF
          have HW := Lib.hid (keepD KX.out hW)
          have HBX := Lib.hid (BX.out.drew.keep hW (fun h => h))
          clear hW
          go_wp2
          go_ret
          exact ⟨ret_bool HB.out.symm, keep0_trans _ _ _ HK.out HW.out⟩
        · have hs1 : decide (v < 1) = false := decide_eq_false h1
          by_cases h6 : 1099511627776 < v
          · have hs6 : decide (1099511627776 < v) = true := decide_eq_true h6
            have HB := Lib.hid (HFL.out (by rw [HO.out, decide_eq_false (show ¬ (1 ≤ v ∧ v ≤ 1099511627776) by omega)]; simp))
            go_wp2_with fail
            refine wp_region_krip (Keep (fun _ => False)) (Keep.refl _) keep0_trans 43 (by kernel_rfl) (by kernel_rfl) (Ts := [none, some (.inl (idV (a, i))), some (.inl (.bool true)), none, none, none, some (.inl (.int .i64 v)), none, none, none, none, some (.inl (.int .i64 v)), none, none, none, none, none, none, none, none, none, none, none, none, none, none, none, none, none, none, none, none, none, none, none, none, none, none, none, none, none, none, none]) ?_
            simp only [List.take, List.drop]
            refine kAll_p (fun K hK => ?_)
            go_simp
            generalize hZ : (Act.mk _ _) = Z
            refine hK Z ?_
            subst hZ
            clear hK K
            refine kAll_dn _ (fun W hW hF => kStep_of fun K Q hK => ?_) (fun K hK => ?_)
            · have c0 := (BX.out.drew.keep hW (fun h => h)).cell 0
              have c1 := (BX.out.drew.keep hW (fun h => h)).cell 1
              simp at c0 c1
              go_simp
              exact hK _ _ (Keep.refl _ _) rfl
            go_simp
            generalize hZ : (Act.mk _ _) = Z
            refine hK Z ?_
            subst hZ
            clear hK K
            refine kAll_dn _ (fun W hW hF => kStep_of fun K Q hK => ?_) (fun K hK => ?_)
            · go_simp
              refine (may_any (a, i) W).mono ?_
              rintro e w' ⟨rfl, hk⟩
              rw [HM.out]
              exact hK _ _ hk rfl
            go_simp
            generalize hZ : (Act.mk _ _) = Z
            refine hK Z ?_
            subst hZ
            clear hK K
            refine kAll_p (fun K hK => ?_)
            go_simp
            generalize hZ : (Act.mk _ _) = Z
            refine hK Z ?_
            subst hZ
            clear hK K
            refine kAll_p (fun K hK => ?_)
            go_simp
            generalize hZ : (Act.mk _ _) = Z
            refine hK Z ?_
            subst hZ
            clear hK K
            refine kAll_pw (by kernel_rfl) (fun K hK => ?_)
            go_simp
            generalize hZ : (Act.mk _ _) = Z
            refine hK Z ?_
            subst hZ
            clear hK K
            refine kAll_dn _ (fun W hW hF => kStep_w (by kernel_rfl) fun K Q hK => ?_) (fun K hK => ?_)
            · have c2 := (BX.out.drew.keep hW (fun h => h)).cell 2
              simp at c2
              go_simp
              exact hK _ _ (Keep.refl _ _) rfl
            go_simp
            generalize hZ : (Act.mk _ _) = Z
            refine hK Z ?_
            subst hZ
            clear hK K
            refine kAll_pw (by kernel_rfl) (fun K hK => ?_)
            go_simp
            generalize hZ : (Act.mk _ _) = Z
            refine hK Z ?_
            subst hZ
            clear hK K
            refine kAll_p (fun K hK => ?_)
            go_simp
            generalize hZ : (Act.mk _ _) = Z
            refine hK Z ?_
            subst hZ
            clear hK K
            refine kAll_p (fun K hK => ?_)
            go_simp
            generalize hZ : (Act.mk _ _) = Z
            refine hK Z ?_
            subst hZ
            clear hK K
            refine kAll_pw (by kernel_rfl) (fun K hK => ?_)
            go_simp
            generalize hZ : (Act.mk _ _) = Z
            refine hK Z ?_
            subst hZ
            clear hK K
            refine kAll_dn _ (fun W hW hF => kStep_w (by kernel_rfl) fun K Q hK => ?_) (fun K hK => ?_)
            · have c2 := (BX.out.drew.keep hW (fun h => h)).cell 2
              simp at c2
              go_simp
              exact hK _ _ (Keep.refl _ _) rfl
            go_simp
            generalize hZ : (Act.mk _ _) = Z
            refine hK Z ?_
            subst hZ
            clear hK K
            refine kAll_pw (by kernel_rfl) (fun K hK => ?_)
            go_simp
            generalize hZ : (Act.mk _ _) = Z
            refine hK Z ?_
            subst hZ
            clear hK K
            refine kAll_p (fun K hK => ?_)
            go_simp
            generalize hZ : (Act.mk _ _) = Z
            refine hK Z ?_
            subst hZ
            clear hK K
            refine kAll_p (fun K hK => ?_)
            go_simp
            generalize hZ : (Act.mk _ _) = Z
            refine hK Z ?_
            subst hZ
            clear hK K
            refine kAll_skip (by kernel_rfl) ?_
            refine kAll_skip (by kernel_rfl) ?_
            refine kAll_skip (by kernel_rfl) ?_
            refine kAll_skip (by kernel_rfl) ?_
            refine kAll_p (fun K hK => ?_)
            go_simp
            generalize hZ : (Act.mk _ _) = Z
            refine hK Z ?_
            subst hZ
            clear hK K
            refine kAll_p (fun K hK => ?_)
            go_simp
            generalize hZ : (Act.mk _ _) = Z
            refine hK Z ?_
            subst hZ
            clear hK K
            refine kAll_skip (by kernel_rfl) ?_
            refine kAll_skip (by kernel_rfl) ?_
            refine kAll_skip (by kernel_rfl) ?_
            refine kAll_skip (by kernel_rfl) ?_
            refine kAll_skip (by kernel_rfl) ?_
            refine kAll_p (fun K hK => ?_)
            go_simp
            generalize hZ : (Act.mk _ _) = Z
            refine hK Z ?_
            subst hZ
            clear hK K
            refine kAll_p (fun K hK => ?_)
            go_simp
            generalize hZ : (Act.mk _ _) = Z
            refine hK Z ?_
            subst hZ
            clear hK K
            refine kAll_skip (by kernel_rfl) ?_
            refine kAll_skip (by kernel_rfl) ?_
            refine kAll_skip (by kernel_rfl) ?_
            refine kAll_skip (by kernel_rfl) ?_
            refine kAll_skip (by kernel_rfl) ?_
            refine kAll_skip (by kernel_rfl) ?_
            refine kAll_skip (by kernel_rfl) ?_
            refine kAll_skip (by kernel_rfl) ?_
            refine kAll_skip (by kernel_rfl) ?_
            refine kAll_skip (by kernel_rfl) ?_
            refine kAll_skip (by kernel_rfl) ?_
            refine kAll_skip (by kernel_rfl) ?_
            refine kAll_skip (by kernel_rfl) ?_
            refine kAll_skip (by kernel_rfl) ?_
            refine kAll_p (fun K hK => ?_)
            go_simp
            generalize hZ : (Act.mk _ _) = Z
            refine hK Z ?_
            subst hZ
            clear hK K
            refine kAll_nil (fun W hW hF => ?_)
            clear hF
            have HW := Lib.hid (keepD KX.out hW)
            have HBX := Lib.hid (BX.out.drew.keep hW (fun h => h))
            clear hW
            go_wp2
            go_ret
            exact ⟨ret_bool HB.out.symm, keep0_trans _ _ _ HK.out HW.out⟩
          · have hs6 : decide (1099511627776 < v) = false := decide_eq_false h6
            rw [decide_eq_true (show 1 ≤ v ∧ v ≤ 1099511627776 by omega)] at HO
            rcases Bool.eq_false_or_eq_true (risB no) with hR | hR
            · have HRi := Lib.hid hR
              rw [hR] at HO
              clear hR
              rcases Bool.eq_false_or_eq_true (decide ((a, i) ∈ no)) with hH | hH
              · have HH := Lib.hid hH
                have HB := Lib.hid (HFL.out (by rw [HO.out, hH]; simp))
                clear hH
                go_wp2_with fail
                refine wp_region_krip (Keep (fun _ => False)) (Keep.refl _) keep0_trans 43 (by kernel_rfl) (by kernel_rfl) (Ts := [none, some (.inl (idV (a, i))), some (.inl (.bool true)), none, none, none, some (.inl (.int .i64 v)), none, none, none, none, some (.inl (.int .i64 v)), none, none, none, none, some (.inl (.slice An nn cn)), some (.inl (.bool true)), none, none, none, none, some (.inl (.slice An nn cn)), none, some (.inl (idV (a, i))), some (.inl (.bool true)), none, none, none, none, none, none, none, none, none, none, none, none, none, none, none, none, none]) ?_
                simp only [List.take, List.drop]
                refine kAll_p (fun K hK => ?_)
                go_simp
                generalize hZ : (Act.mk _ _) = Z
                refine hK Z ?_
                subst hZ
                clear hK K
                refine kAll_dn _ (fun W hW hF => kStep_of fun K Q hK => ?_) (fun K hK => ?_)
                · have c0 := (BX.out.drew.keep hW (fun h => h)).cell 0
                  have c1 := (BX.out.drew.keep hW (fun h => h)).cell 1
                  simp at c0 c1
                  go_simp
                  exact hK _ _ (Keep.refl _ _) rfl
                go_simp
                generalize hZ : (Act.mk _ _) = Z
                refine hK Z ?_
                subst hZ
                clear hK K
                refine kAll_dn _ (fun W hW hF => kStep_of fun K Q hK => ?_) (fun K hK => ?_)
                · go_simp
                  refine (may_any (a, i) W).mono ?_
                  rintro e w' ⟨rfl, hk⟩
                  rw [HM.out]
                  exact hK _ _ hk rfl
                go_simp
                generalize hZ : (Act.mk _ _) = Z
                refine hK Z ?_
                subst hZ
                clear hK K
                refine kAll_p (fun K hK => ?_)
                go_simp
                generalize hZ : (Act.mk _ _) = Z
                refine hK Z ?_
                subst hZ
                clear hK K
                refine kAll_p (fun K hK => ?_)
                go_simp
                generalize hZ : (Act.mk _ _) = Z
                refine hK Z ?_
                subst hZ
                clear hK K
                refine kAll_pw (by kernel_rfl) (fun K hK => ?_)
                go_simp
                generalize hZ : (Act.mk _ _) = Z
                refine hK Z ?_
                subst hZ
                clear hK K
                refine kAll_dn _ (fun W hW hF => kStep_w (by kernel_rfl) fun K Q hK => ?_) (fun K hK => ?_)
                · have c2 := (BX.out.drew.keep hW (fun h => h)).cell 2
                  simp at c2
                  go_simp
                  exact hK _ _ (Keep.refl _ _) rfl
                go_simp
                generalize hZ : (Act.mk _ _) = Z
                refine hK Z ?_
                subst hZ
                clear hK K
                refine kAll_pw (by kernel_rfl) (fun K hK => ?_)
                go_simp
                generalize hZ : (Act.mk _ _) = Z
                refine hK Z ?_
                subst hZ
                clear hK K
                refine kAll_p (fun K hK => ?_)
                go_simp
                generalize hZ : (Act.mk _ _) = Z
                refine hK Z ?_
                subst hZ
                clear hK K
                refine kAll_p (fun K hK => ?_)
                go_simp
                generalize hZ : (Act.mk _ _) = Z
                refine hK Z ?_
                subst hZ
                clear hK K
                refine kAll_pw (by kernel_rfl) (fun K hK => ?_)
                go_simp
                generalize hZ : (Act.mk _ _) = Z
                refine hK Z ?_
                subst hZ
                clear hK K
                refine kAll_dn _ (fun W hW hF => kStep_w (by kernel_rfl) fun K Q hK => ?_) (fun K hK => ?_)
                · have c2 := (BX.out.drew.keep hW (fun h => h)).cell 2
                  simp at c2
                  go_simp
                  exact hK _ _ (Keep.refl _ _) rfl
                go_simp
                generalize hZ : (Act.mk _ _) = Z
                refine hK Z ?_
                subst hZ
                clear hK K
                refine kAll_pw (by kernel_rfl) (fun K hK => ?_)
                go_simp
                generalize hZ : (Act.mk _ _) = Z
                refine hK Z ?_
                subst hZ
                clear hK K
                refine kAll_p (fun K hK => ?_)
                go_simp
                generalize hZ : (Act.mk _ _) = Z
                refine hK Z ?_
                subst hZ
                clear hK K
                refine kAll_p (fun K hK => ?_)
                go_simp
                generalize hZ : (Act.mk _ _) = Z
                refine hK Z ?_
                subst hZ
                clear hK K
                refine kAll_pw (by kernel_rfl) (fun K hK => ?_)
                go_simp
                generalize hZ : (Act.mk _ _) = Z
                refine hK Z ?_
                subst hZ
                clear hK K
                refine kAll_dn _ (fun W hW hF => kStep_w (by kernel_rfl) fun K Q hK => ?_) (fun K hK => ?_)
                · have c3 := (BX.out.drew.keep hW (fun h => h)).cell 3
                  simp at c3
                  go_simp
                  exact hK _ _ (Keep.refl _ _) rfl
                go_simp
                generalize hZ : (Act.mk _ _) = Z
                refine hK Z ?_
                subst hZ
                clear hK K
                refine kAll_dn _ (fun W hW hF => kStep_w (by kernel_rfl) fun K Q hK => ?_) (fun K hK => ?_)
                · go_simp
                  refine (rising_any An nn cn no W (HN.out.keep0 (keepD KX.out hW)) (by have := HNB.out; omega)).mono ?_
                  rintro e w' ⟨rfl, hk⟩
                  rw [HRi.out]
                  exact hK _ _ hk rfl
                go_simp
                generalize hZ : (Act.mk _ _) = Z
                refine hK Z ?_
                subst hZ
                clear hK K
                refine kAll_pw (by kernel_rfl) (fun K hK => ?_)
                go_simp
                generalize hZ : (Act.mk _ _) = Z
                refine hK Z ?_
                subst hZ
                clear hK K
                refine kAll_p (fun K hK => ?_)
                go_simp
                generalize hZ : (Act.mk _ _) = Z
                refine hK Z ?_
                subst hZ
                clear hK K
                refine kAll_p (fun K hK => ?_)
                go_simp
                generalize hZ : (Act.mk _ _) = Z
                refine hK Z ?_
                subst hZ
                clear hK K
                refine kAll_pw (by kernel_rfl) (fun K hK => ?_)
                go_simp
                generalize hZ : (Act.mk _ _) = Z
                refine hK Z ?_
                subst hZ
                clear hK K
                refine kAll_dn _ (fun W hW hF => kStep_w (by kernel_rfl) fun K Q hK => ?_) (fun K hK => ?_)
                · have c3 := (BX.out.drew.keep hW (fun h => h)).cell 3
                  simp at c3
                  go_simp
                  exact hK _ _ (Keep.refl _ _) rfl
                go_simp
                generalize hZ : (Act.mk _ _) = Z
                refine hK Z ?_
                subst hZ
                clear hK K
                refine kAll_pw (by kernel_rfl) (fun K hK => ?_)
                go_simp
                generalize hZ : (Act.mk _ _) = Z
                refine hK Z ?_
                subst hZ
                clear hK K
                refine kAll_dn _ (fun W hW hF => kStep_w (by kernel_rfl) fun K Q hK => ?_) (fun K hK => ?_)
                · have c0 := (BX.out.drew.keep hW (fun h => h)).cell 0
                  have c1 := (BX.out.drew.keep hW (fun h => h)).cell 1
                  simp at c0 c1
                  go_simp
                  exact hK _ _ (Keep.refl _ _) rfl
                go_simp
                generalize hZ : (Act.mk _ _) = Z
                refine hK Z ?_
                subst hZ
                clear hK K
                refine kAll_dn _ (fun W hW hF => kStep_w (by kernel_rfl) fun K Q hK => ?_) (fun K hK => ?_)
                · go_simp
                  refine (has_any An nn cn no (a, i) W (HN.out.keep0 (keepD KX.out hW)) (by have := HNB.out; omega)).mono ?_
                  rintro e w' ⟨rfl, hk⟩
                  rw [HH.out]
                  exact hK _ _ hk rfl
                go_simp
                generalize hZ : (Act.mk _ _) = Z
                refine hK Z ?_
                subst hZ
                clear hK K
                refine kAll_p (fun K hK => ?_)
                go_simp
                generalize hZ : (Act.mk _ _) = Z
                refine hK Z ?_
                subst hZ
                clear hK K
                refine kAll_p (fun K hK => ?_)
                go_simp
                generalize hZ : (Act.mk _ _) = Z
                refine hK Z ?_
                subst hZ
                clear hK K
                refine kAll_skip (by kernel_rfl) ?_
                refine kAll_skip (by kernel_rfl) ?_
                refine kAll_skip (by kernel_rfl) ?_
                refine kAll_skip (by kernel_rfl) ?_
                refine kAll_skip (by kernel_rfl) ?_
                refine kAll_skip (by kernel_rfl) ?_
                refine kAll_skip (by kernel_rfl) ?_
                refine kAll_skip (by kernel_rfl) ?_
                refine kAll_skip (by kernel_rfl) ?_
                refine kAll_skip (by kernel_rfl) ?_
                refine kAll_skip (by kernel_rfl) ?_
                refine kAll_skip (by kernel_rfl) ?_
                refine kAll_skip (by kernel_rfl) ?_
                refine kAll_skip (by kernel_rfl) ?_
                refine kAll_p (fun K hK => ?_)
                go_simp
                generalize hZ : (Act.mk _ _) = Z
                refine hK Z ?_
                subst hZ
                clear hK K
                refine kAll_nil (fun W hW hF => ?_)
                clear hF
                have HW := Lib.hid (keepD KX.out hW)
                have HBX := Lib.hid (BX.out.drew.keep hW (fun h => h))
                clear hW
                go_wp2
                go_ret
                exact ⟨ret_bool HB.out.symm, keep0_trans _ _ _ HK.out HW.out⟩
              · have HH := Lib.hid hH
                rw [hH] at HO
                clear hH
                by_cases h0 : 0 < k
                · have HP := Lib.hid (HPR.out h0)
                  have hkI : (0 : Int) < (k : Int) := by omega
                  have hk1 : (1 : Int) ≤ (k : Int) := by omega
                  have hkJ : (0 : Int) ≤ (k : Int) - 1 := by omega
                  have hkK : (k : Int) - 1 < (n : Int) := by omega
                  have hkT : ((k : Int) - 1).toNat = k - 1 := by omega
                  have hkW : IntKind.i64.wrap ((k : Int) - 1) = (k : Int) - 1 := IntWalk.i64_in _ (by omega)
                  have hkD : decide ((0 : Int) < (k : Int)) = true := decide_eq_true hkI
                  rw [decide_eq_false (show ¬ k = 0 by omega)] at HO
                  rcases Bool.eq_false_or_eq_true (ltID (pa, pi) (a, i)) with hp | hp
                  · have HLT := Lib.hid hp
                    rw [hp] at HO
                    clear hp
                    go_wp2_with fail
                    refine wp_region_krip (Keep (fun _ => False)) (Keep.refl _) keep0_trans 43 (by kernel_rfl) (by kernel_rfl) (Ts := [none, some (.inl (idV (a, i))), some (.inl (.bool true)), none, none, none, some (.inl (.int .i64 v)), none, none, none, none, some (.inl (.int .i64 v)), none, none, none, none, some (.inl (.slice An nn cn)), some (.inl (.bool true)), none, none, none, none, some (.inl (.slice An nn cn)), none, some (.inl (idV (a, i))), some (.inl (.bool false)), none, none, none, none, none, none, none, none, none, none, some (.inl (idV (pa, pi))), none, some (.inl (idV (a, i))), some (.inl (.bool true)), none, none, none]) ?_
                    simp only [List.take, List.drop]
                    refine kAll_p (fun K hK => ?_)
                    go_simp
                    generalize hZ : (Act.mk _ _) = Z
                    refine hK Z ?_
                    subst hZ
                    clear hK K
                    refine kAll_dn _ (fun W hW hF => kStep_of fun K Q hK => ?_) (fun K hK => ?_)
                    · have c0 := (BX.out.drew.keep hW (fun h => h)).cell 0
                      have c1 := (BX.out.drew.keep hW (fun h => h)).cell 1
                      simp at c0 c1
                      go_simp
                      exact hK _ _ (Keep.refl _ _) rfl
                    go_simp
                    generalize hZ : (Act.mk _ _) = Z
                    refine hK Z ?_
                    subst hZ
                    clear hK K
                    refine kAll_dn _ (fun W hW hF => kStep_of fun K Q hK => ?_) (fun K hK => ?_)
                    · go_simp
                      refine (may_any (a, i) W).mono ?_
                      rintro e w' ⟨rfl, hk⟩
                      rw [HM.out]
                      exact hK _ _ hk rfl
                    go_simp
                    generalize hZ : (Act.mk _ _) = Z
                    refine hK Z ?_
                    subst hZ
                    clear hK K
                    refine kAll_p (fun K hK => ?_)
                    go_simp
                    generalize hZ : (Act.mk _ _) = Z
                    refine hK Z ?_
                    subst hZ
                    clear hK K
                    refine kAll_p (fun K hK => ?_)
                    go_simp
                    generalize hZ : (Act.mk _ _) = Z
                    refine hK Z ?_
                    subst hZ
                    clear hK K
                    refine kAll_pw (by kernel_rfl) (fun K hK => ?_)
                    go_simp
                    generalize hZ : (Act.mk _ _) = Z
                    refine hK Z ?_
                    subst hZ
                    clear hK K
                    refine kAll_dn _ (fun W hW hF => kStep_w (by kernel_rfl) fun K Q hK => ?_) (fun K hK => ?_)
                    · have c2 := (BX.out.drew.keep hW (fun h => h)).cell 2
                      simp at c2
                      go_simp
                      exact hK _ _ (Keep.refl _ _) rfl
                    go_simp
                    generalize hZ : (Act.mk _ _) = Z
                    refine hK Z ?_
                    subst hZ
                    clear hK K
                    refine kAll_pw (by kernel_rfl) (fun K hK => ?_)
                    go_simp
                    generalize hZ : (Act.mk _ _) = Z
                    refine hK Z ?_
                    subst hZ
                    clear hK K
                    refine kAll_p (fun K hK => ?_)
                    go_simp
                    generalize hZ : (Act.mk _ _) = Z
                    refine hK Z ?_
                    subst hZ
                    clear hK K
                    refine kAll_p (fun K hK => ?_)
                    go_simp
                    generalize hZ : (Act.mk _ _) = Z
                    refine hK Z ?_
                    subst hZ
                    clear hK K
                    refine kAll_pw (by kernel_rfl) (fun K hK => ?_)
                    go_simp
                    generalize hZ : (Act.mk _ _) = Z
                    refine hK Z ?_
                    subst hZ
                    clear hK K
                    refine kAll_dn _ (fun W hW hF => kStep_w (by kernel_rfl) fun K Q hK => ?_) (fun K hK => ?_)
                    · have c2 := (BX.out.drew.keep hW (fun h => h)).cell 2
                      simp at c2
                      go_simp
                      exact hK _ _ (Keep.refl _ _) rfl
                    go_simp
                    generalize hZ : (Act.mk _ _) = Z
                    refine hK Z ?_
                    subst hZ
                    clear hK K
                    refine kAll_pw (by kernel_rfl) (fun K hK => ?_)
                    go_simp
                    generalize hZ : (Act.mk _ _) = Z
                    refine hK Z ?_
                    subst hZ
                    clear hK K
                    refine kAll_p (fun K hK => ?_)
                    go_simp
                    generalize hZ : (Act.mk _ _) = Z
                    refine hK Z ?_
                    subst hZ
                    clear hK K
                    refine kAll_p (fun K hK => ?_)
                    go_simp
                    generalize hZ : (Act.mk _ _) = Z
                    refine hK Z ?_
                    subst hZ
                    clear hK K
                    refine kAll_pw (by kernel_rfl) (fun K hK => ?_)
                    go_simp
                    generalize hZ : (Act.mk _ _) = Z
                    refine hK Z ?_
                    subst hZ
                    clear hK K
                    refine kAll_dn _ (fun W hW hF => kStep_w (by kernel_rfl) fun K Q hK => ?_) (fun K hK => ?_)
                    · have c3 := (BX.out.drew.keep hW (fun h => h)).cell 3
                      simp at c3
                      go_simp
                      exact hK _ _ (Keep.refl _ _) rfl
                    go_simp
                    generalize hZ : (Act.mk _ _) = Z
                    refine hK Z ?_
                    subst hZ
                    clear hK K
                    refine kAll_dn _ (fun W hW hF => kStep_w (by kernel_rfl) fun K Q hK => ?_) (fun K hK => ?_)
                    · go_simp
                      refine (rising_any An nn cn no W (HN.out.keep0 (keepD KX.out hW)) (by have := HNB.out; omega)).mono ?_
                      rintro e w' ⟨rfl, hk⟩
                      rw [HRi.out]
                      exact hK _ _ hk rfl
                    go_simp
                    generalize hZ : (Act.mk _ _) = Z
                    refine hK Z ?_
                    subst hZ
                    clear hK K
                    refine kAll_pw (by kernel_rfl) (fun K hK => ?_)
                    go_simp
                    generalize hZ : (Act.mk _ _) = Z
                    refine hK Z ?_
                    subst hZ
                    clear hK K
                    refine kAll_p (fun K hK => ?_)
                    go_simp
                    generalize hZ : (Act.mk _ _) = Z
                    refine hK Z ?_
                    subst hZ
                    clear hK K
                    refine kAll_p (fun K hK => ?_)
                    go_simp
                    generalize hZ : (Act.mk _ _) = Z
                    refine hK Z ?_
                    subst hZ
                    clear hK K
                    refine kAll_pw (by kernel_rfl) (fun K hK => ?_)
                    go_simp
                    generalize hZ : (Act.mk _ _) = Z
                    refine hK Z ?_
                    subst hZ
                    clear hK K
                    refine kAll_dn _ (fun W hW hF => kStep_w (by kernel_rfl) fun K Q hK => ?_) (fun K hK => ?_)
                    · have c3 := (BX.out.drew.keep hW (fun h => h)).cell 3
                      simp at c3
                      go_simp
                      exact hK _ _ (Keep.refl _ _) rfl
                    go_simp
                    generalize hZ : (Act.mk _ _) = Z
                    refine hK Z ?_
                    subst hZ
                    clear hK K
                    refine kAll_pw (by kernel_rfl) (fun K hK => ?_)
                    go_simp
                    generalize hZ : (Act.mk _ _) = Z
                    refine hK Z ?_
                    subst hZ
                    clear hK K
                    refine kAll_dn _ (fun W hW hF => kStep_w (by kernel_rfl) fun K Q hK => ?_) (fun K hK => ?_)
                    · have c0 := (BX.out.drew.keep hW (fun h => h)).cell 0
                      have c1 := (BX.out.drew.keep hW (fun h => h)).cell 1
                      simp at c0 c1
                      go_simp
                      exact hK _ _ (Keep.refl _ _) rfl
                    go_simp
                    generalize hZ : (Act.mk _ _) = Z
                    refine hK Z ?_
                    subst hZ
                    clear hK K
                    refine kAll_dn _ (fun W hW hF => kStep_w (by kernel_rfl) fun K Q hK => ?_) (fun K hK => ?_)
                    · go_simp
                      refine (has_any An nn cn no (a, i) W (HN.out.keep0 (keepD KX.out hW)) (by have := HNB.out; omega)).mono ?_
                      rintro e w' ⟨rfl, hk⟩
                      rw [HH.out]
                      exact hK _ _ hk rfl
                    go_simp
                    generalize hZ : (Act.mk _ _) = Z
                    refine hK Z ?_
                    subst hZ
                    clear hK K
                    refine kAll_p (fun K hK => ?_)
                    go_simp
                    generalize hZ : (Act.mk _ _) = Z
                    refine hK Z ?_
                    subst hZ
                    clear hK K
                    refine kAll_p (fun K hK => ?_)
                    go_simp
                    generalize hZ : (Act.mk _ _) = Z
                    refine hK Z ?_
                    subst hZ
                    clear hK K
                    refine kAll_pw (by kernel_rfl) (fun K hK => ?_)
                    go_simp
                    generalize hZ : (Act.mk _ _) = Z
                    refine hK Z ?_
                    subst hZ
                    clear hK K
                    refine kAll_pw (by kernel_rfl) (fun K hK => ?_)
                    go_simp
                    generalize hZ : (Act.mk _ _) = Z
                    refine hK Z ?_
                    subst hZ
                    clear hK K
                    refine kAll_pw (by kernel_rfl) (fun K hK => ?_)
                    go_simp
                    generalize hZ : (Act.mk _ _) = Z
                    refine hK Z ?_
                    subst hZ
                    clear hK K
                    refine kAll_pw (by kernel_rfl) (fun K hK => ?_)
                    go_simp
                    generalize hZ : (Act.mk _ _) = Z
                    refine hK Z ?_
                    subst hZ
                    clear hK K
                    refine kAll_pw (by kernel_rfl) (fun K hK => ?_)
                    go_simp
                    generalize hZ : (Act.mk _ _) = Z
                    refine hK Z ?_
                    subst hZ
                    clear hK K
                    refine kAll_pw (by kernel_rfl) (fun K hK => ?_)
                    go_simp
                    generalize hZ : (Act.mk _ _) = Z
                    refine hK Z ?_
                    subst hZ
                    clear hK K
                    refine kAll_pw (by kernel_rfl) (fun K hK => ?_)
                    go_simp
                    generalize hZ : (Act.mk _ _) = Z
                    refine hK Z ?_
                    subst hZ
                    clear hK K
                    refine kAll_pw (by kernel_rfl) (fun K hK => ?_)
                    go_simp
                    generalize hZ : (Act.mk _ _) = Z
                    refine hK Z ?_
                    subst hZ
                    clear hK K
                    refine kAll_dn _ (fun W hW hF => kStep_w (by kernel_rfl) fun K Q hK => ?_) (fun K hK => ?_)
                    · have hp := HP.out W (keepD KX.out hW)
                      have hp0 := hp.1
                      have hp1 := hp.2
                      clear hp
                      go_simp
                      exact hK _ _ (Keep.refl _ _) rfl
                    go_simp
                    generalize hZ : (Act.mk _ _) = Z
                    refine hK Z ?_
                    subst hZ
                    clear hK K
                    refine kAll_pw (by kernel_rfl) (fun K hK => ?_)
                    go_simp
                    generalize hZ : (Act.mk _ _) = Z
                    refine hK Z ?_
                    subst hZ
                    clear hK K
                    refine kAll_dn _ (fun W hW hF => kStep_w (by kernel_rfl) fun K Q hK => ?_) (fun K hK => ?_)
                    · have c0 := (BX.out.drew.keep hW (fun h => h)).cell 0
                      have c1 := (BX.out.drew.keep hW (fun h => h)).cell 1
                      simp at c0 c1
                      go_simp
                      exact hK _ _ (Keep.refl _ _) rfl
                    go_simp
                    generalize hZ : (Act.mk _ _) = Z
                    refine hK Z ?_
                    subst hZ
                    clear hK K
                    refine kAll_dn _ (fun W hW hF => kStep_w (by kernel_rfl) fun K Q hK => ?_) (fun K hK => ?_)
                    · go_simp
                      refine (ltID_any (pa, pi) (a, i) W).mono ?_
                      rintro e w' ⟨rfl, hk⟩
                      rw [HLT.out]
                      exact hK _ _ hk rfl
                    go_simp
                    generalize hZ : (Act.mk _ _) = Z
                    refine hK Z ?_
                    subst hZ
                    clear hK K
                    refine kAll_pw (by kernel_rfl) (fun K hK => ?_)
                    go_simp
                    generalize hZ : (Act.mk _ _) = Z
                    refine hK Z ?_
                    subst hZ
                    clear hK K
                    refine kAll_pw (by kernel_rfl) (fun K hK => ?_)
                    go_simp
                    generalize hZ : (Act.mk _ _) = Z
                    refine hK Z ?_
                    subst hZ
                    clear hK K
                    refine kAll_p (fun K hK => ?_)
                    go_simp
                    generalize hZ : (Act.mk _ _) = Z
                    refine hK Z ?_
                    subst hZ
                    clear hK K
                    refine kAll_nil (fun W hW hF => ?_)
                    clear hF
                    have HW := Lib.hid (keepD KX.out hW)
                    have HBX := Lib.hid (BX.out.drew.keep hW (fun h => h))
                    clear hW
                    have d3 := HBX.out.cell 3
                    simp at d3
                    go_wp2_with fail
                    refine (containsF_any 61 #[] (fun x => !mayID x) An nn cn no _ ⟨eg_rmay1, fun x W _ => rmay1_any x W⟩ (HN.out.keep0 HW.out) (by have := HNB.out; omega)).mono ?_
                    rintro e W2 ⟨rfl, hk2⟩
                    have HW2 := Lib.hid (keep0_trans _ _ _ HK.out (keep0_trans _ _ _ HW.out hk2))
                    clear hk2 d3
                    rcases Bool.eq_false_or_eq_true (no.any (fun x => !mayID x)) with hA | hA
                    · rw [hA]
                      have HB := Lib.hid (HFL.out (by rw [HO.out, any_not_all hA]; simp))
                      clear hA
                      go_wp2
                      go_ret
                      exact ⟨ret_bool HB.out.symm, HW2.out⟩
                    · rw [hA]
                      have HE := Lib.hid (show okRow l k = true by rw [HO.out, any_not_no hA]; simp)
                      clear hA
                      go_wp2
                      go_roundw
                      case rel => exact ⟨k + 1, by omega, by go_num, Lib.hid (allT_snoc HA.out HE.out), HW2⟩
                      case measure => simp [intOf]; omega
                  · have HLT := Lib.hid hp
                    have HB := Lib.hid (HFL.out (by rw [HO.out, hp]; simp))
                    clear hp
                    go_wp2_with fail
                    refine wp_region_krip (Keep (fun _ => False)) (Keep.refl _) keep0_trans 43 (by kernel_rfl) (by kernel_rfl) (Ts := [none, some (.inl (idV (a, i))), some (.inl (.bool true)), none, none, none, some (.inl (.int .i64 v)), none, none, none, none, some (.inl (.int .i64 v)), none, none, none, none, some (.inl (.slice An nn cn)), some (.inl (.bool true)), none, none, none, none, some (.inl (.slice An nn cn)), none, some (.inl (idV (a, i))), some (.inl (.bool false)), none, none, none, none, none, none, none, none, none, none, some (.inl (idV (pa, pi))), none, some (.inl (idV (a, i))), some (.inl (.bool false)), none, none, none]) ?_
                    simp only [List.take, List.drop]
                    refine kAll_p (fun K hK => ?_)
                    go_simp
                    generalize hZ : (Act.mk _ _) = Z
                    refine hK Z ?_
                    subst hZ
                    clear hK K
                    refine kAll_dn _ (fun W hW hF => kStep_of fun K Q hK => ?_) (fun K hK => ?_)
                    · have c0 := (BX.out.drew.keep hW (fun h => h)).cell 0
                      have c1 := (BX.out.drew.keep hW (fun h => h)).cell 1
                      simp at c0 c1
                      go_simp
                      exact hK _ _ (Keep.refl _ _) rfl
                    go_simp
                    generalize hZ : (Act.mk _ _) = Z
                    refine hK Z ?_
                    subst hZ
                    clear hK K
                    refine kAll_dn _ (fun W hW hF => kStep_of fun K Q hK => ?_) (fun K hK => ?_)
                    · go_simp
                      refine (may_any (a, i) W).mono ?_
                      rintro e w' ⟨rfl, hk⟩
                      rw [HM.out]
                      exact hK _ _ hk rfl
                    go_simp
                    generalize hZ : (Act.mk _ _) = Z
                    refine hK Z ?_
                    subst hZ
                    clear hK K
                    refine kAll_p (fun K hK => ?_)
                    go_simp
                    generalize hZ : (Act.mk _ _) = Z
                    refine hK Z ?_
                    subst hZ
                    clear hK K
                    refine kAll_p (fun K hK => ?_)
                    go_simp
                    generalize hZ : (Act.mk _ _) = Z
                    refine hK Z ?_
                    subst hZ
                    clear hK K
                    refine kAll_pw (by kernel_rfl) (fun K hK => ?_)
                    go_simp
                    generalize hZ : (Act.mk _ _) = Z
                    refine hK Z ?_
                    subst hZ
                    clear hK K
                    refine kAll_dn _ (fun W hW hF => kStep_w (by kernel_rfl) fun K Q hK => ?_) (fun K hK => ?_)
                    · have c2 := (BX.out.drew.keep hW (fun h => h)).cell 2
                      simp at c2
                      go_simp
                      exact hK _ _ (Keep.refl _ _) rfl
                    go_simp
                    generalize hZ : (Act.mk _ _) = Z
                    refine hK Z ?_
                    subst hZ
                    clear hK K
                    refine kAll_pw (by kernel_rfl) (fun K hK => ?_)
                    go_simp
                    generalize hZ : (Act.mk _ _) = Z
                    refine hK Z ?_
                    subst hZ
                    clear hK K
                    refine kAll_p (fun K hK => ?_)
                    go_simp
                    generalize hZ : (Act.mk _ _) = Z
                    refine hK Z ?_
                    subst hZ
                    clear hK K
                    refine kAll_p (fun K hK => ?_)
                    go_simp
                    generalize hZ : (Act.mk _ _) = Z
                    refine hK Z ?_
                    subst hZ
                    clear hK K
                    refine kAll_pw (by kernel_rfl) (fun K hK => ?_)
                    go_simp
                    generalize hZ : (Act.mk _ _) = Z
                    refine hK Z ?_
                    subst hZ
                    clear hK K
                    refine kAll_dn _ (fun W hW hF => kStep_w (by kernel_rfl) fun K Q hK => ?_) (fun K hK => ?_)
                    · have c2 := (BX.out.drew.keep hW (fun h => h)).cell 2
                      simp at c2
                      go_simp
                      exact hK _ _ (Keep.refl _ _) rfl
                    go_simp
                    generalize hZ : (Act.mk _ _) = Z
                    refine hK Z ?_
                    subst hZ
                    clear hK K
                    refine kAll_pw (by kernel_rfl) (fun K hK => ?_)
                    go_simp
                    generalize hZ : (Act.mk _ _) = Z
                    refine hK Z ?_
                    subst hZ
                    clear hK K
                    refine kAll_p (fun K hK => ?_)
                    go_simp
                    generalize hZ : (Act.mk _ _) = Z
                    refine hK Z ?_
                    subst hZ
                    clear hK K
                    refine kAll_p (fun K hK => ?_)
                    go_simp
                    generalize hZ : (Act.mk _ _) = Z
                    refine hK Z ?_
                    subst hZ
                    clear hK K
                    refine kAll_pw (by kernel_rfl) (fun K hK => ?_)
                    go_simp
                    generalize hZ : (Act.mk _ _) = Z
                    refine hK Z ?_
                    subst hZ
                    clear hK K
                    refine kAll_dn _ (fun W hW hF => kStep_w (by kernel_rfl) fun K Q hK => ?_) (fun K hK => ?_)
                    · have c3 := (BX.out.drew.keep hW (fun h => h)).cell 3
                      simp at c3
                      go_simp
                      exact hK _ _ (Keep.refl _ _) rfl
                    go_simp
                    generalize hZ : (Act.mk _ _) = Z
                    refine hK Z ?_
                    subst hZ
                    clear hK K
                    refine kAll_dn _ (fun W hW hF => kStep_w (by kernel_rfl) fun K Q hK => ?_) (fun K hK => ?_)
                    · go_simp
                      refine (rising_any An nn cn no W (HN.out.keep0 (keepD KX.out hW)) (by have := HNB.out; omega)).mono ?_
                      rintro e w' ⟨rfl, hk⟩
                      rw [HRi.out]
                      exact hK _ _ hk rfl
                    go_simp
                    generalize hZ : (Act.mk _ _) = Z
                    refine hK Z ?_
                    subst hZ
                    clear hK K
                    refine kAll_pw (by kernel_rfl) (fun K hK => ?_)
                    go_simp
                    generalize hZ : (Act.mk _ _) = Z
                    refine hK Z ?_
                    subst hZ
                    clear hK K
                    refine kAll_p (fun K hK => ?_)
                    go_simp
                    generalize hZ : (Act.mk _ _) = Z
                    refine hK Z ?_
                    subst hZ
                    clear hK K
                    refine kAll_p (fun K hK => ?_)
                    go_simp
                    generalize hZ : (Act.mk _ _) = Z
                    refine hK Z ?_
                    subst hZ
                    clear hK K
                    refine kAll_pw (by kernel_rfl) (fun K hK => ?_)
                    go_simp
                    generalize hZ : (Act.mk _ _) = Z
                    refine hK Z ?_
                    subst hZ
                    clear hK K
                    refine kAll_dn _ (fun W hW hF => kStep_w (by kernel_rfl) fun K Q hK => ?_) (fun K hK => ?_)
                    · have c3 := (BX.out.drew.keep hW (fun h => h)).cell 3
                      simp at c3
                      go_simp
                      exact hK _ _ (Keep.refl _ _) rfl
                    go_simp
                    generalize hZ : (Act.mk _ _) = Z
                    refine hK Z ?_
                    subst hZ
                    clear hK K
                    refine kAll_pw (by kernel_rfl) (fun K hK => ?_)
                    go_simp
                    generalize hZ : (Act.mk _ _) = Z
                    refine hK Z ?_
                    subst hZ
                    clear hK K
                    refine kAll_dn _ (fun W hW hF => kStep_w (by kernel_rfl) fun K Q hK => ?_) (fun K hK => ?_)
                    · have c0 := (BX.out.drew.keep hW (fun h => h)).cell 0
                      have c1 := (BX.out.drew.keep hW (fun h => h)).cell 1
                      simp at c0 c1
                      go_simp
                      exact hK _ _ (Keep.refl _ _) rfl
                    go_simp
                    generalize hZ : (Act.mk _ _) = Z
                    refine hK Z ?_
                    subst hZ
                    clear hK K
                    refine kAll_dn _ (fun W hW hF => kStep_w (by kernel_rfl) fun K Q hK => ?_) (fun K hK => ?_)
                    · go_simp
                      refine (has_any An nn cn no (a, i) W (HN.out.keep0 (keepD KX.out hW)) (by have := HNB.out; omega)).mono ?_
                      rintro e w' ⟨rfl, hk⟩
                      rw [HH.out]
                      exact hK _ _ hk rfl
                    go_simp
                    generalize hZ : (Act.mk _ _) = Z
                    refine hK Z ?_
                    subst hZ
                    clear hK K
                    refine kAll_p (fun K hK => ?_)
                    go_simp
                    generalize hZ : (Act.mk _ _) = Z
                    refine hK Z ?_
                    subst hZ
                    clear hK K
                    refine kAll_p (fun K hK => ?_)
                    go_simp
                    generalize hZ : (Act.mk _ _) = Z
                    refine hK Z ?_
                    subst hZ
                    clear hK K
                    refine kAll_pw (by kernel_rfl) (fun K hK => ?_)
                    go_simp
                    generalize hZ : (Act.mk _ _) = Z
                    refine hK Z ?_
                    subst hZ
                    clear hK K
                    refine kAll_pw (by kernel_rfl) (fun K hK => ?_)
                    go_simp
                    generalize hZ : (Act.mk _ _) = Z
                    refine hK Z ?_
                    subst hZ
                    clear hK K
                    refine kAll_pw (by kernel_rfl) (fun K hK => ?_)
                    go_simp
                    generalize hZ : (Act.mk _ _) = Z
                    refine hK Z ?_
                    subst hZ
                    clear hK K
                    refine kAll_pw (by kernel_rfl) (fun K hK => ?_)
                    go_simp
                    generalize hZ : (Act.mk _ _) = Z
                    refine hK Z ?_
                    subst hZ
                    clear hK K
                    refine kAll_pw (by kernel_rfl) (fun K hK => ?_)
                    go_simp
                    generalize hZ : (Act.mk _ _) = Z
                    refine hK Z ?_
                    subst hZ
                    clear hK K
                    refine kAll_pw (by kernel_rfl) (fun K hK => ?_)
                    go_simp
                    generalize hZ : (Act.mk _ _) = Z
                    refine hK Z ?_
                    subst hZ
                    clear hK K
                    refine kAll_pw (by kernel_rfl) (fun K hK => ?_)
                    go_simp
                    generalize hZ : (Act.mk _ _) = Z
                    refine hK Z ?_
                    subst hZ
                    clear hK K
                    refine kAll_pw (by kernel_rfl) (fun K hK => ?_)
                    go_simp
                    generalize hZ : (Act.mk _ _) = Z
                    refine hK Z ?_
                    subst hZ
                    clear hK K
                    refine kAll_dn _ (fun W hW hF => kStep_w (by kernel_rfl) fun K Q hK => ?_) (fun K hK => ?_)
                    · have hp := HP.out W (keepD KX.out hW)
                      have hp0 := hp.1
                      have hp1 := hp.2
                      clear hp
                      go_simp
                      exact hK _ _ (Keep.refl _ _) rfl
                    go_simp
                    generalize hZ : (Act.mk _ _) = Z
                    refine hK Z ?_
                    subst hZ
                    clear hK K
                    refine kAll_pw (by kernel_rfl) (fun K hK => ?_)
                    go_simp
                    generalize hZ : (Act.mk _ _) = Z
                    refine hK Z ?_
                    subst hZ
                    clear hK K
                    refine kAll_dn _ (fun W hW hF => kStep_w (by kernel_rfl) fun K Q hK => ?_) (fun K hK => ?_)
                    · have c0 := (BX.out.drew.keep hW (fun h => h)).cell 0
                      have c1 := (BX.out.drew.keep hW (fun h => h)).cell 1
                      simp at c0 c1
                      go_simp
                      exact hK _ _ (Keep.refl _ _) rfl
                    go_simp
                    generalize hZ : (Act.mk _ _) = Z
                    refine hK Z ?_
                    subst hZ
                    clear hK K
                    refine kAll_dn _ (fun W hW hF => kStep_w (by kernel_rfl) fun K Q hK => ?_) (fun K hK => ?_)
                    · go_simp
                      refine (ltID_any (pa, pi) (a, i) W).mono ?_
                      rintro e w' ⟨rfl, hk⟩
                      rw [HLT.out]
                      exact hK _ _ hk rfl
                    go_simp
                    generalize hZ : (Act.mk _ _) = Z
                    refine hK Z ?_
                    subst hZ
                    clear hK K
                    refine kAll_pw (by kernel_rfl) (fun K hK => ?_)
                    go_simp
                    generalize hZ : (Act.mk _ _) = Z
                    refine hK Z ?_
                    subst hZ
                    clear hK K
                    refine kAll_pw (by kernel_rfl) (fun K hK => ?_)
                    go_simp
                    generalize hZ : (Act.mk _ _) = Z
                    refine hK Z ?_
                    subst hZ
                    clear hK K
                    refine kAll_p (fun K hK => ?_)
                    go_simp
                    generalize hZ : (Act.mk _ _) = Z
                    refine hK Z ?_
                    subst hZ
                    clear hK K
                    refine kAll_nil (fun W hW hF => ?_)
                    clear hF
                    have HW := Lib.hid (keepD KX.out hW)
                    have HBX := Lib.hid (BX.out.drew.keep hW (fun h => h))
                    clear hW
                    go_wp2
                    go_ret
                    exact ⟨ret_bool HB.out.symm, keep0_trans _ _ _ HK.out HW.out⟩
                · have hOk : decide (k = 0) = true := decide_eq_true (by omega)
                  rw [hOk] at HO
                  clear hOk
                  obtain rfl : k = 0 := by omega
                  simp only [Nat.zero_mul, Nat.add_zero] at q0 q1 q2 q3
                  go_wp2_with fail
                  refine wp_region_krip (Keep (fun _ => False)) (Keep.refl _) keep0_trans 43 (by kernel_rfl) (by kernel_rfl) (Ts := [none, some (.inl (idV (a, i))), some (.inl (.bool true)), none, none, none, some (.inl (.int .i64 v)), none, none, none, none, some (.inl (.int .i64 v)), none, none, none, none, some (.inl (.slice An nn cn)), some (.inl (.bool true)), none, none, none, none, some (.inl (.slice An nn cn)), none, some (.inl (idV (a, i))), some (.inl (.bool false)), none, none, none, none, none, none, none, none, none, none, none, none, none, none, none, none, none]) ?_
                  simp only [List.take, List.drop]
                  refine kAll_p (fun K hK => ?_)
                  go_simp
                  generalize hZ : (Act.mk _ _) = Z
                  refine hK Z ?_
                  subst hZ
                  clear hK K
                  refine kAll_dn _ (fun W hW hF => kStep_of fun K Q hK => ?_) (fun K hK => ?_)
                  · have c0 := (BX.out.drew.keep hW (fun h => h)).cell 0
                    have c1 := (BX.out.drew.keep hW (fun h => h)).cell 1
                    simp at c0 c1
                    go_simp
                    exact hK _ _ (Keep.refl _ _) rfl
                  go_simp
                  generalize hZ : (Act.mk _ _) = Z
                  refine hK Z ?_
                  subst hZ
                  clear hK K
                  refine kAll_dn _ (fun W hW hF => kStep_of fun K Q hK => ?_) (fun K hK => ?_)
                  · go_simp
                    refine (may_any (a, i) W).mono ?_
                    rintro e w' ⟨rfl, hk⟩
                    rw [HM.out]
                    exact hK _ _ hk rfl
                  go_simp
                  generalize hZ : (Act.mk _ _) = Z
                  refine hK Z ?_
                  subst hZ
                  clear hK K
                  refine kAll_p (fun K hK => ?_)
                  go_simp
                  generalize hZ : (Act.mk _ _) = Z
                  refine hK Z ?_
                  subst hZ
                  clear hK K
                  refine kAll_p (fun K hK => ?_)
                  go_simp
                  generalize hZ : (Act.mk _ _) = Z
                  refine hK Z ?_
                  subst hZ
                  clear hK K
                  refine kAll_pw (by kernel_rfl) (fun K hK => ?_)
                  go_simp
                  generalize hZ : (Act.mk _ _) = Z
                  refine hK Z ?_
                  subst hZ
                  clear hK K
                  refine kAll_dn _ (fun W hW hF => kStep_w (by kernel_rfl) fun K Q hK => ?_) (fun K hK => ?_)
                  · have c2 := (BX.out.drew.keep hW (fun h => h)).cell 2
                    simp at c2
                    go_simp
                    exact hK _ _ (Keep.refl _ _) rfl
                  go_simp
                  generalize hZ : (Act.mk _ _) = Z
                  refine hK Z ?_
                  subst hZ
                  clear hK K
                  refine kAll_pw (by kernel_rfl) (fun K hK => ?_)
                  go_simp
                  generalize hZ : (Act.mk _ _) = Z
                  refine hK Z ?_
                  subst hZ
                  clear hK K
                  refine kAll_p (fun K hK => ?_)
                  go_simp
                  generalize hZ : (Act.mk _ _) = Z
                  refine hK Z ?_
                  subst hZ
                  clear hK K
                  refine kAll_p (fun K hK => ?_)
                  go_simp
                  generalize hZ : (Act.mk _ _) = Z
                  refine hK Z ?_
                  subst hZ
                  clear hK K
                  refine kAll_pw (by kernel_rfl) (fun K hK => ?_)
                  go_simp
                  generalize hZ : (Act.mk _ _) = Z
                  refine hK Z ?_
                  subst hZ
                  clear hK K
                  refine kAll_dn _ (fun W hW hF => kStep_w (by kernel_rfl) fun K Q hK => ?_) (fun K hK => ?_)
                  · have c2 := (BX.out.drew.keep hW (fun h => h)).cell 2
                    simp at c2
                    go_simp
                    exact hK _ _ (Keep.refl _ _) rfl
                  go_simp
                  generalize hZ : (Act.mk _ _) = Z
                  refine hK Z ?_
                  subst hZ
                  clear hK K
                  refine kAll_pw (by kernel_rfl) (fun K hK => ?_)
                  go_simp
                  generalize hZ : (Act.mk _ _) = Z
                  refine hK Z ?_
                  subst hZ
                  clear hK K
                  refine kAll_p (fun K hK => ?_)
                  go_simp
                  generalize hZ : (Act.mk _ _) = Z
                  refine hK Z ?_
                  subst hZ
                  clear hK K
                  refine kAll_p (fun K hK => ?_)
                  go_simp
                  generalize hZ : (Act.mk _ _) = Z
                  refine hK Z ?_
                  subst hZ
                  clear hK K
                  refine kAll_pw (by kernel_rfl) (fun K hK => ?_)
                  go_simp
                  generalize hZ : (Act.mk _ _) = Z
                  refine hK Z ?_
                  subst hZ
                  clear hK K
                  refine kAll_dn _ (fun W hW hF => kStep_w (by kernel_rfl) fun K Q hK => ?_) (fun K hK => ?_)
                  · have c3 := (BX.out.drew.keep hW (fun h => h)).cell 3
                    simp at c3
                    go_simp
                    exact hK _ _ (Keep.refl _ _) rfl
                  go_simp
                  generalize hZ : (Act.mk _ _) = Z
                  refine hK Z ?_
                  subst hZ
                  clear hK K
                  refine kAll_dn _ (fun W hW hF => kStep_w (by kernel_rfl) fun K Q hK => ?_) (fun K hK => ?_)
                  · go_simp
                    refine (rising_any An nn cn no W (HN.out.keep0 (keepD KX.out hW)) (by have := HNB.out; omega)).mono ?_
                    rintro e w' ⟨rfl, hk⟩
                    rw [HRi.out]
                    exact hK _ _ hk rfl
                  go_simp
                  generalize hZ : (Act.mk _ _) = Z
                  refine hK Z ?_
                  subst hZ
                  clear hK K
                  refine kAll_pw (by kernel_rfl) (fun K hK => ?_)
                  go_simp
                  generalize hZ : (Act.mk _ _) = Z
                  refine hK Z ?_
                  subst hZ
                  clear hK K
                  refine kAll_p (fun K hK => ?_)
                  go_simp
                  generalize hZ : (Act.mk _ _) = Z
                  refine hK Z ?_
                  subst hZ
                  clear hK K
                  refine kAll_p (fun K hK => ?_)
                  go_simp
                  generalize hZ : (Act.mk _ _) = Z
                  refine hK Z ?_
                  subst hZ
                  clear hK K
                  refine kAll_pw (by kernel_rfl) (fun K hK => ?_)
                  go_simp
                  generalize hZ : (Act.mk _ _) = Z
                  refine hK Z ?_
                  subst hZ
                  clear hK K
                  refine kAll_dn _ (fun W hW hF => kStep_w (by kernel_rfl) fun K Q hK => ?_) (fun K hK => ?_)
                  · have c3 := (BX.out.drew.keep hW (fun h => h)).cell 3
                    simp at c3
                    go_simp
                    exact hK _ _ (Keep.refl _ _) rfl
                  go_simp
                  generalize hZ : (Act.mk _ _) = Z
                  refine hK Z ?_
                  subst hZ
                  clear hK K
                  refine kAll_pw (by kernel_rfl) (fun K hK => ?_)
                  go_simp
                  generalize hZ : (Act.mk _ _) = Z
                  refine hK Z ?_
                  subst hZ
                  clear hK K
                  refine kAll_dn _ (fun W hW hF => kStep_w (by kernel_rfl) fun K Q hK => ?_) (fun K hK => ?_)
                  · have c0 := (BX.out.drew.keep hW (fun h => h)).cell 0
                    have c1 := (BX.out.drew.keep hW (fun h => h)).cell 1
                    simp at c0 c1
                    go_simp
                    exact hK _ _ (Keep.refl _ _) rfl
                  go_simp
                  generalize hZ : (Act.mk _ _) = Z
                  refine hK Z ?_
                  subst hZ
                  clear hK K
                  refine kAll_dn _ (fun W hW hF => kStep_w (by kernel_rfl) fun K Q hK => ?_) (fun K hK => ?_)
                  · go_simp
                    refine (has_any An nn cn no (a, i) W (HN.out.keep0 (keepD KX.out hW)) (by have := HNB.out; omega)).mono ?_
                    rintro e w' ⟨rfl, hk⟩
                    rw [HH.out]
                    exact hK _ _ hk rfl
                  go_simp
                  generalize hZ : (Act.mk _ _) = Z
                  refine hK Z ?_
                  subst hZ
                  clear hK K
                  refine kAll_p (fun K hK => ?_)
                  go_simp
                  generalize hZ : (Act.mk _ _) = Z
                  refine hK Z ?_
                  subst hZ
                  clear hK K
                  refine kAll_p (fun K hK => ?_)
                  go_simp
                  generalize hZ : (Act.mk _ _) = Z
                  refine hK Z ?_
                  subst hZ
                  clear hK K
                  refine kAll_pw (by kernel_rfl) (fun K hK => ?_)
                  go_simp
                  generalize hZ : (Act.mk _ _) = Z
                  refine hK Z ?_
                  subst hZ
                  clear hK K
                  refine kAll_pw (by kernel_rfl) (fun K hK => ?_)
                  go_simp
                  generalize hZ : (Act.mk _ _) = Z
                  refine hK Z ?_
                  subst hZ
                  clear hK K
                  refine kAll_pw (by kernel_rfl) (fun K hK => ?_)
                  go_simp
                  generalize hZ : (Act.mk _ _) = Z
                  refine hK Z ?_
                  subst hZ
                  clear hK K
                  refine kAll_skip (by kernel_rfl) ?_
                  refine kAll_skip (by kernel_rfl) ?_
                  refine kAll_skip (by kernel_rfl) ?_
                  refine kAll_skip (by kernel_rfl) ?_
                  refine kAll_skip (by kernel_rfl) ?_
                  refine kAll_skip (by kernel_rfl) ?_
                  refine kAll_skip (by kernel_rfl) ?_
                  refine kAll_skip (by kernel_rfl) ?_
                  refine kAll_skip (by kernel_rfl) ?_
                  refine kAll_skip (by kernel_rfl) ?_
                  refine kAll_pw (by kernel_rfl) (fun K hK => ?_)
                  go_simp
                  generalize hZ : (Act.mk _ _) = Z
                  refine hK Z ?_
                  subst hZ
                  clear hK K
                  refine kAll_p (fun K hK => ?_)
                  go_simp
                  generalize hZ : (Act.mk _ _) = Z
                  refine hK Z ?_
                  subst hZ
                  clear hK K
                  refine kAll_nil (fun W hW hF => ?_)
                  clear hF
                  have HW := Lib.hid (keepD KX.out hW)
                  have HBX := Lib.hid (BX.out.drew.keep hW (fun h => h))
                  clear hW
                  have d3 := HBX.out.cell 3
                  simp at d3
                  go_wp2_with fail
                  refine (containsF_any 61 #[] (fun x => !mayID x) An nn cn no _ ⟨eg_rmay1, fun x W _ => rmay1_any x W⟩ (HN.out.keep0 HW.out) (by have := HNB.out; omega)).mono ?_
                  rintro e W2 ⟨rfl, hk2⟩
                  have HW2 := Lib.hid (keep0_trans _ _ _ HK.out (keep0_trans _ _ _ HW.out hk2))
                  clear hk2 d3
                  rcases Bool.eq_false_or_eq_true (no.any (fun x => !mayID x)) with hA | hA
                  · rw [hA]
                    have HB := Lib.hid (HFL.out (by rw [HO.out, any_not_all hA]; simp))
                    clear hA
                    go_wp2
                    go_ret
                    exact ⟨ret_bool HB.out.symm, HW2.out⟩
                  · rw [hA]
                    have HE := Lib.hid (show okRow l 0 = true by rw [HO.out, any_not_no hA]; simp)
                    clear hA
                    go_wp2
                    go_roundw
                    case rel => exact ⟨1, by omega, by go_num, Lib.hid (allT_snoc HA.out HE.out), HW2⟩
                    case measure => simp [intOf]; omega
            · have HRi := Lib.hid hR
              have HB := Lib.hid (HFL.out (by rw [HO.out, hR]; simp))
              clear hR
              go_wp2_with fail
              refine wp_region_krip (Keep (fun _ => False)) (Keep.refl _) keep0_trans 43 (by kernel_rfl) (by kernel_rfl) (Ts := [none, some (.inl (idV (a, i))), some (.inl (.bool true)), none, none, none, some (.inl (.int .i64 v)), none, none, none, none, some (.inl (.int .i64 v)), none, none, none, none, some (.inl (.slice An nn cn)), some (.inl (.bool false)), none, none, none, none, none, none, none, none, none, none, none, none, none, none, none, none, none, none, none, none, none, none, none, none, none]) ?_
              simp only [List.take, List.drop]
              refine kAll_p (fun K hK => ?_)
              go_simp
              generalize hZ : (Act.mk _ _) = Z
              refine hK Z ?_
              subst hZ
              clear hK K
              refine kAll_dn _ (fun W hW hF => kStep_of fun K Q hK => ?_) (fun K hK => ?_)
              · have c0 := (BX.out.drew.keep hW (fun h => h)).cell 0
                have c1 := (BX.out.drew.keep hW (fun h => h)).cell 1
                simp at c0 c1
                go_simp
                exact hK _ _ (Keep.refl _ _) rfl
              go_simp
              generalize hZ : (Act.mk _ _) = Z
              refine hK Z ?_
              subst hZ
              clear hK K
              refine kAll_dn _ (fun W hW hF => kStep_of fun K Q hK => ?_) (fun K hK => ?_)
              · go_simp
                refine (may_any (a, i) W).mono ?_
                rintro e w' ⟨rfl, hk⟩
                rw [HM.out]
                exact hK _ _ hk rfl
              go_simp
              generalize hZ : (Act.mk _ _) = Z
              refine hK Z ?_
              subst hZ
              clear hK K
              refine kAll_p (fun K hK => ?_)
              go_simp
              generalize hZ : (Act.mk _ _) = Z
              refine hK Z ?_
              subst hZ
              clear hK K
              refine kAll_p (fun K hK => ?_)
              go_simp
              generalize hZ : (Act.mk _ _) = Z
              refine hK Z ?_
              subst hZ
              clear hK K
              refine kAll_pw (by kernel_rfl) (fun K hK => ?_)
              go_simp
              generalize hZ : (Act.mk _ _) = Z
              refine hK Z ?_
              subst hZ
              clear hK K
              refine kAll_dn _ (fun W hW hF => kStep_w (by kernel_rfl) fun K Q hK => ?_) (fun K hK => ?_)
              · have c2 := (BX.out.drew.keep hW (fun h => h)).cell 2
                simp at c2
                go_simp
                exact hK _ _ (Keep.refl _ _) rfl
              go_simp
              generalize hZ : (Act.mk _ _) = Z
              refine hK Z ?_
              subst hZ
              clear hK K
              refine kAll_pw (by kernel_rfl) (fun K hK => ?_)
              go_simp
              generalize hZ : (Act.mk _ _) = Z
              refine hK Z ?_
              subst hZ
              clear hK K
              refine kAll_p (fun K hK => ?_)
              go_simp
              generalize hZ : (Act.mk _ _) = Z
              refine hK Z ?_
              subst hZ
              clear hK K
              refine kAll_p (fun K hK => ?_)
              go_simp
              generalize hZ : (Act.mk _ _) = Z
              refine hK Z ?_
              subst hZ
              clear hK K
              refine kAll_pw (by kernel_rfl) (fun K hK => ?_)
              go_simp
              generalize hZ : (Act.mk _ _) = Z
              refine hK Z ?_
              subst hZ
              clear hK K
              refine kAll_dn _ (fun W hW hF => kStep_w (by kernel_rfl) fun K Q hK => ?_) (fun K hK => ?_)
              · have c2 := (BX.out.drew.keep hW (fun h => h)).cell 2
                simp at c2
                go_simp
                exact hK _ _ (Keep.refl _ _) rfl
              go_simp
              generalize hZ : (Act.mk _ _) = Z
              refine hK Z ?_
              subst hZ
              clear hK K
              refine kAll_pw (by kernel_rfl) (fun K hK => ?_)
              go_simp
              generalize hZ : (Act.mk _ _) = Z
              refine hK Z ?_
              subst hZ
              clear hK K
              refine kAll_p (fun K hK => ?_)
              go_simp
              generalize hZ : (Act.mk _ _) = Z
              refine hK Z ?_
              subst hZ
              clear hK K
              refine kAll_p (fun K hK => ?_)
              go_simp
              generalize hZ : (Act.mk _ _) = Z
              refine hK Z ?_
              subst hZ
              clear hK K
              refine kAll_pw (by kernel_rfl) (fun K hK => ?_)
              go_simp
              generalize hZ : (Act.mk _ _) = Z
              refine hK Z ?_
              subst hZ
              clear hK K
              refine kAll_dn _ (fun W hW hF => kStep_w (by kernel_rfl) fun K Q hK => ?_) (fun K hK => ?_)
              · have c3 := (BX.out.drew.keep hW (fun h => h)).cell 3
                simp at c3
                go_simp
                exact hK _ _ (Keep.refl _ _) rfl
              go_simp
              generalize hZ : (Act.mk _ _) = Z
              refine hK Z ?_
              subst hZ
              clear hK K
              refine kAll_dn _ (fun W hW hF => kStep_w (by kernel_rfl) fun K Q hK => ?_) (fun K hK => ?_)
              · go_simp
                refine (rising_any An nn cn no W (HN.out.keep0 (keepD KX.out hW)) (by have := HNB.out; omega)).mono ?_
                rintro e w' ⟨rfl, hk⟩
                rw [HRi.out]
                exact hK _ _ hk rfl
              go_simp
              generalize hZ : (Act.mk _ _) = Z
              refine hK Z ?_
              subst hZ
              clear hK K
              refine kAll_pw (by kernel_rfl) (fun K hK => ?_)
              go_simp
              generalize hZ : (Act.mk _ _) = Z
              refine hK Z ?_
              subst hZ
              clear hK K
              refine kAll_p (fun K hK => ?_)
              go_simp
              generalize hZ : (Act.mk _ _) = Z
              refine hK Z ?_
              subst hZ
              clear hK K
              refine kAll_p (fun K hK => ?_)
              go_simp
              generalize hZ : (Act.mk _ _) = Z
              refine hK Z ?_
              subst hZ
              clear hK K
              refine kAll_skip (by kernel_rfl) ?_
              refine kAll_skip (by kernel_rfl) ?_
              refine kAll_skip (by kernel_rfl) ?_
              refine kAll_skip (by kernel_rfl) ?_
              refine kAll_skip (by kernel_rfl) ?_
              refine kAll_p (fun K hK => ?_)
              go_simp
              generalize hZ : (Act.mk _ _) = Z
              refine hK Z ?_
              subst hZ
              clear hK K
              refine kAll_p (fun K hK => ?_)
              go_simp
              generalize hZ : (Act.mk _ _) = Z
              refine hK Z ?_
              subst hZ
              clear hK K
              refine kAll_skip (by kernel_rfl) ?_
              refine kAll_skip (by kernel_rfl) ?_
              refine kAll_skip (by kernel_rfl) ?_
              refine kAll_skip (by kernel_rfl) ?_
              refine kAll_skip (by kernel_rfl) ?_
              refine kAll_skip (by kernel_rfl) ?_
              refine kAll_skip (by kernel_rfl) ?_
              refine kAll_skip (by kernel_rfl) ?_
              refine kAll_skip (by kernel_rfl) ?_
              refine kAll_skip (by kernel_rfl) ?_
              refine kAll_skip (by kernel_rfl) ?_
              refine kAll_skip (by kernel_rfl) ?_
              refine kAll_skip (by kernel_rfl) ?_
              refine kAll_skip (by kernel_rfl) ?_
              refine kAll_p (fun K hK => ?_)
              go_simp
              generalize hZ : (Act.mk _ _) = Z
              refine hK Z ?_
              subst hZ
              clear hK K
              refine kAll_nil (fun W hW hF => ?_)
              clear hF
              have HW := Lib.hid (keepD KX.out hW)
              have HBX := Lib.hid (BX.out.drew.keep hW (fun h => h))
              clear hW
              go_wp2
              go_ret
              exact ⟨ret_bool HB.out.symm, keep0_trans _ _ _ HK.out HW.out⟩
      · have HM := Lib.hid hM
        have HB := Lib.hid (HFL.out (by rw [HO.out, hM]; simp))
        clear hM
        go_wp2_with fail
        refine wp_region_krip (Keep (fun _ => False)) (Keep.refl _) keep0_trans 43 (by kernel_rfl) (by kernel_rfl) (Ts := [none, some (.inl (idV (a, i))), some (.inl (.bool false)), none, none, none, none, none, none, none, none, none, none, none, none, none, none, none, none, none, none, none, none, none, none, none, none, none, none, none, none, none, none, none, none, none, none, none, none, none, none, none, none]) ?_
        simp only [List.take, List.drop]
        refine kAll_p (fun K hK => ?_)
        go_simp
        generalize hZ : (Act.mk _ _) = Z
        refine hK Z ?_
        subst hZ
        clear hK K
        refine kAll_dn _ (fun W hW hF => kStep_of fun K Q hK => ?_) (fun K hK => ?_)
        · have c0 := (BX.out.drew.keep hW (fun h => h)).cell 0
          have c1 := (BX.out.drew.keep hW (fun h => h)).cell 1
          simp at c0 c1
          go_simp
          exact hK _ _ (Keep.refl _ _) rfl
        go_simp
        generalize hZ : (Act.mk _ _) = Z
        refine hK Z ?_
        subst hZ
        clear hK K
        refine kAll_dn _ (fun W hW hF => kStep_of fun K Q hK => ?_) (fun K hK => ?_)
        · go_simp
          refine (may_any (a, i) W).mono ?_
          rintro e w' ⟨rfl, hk⟩
          rw [HM.out]
          exact hK _ _ hk rfl
        go_simp
        generalize hZ : (Act.mk _ _) = Z
        refine hK Z ?_
        subst hZ
        clear hK K
        refine kAll_p (fun K hK => ?_)
        go_simp
        generalize hZ : (Act.mk _ _) = Z
        refine hK Z ?_
        subst hZ
        clear hK K
        refine kAll_p (fun K hK => ?_)
        go_simp
        generalize hZ : (Act.mk _ _) = Z
        refine hK Z ?_
        subst hZ
        clear hK K
        refine kAll_skip (by kernel_rfl) ?_
        refine kAll_skip (by kernel_rfl) ?_
        refine kAll_skip (by kernel_rfl) ?_
        refine kAll_p (fun K hK => ?_)
        go_simp
        generalize hZ : (Act.mk _ _) = Z
        refine hK Z ?_
        subst hZ
        clear hK K
        refine kAll_p (fun K hK => ?_)
        go_simp
        generalize hZ : (Act.mk _ _) = Z
        refine hK Z ?_
        subst hZ
        clear hK K
        refine kAll_skip (by kernel_rfl) ?_
        refine kAll_skip (by kernel_rfl) ?_
        refine kAll_skip (by kernel_rfl) ?_
        refine kAll_p (fun K hK => ?_)
        go_simp
        generalize hZ : (Act.mk _ _) = Z
        refine hK Z ?_
        subst hZ
        clear hK K
        refine kAll_p (fun K hK => ?_)
        go_simp
        generalize hZ : (Act.mk _ _) = Z
        refine hK Z ?_
        subst hZ
        clear hK K
        refine kAll_skip (by kernel_rfl) ?_
        refine kAll_skip (by kernel_rfl) ?_
        refine kAll_skip (by kernel_rfl) ?_
        refine kAll_skip (by kernel_rfl) ?_
        refine kAll_p (fun K hK => ?_)
        go_simp
        generalize hZ : (Act.mk _ _) = Z
        refine hK Z ?_
        subst hZ
        clear hK K
        refine kAll_p (fun K hK => ?_)
        go_simp
        generalize hZ : (Act.mk _ _) = Z
        refine hK Z ?_
        subst hZ
        clear hK K
        refine kAll_skip (by kernel_rfl) ?_
        refine kAll_skip (by kernel_rfl) ?_
        refine kAll_skip (by kernel_rfl) ?_
        refine kAll_skip (by kernel_rfl) ?_
        refine kAll_skip (by kernel_rfl) ?_
        refine kAll_p (fun K hK => ?_)
        go_simp
        generalize hZ : (Act.mk _ _) = Z
        refine hK Z ?_
        subst hZ
        clear hK K
        refine kAll_p (fun K hK => ?_)
        go_simp
        generalize hZ : (Act.mk _ _) = Z
        refine hK Z ?_
        subst hZ
        clear hK K
        refine kAll_skip (by kernel_rfl) ?_
        refine kAll_skip (by kernel_rfl) ?_
        refine kAll_skip (by kernel_rfl) ?_
        refine kAll_skip (by kernel_rfl) ?_
        refine kAll_skip (by kernel_rfl) ?_
        refine kAll_skip (by kernel_rfl) ?_
        refine kAll_skip (by kernel_rfl) ?_
        refine kAll_skip (by kernel_rfl) ?_
        refine kAll_skip (by kernel_rfl) ?_
        refine kAll_skip (by kernel_rfl) ?_
        refine kAll_skip (by kernel_rfl) ?_
        refine kAll_skip (by kernel_rfl) ?_
        refine kAll_skip (by kernel_rfl) ?_
        refine kAll_skip (by kernel_rfl) ?_
        refine kAll_p (fun K hK => ?_)
        go_simp
        generalize hZ : (Act.mk _ _) = Z
        refine hK Z ?_
        subst hZ
        clear hK K
        refine kAll_nil (fun W hW hF => ?_)
        clear hF
        have HW := Lib.hid (keepD KX.out hW)
        have HBX := Lib.hid (BX.out.drew.keep hW (fun h => h))
        clear hW
        go_wp2
        go_ret
        exact ⟨ret_bool HB.out.symm, keep0_trans _ _ _ HK.out HW.out⟩
    · obtain rfl : n = k := by omega
      have HB := Lib.hid (show mayR l = decide ((n : Int) ≤ 64) by
        unfold mayR
        rw [allB_yes (f := okRow l) (by rw [HL.out]; exact HA.out), HL.out, Bool.true_and, Bool.eq_iff_iff]; simp; omega)
      go_wp2
      go_ret
      exact ⟨ret_bool HB.out.symm, HK.out⟩
end Go.Proofs.YtgoldgamjogadaaGreat
