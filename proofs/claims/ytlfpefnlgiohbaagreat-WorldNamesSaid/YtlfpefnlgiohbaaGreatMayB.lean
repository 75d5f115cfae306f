/-
  config: May. Written by gen_i.py.
-/
import Derived.Test.YtlfpefnlgiohbaaGreatMayA
import Derived.Test.YtlfpefnlgiohbaaGreatKpre
import Derived.Test.YtlfpefnlgiohbaaGreatKrip2
import Derived.Deep.Cut
import Derived.Deep.RegionHeld3
import Derived.Deep.DeepCutAuto
namespace Go.Proofs.YtlfpefnlgiohbaaGreat
open Go.RowKit Go Go.Shelf
set_option maxRecDepth 100000
attribute [local irreducible] kAll kAllC
attribute [local go_sem] kQuiet kQuietUpon

theorem keepDT {T : Nat → Prop} {a b : World} (h : Keep T a.drew b) : Keep T a b := ((Keep.refl T a).drew).trans (h.mono fun _ _ e => .inl e)
theorem keepT_trans (T : Nat → Prop) (a b c : World) (h : Keep T a b) (k : Keep T b c) : Keep T a c := h.trans (k.mono fun _ _ e => .inl e)

def riseM (s : List Int) : Bool := decide (0 < s.length) && sortB s && distB s && inB 1 12 s
def timesM (x2 x3 x4 x5 x6 x7 x15 x16 : Int) : Bool := inB 1 4096 [x2, x3, x4, x5, x6, x15, x16] && decide (x2 ≤ x3) && inB 0 4096 [x7]
def kindM (x8 x9 x12 x13 x14 : Int) : Bool :=
  if x8 = 1 then inB 1 12 [x9] && inB 0 0 [x12, x13, x14]
  else if x8 = 2 ∨ x8 = 3 then inB 0 0 [x9, x12, x13, x14]
  else if x8 = 4 then decide (x9 = 0) && inB 0 4096 [x12] && inB 1 4096 [x13, x14] && decide (x14 < x13)
  else false
def mayX (s : List Int) (x1 x2 x3 x4 x5 x6 x7 x8 x9 : Int) (b10 : Bool) (x12 x13 x14 x15 x16 : Int) : Bool :=
  riseM s && timesM x2 x3 x4 x5 x6 x7 x15 x16 && inB 1 12 [x1] && !(b10 && decide (x8 ≠ 3)) && kindM x8 x9 x12 x13 x14

set_option maxHeartbeats 8000000 in
theorem mayX_any (s : List Int) (x1 x2 x3 x4 x5 x6 x7 x8 x9 : Int) (b10 b11 : Bool) (x12 x13 x14 x15 x16 : Int) (A : Option Addr) (n cap : Nat) (w : World) (h : RdN w A n s) (hb : n ≤ 600000000) :
    Calls Tryz.prog 27 #[.agg #[.slice A n cap, .int .i64 x1, .int .i64 x2, .int .i64 x3, .int .i64 x4, .int .i64 x5, .int .i64 x6, .int .i64 x7, .int .u8 x8, .int .i64 x9, .bool b10, .bool b11, .int .i64 x12, .int .i64 x13, .int .i64 x14, .int .i64 x15, .int .i64 x16]] w (Tell (.bool (mayX s x1 x2 x3 x4 x5 x6 x7 x8 x9 b10 x12 x13 x14 x15 x16)) w) := by
  have hl := RdN.len h
  have hkB : Keep (fun _ => False) w (w.alloc (.cells #[.slice A n cap, .int .i64 x1, .int .i64 x2, .int .i64 x3, .int .i64 x4, .int .i64 x5, .int .i64 x6, .int .i64 x7, .int .u8 x8, .int .i64 x9, .bool b10, .bool b11, .int .i64 x12, .int .i64 x13, .int .i64 x14, .int .i64 x15, .int .i64 x16] 45)) := (Keep.refl _ w).alloc _
  have HR := Lib.hid (h.keep0 hkB)
  have hBx := Blk.new w 45 #[.slice A n cap, .int .i64 x1, .int .i64 x2, .int .i64 x3, .int .i64 x4, .int .i64 x5, .int .i64 x6, .int .i64 x7, .int .u8 x8, .int .i64 x9, .bool b10, .bool b11, .int .i64 x12, .int .i64 x13, .int .i64 x14, .int .i64 x15, .int .i64 x16]
  go_enter Tryz.func27, Tryz.ntmps27
  go_upto_region 1 with (fail)
  obtain ⟨Bx, hBxe⟩ : ∃ Bx, w.heap.size = Bx := ⟨_, rfl⟩
  rw [hBxe] at hBx ⊢
  generalize hW : w.alloc (.cells #[.slice A n cap, .int .i64 x1, .int .i64 x2, .int .i64 x3, .int .i64 x4, .int .i64 x5, .int .i64 x6, .int .i64 x7, .int .u8 x8, .int .i64 x9, .bool b10, .bool b11, .int .i64 x12, .int .i64 x13, .int .i64 x14, .int .i64 x15, .int .i64 x16] 45) = W0 at *
  have HK := Lib.hid hkB
  have HB := Lib.hid hBx
  have c0 := hBx.cell 0
  simp at c0
  clear hkB hBx hW h hBxe
  have HL := Lib.hid hl
  have q00 : 0 < n ∨ n = 0 := by omega
  go_cut [3] (fun s3 wx => s3 = .bool (riseM s) ∧ Hid (Keep (fun _ => False) w wx) ∧ Hid (Blk wx Bx 45 #[.slice A n cap, .int .i64 x1, .int .i64 x2, .int .i64 x3, .int .i64 x4, .int .i64 x5, .int .i64 x6, .int .i64 x7, .int .u8 x8, .int .i64 x9, .bool b10, .bool b11, .int .i64 x12, .int .i64 x13, .int .i64 x14, .int .i64 x15, .int .i64 x16]))
  case first =>
    rcases q00 with hn | hn
    · have q0 : (0 : Int) < (n : Int) := by omega
      have HNn := Lib.hid (show decide (0 < s.length) = true from decide_eq_true (by omega))
      obtain ⟨b1, hb1⟩ : ∃ b, sortB s = b := ⟨_, rfl⟩
      have HB1 := Lib.hid hb1
      have HS1 : ∀ W, Hid (RdN W A n s) → Calls Tryz.prog 51 #[.slice A n cap] W (Tell (.bool b1) W) := fun W hW => by rw [← hb1]; exact sorted_any A n cap s W hW.out hn (by omega)
      have HS := Lib.hid HS1
      clear hb1 HS1
      cases b1 with
      | false =>
        refine wp_region_krip (Keep (fun _ => False)) (Keep.refl _) keep0_trans 18 (by kernel_rfl) (by kernel_rfl) (Ts := [none, some (.inl (.slice A n cap)), none, none, none, none, some (.inl (.slice A n cap)), some (.inl (.bool false)), none, none, none, none, none, none, none, none, none, none]) ?_
        simp only [List.take, List.drop]
        refine kAll_p (fun K hK => ?_)
        go_simp
        generalize hZ : (Act.mk _ _) = Z
        refine hK Z ?_
        subst hZ
        clear hK K
        refine kAll_d _ (fun W hW hF => kStep_of fun K Q hK => ?_) ?_
        · have hcell := (keepDT hW).cell c0 (fun h => h)
          go_simp
          exact hK _ _ (Keep.refl _ _) rfl
        refine kAll_p (fun K hK => ?_)
        go_simp
        generalize hZ : (Act.mk _ _) = Z
        refine hK Z ?_
        subst hZ
        clear hK K
        refine kAll_p (fun K hK => ?_)
        go_simp
        generalize hZ : (Act.mk _ _) = Z
        refine hK Z ?_
        subst hZ
        clear hK K
        refine kAll_p (fun K hK => ?_)
        go_simp
        generalize hZ : (Act.mk _ _) = Z
        refine hK Z ?_
        subst hZ
        clear hK K
        refine kAll_pw (by kernel_rfl) (fun K hK => ?_)
        go_simp
        generalize hZ : (Act.mk _ _) = Z
        refine hK Z ?_
        subst hZ
        clear hK K
        refine kAll_d _ (fun W hW hF => kStep_w (by kernel_rfl) fun K Q hK => ?_) ?_
        · have hcell := (keepDT hW).cell c0 (fun h => h)
          go_simp
          exact hK _ _ (Keep.refl _ _) rfl
        refine kAll_d _ (fun W hW hF => kStep_w (by kernel_rfl) fun K Q hK => ?_) ?_
        · go_simp
          refine (HS.out _ (Lib.hid (HR.out.keep0 (keepDT hW)))).mono ?_
          rintro e w' ⟨rfl, hk⟩
          exact hK _ _ hk rfl
        refine kAll_p (fun K hK => ?_)
        go_simp
        generalize hZ : (Act.mk _ _) = Z
        refine hK Z ?_
        subst hZ
        clear hK K
        refine kAll_p (fun K hK => ?_)
        go_simp
        generalize hZ : (Act.mk _ _) = Z
        refine hK Z ?_
        subst hZ
        clear hK K
        refine kAll_skip (by kernel_rfl) ?_
        refine kAll_skip (by kernel_rfl) ?_
        refine kAll_skip (by kernel_rfl) ?_
        refine kAll_skip (by kernel_rfl) ?_
        refine kAll_skip (by kernel_rfl) ?_
        refine kAll_skip (by kernel_rfl) ?_
        refine kAll_skip (by kernel_rfl) ?_
        refine kAll_skip (by kernel_rfl) ?_
        refine kAll_nil (fun W1 hW hF => ?_)
        have hk1 := keepD (Keep.refl _ _) hW
        clear hF hW
        go_wp2_with fail
        go_meet
        exact ⟨by unfold riseM; rw [HB1.out]; simp, Lib.hid (keep0_trans _ _ _ HK.out hk1), Lib.hid (HB.out.keep hk1 (fun h => h))⟩
      | true =>
        obtain ⟨kc, hkc⟩ : ∃ k, (Lib.compact s).length = k := ⟨_, rfl⟩
        have HKc := Lib.hid hkc
        have hn0 : s ≠ [] := fun e => by rw [e] at hl; simp at hl; omega
        clear hkc
        refine wp_region_kpre (Keep (fun g => W0.heap.size ≤ g)) (Keep (fun _ => False)) 13 12 (Keep.refl _) (keepT_trans _) (Keep.refl _) keep0_trans (fun _ _ h => h.mono fun _ _ e => e.elim) 18 (by kernel_rfl) (by kernel_rfl) (by kernel_rfl) (Ts := [none, some (.inl (.slice A n cap)), none, none, none, none, some (.inl (.slice A n cap)), some (.inl (.bool true)), none, none, none, some (.inl (.slice A n cap)), some (.inr (fun v W => ∃ (row : Option Nat) (A2 : Option Addr) (c2 : Nat), v = .slice A2 n c2 ∧ SlK W 3 1 row A2 n c2 (s.map (Value.int .i64)) ∧ ∀ g, row = some g → W0.heap.size ≤ g)), some (.inr (fun v W => ∃ (A2 : Option Addr) (c2 : Nat), v = .slice A2 kc c2)), some (.inl (.int .i64 (kc : Int))), none, some (.inl (.slice A n cap)), none]) ?_
        simp only [List.take, List.drop]
        refine kAllC_p (fun K hK => ?_)
        go_simp
        generalize hZ : (Act.mk _ _) = Z
        refine hK Z ?_
        subst hZ
        clear hK K
        refine kAllC_d _ (by decide) (fun W hW hF => kStep_of fun K Q hK => ?_) ?_
        · have hcell := (keepDT hW).cell c0 (Nat.not_le.2 HB.out.lt)
          go_simp
          exact hK _ _ (Keep.refl _ _) rfl
        refine kAllC_p (fun K hK => ?_)
        go_simp
        generalize hZ : (Act.mk _ _) = Z
        refine hK Z ?_
        subst hZ
        clear hK K
        refine kAllC_p (fun K hK => ?_)
        go_simp
        generalize hZ : (Act.mk _ _) = Z
        refine hK Z ?_
        subst hZ
        clear hK K
        refine kAllC_p (fun K hK => ?_)
        go_simp
        generalize hZ : (Act.mk _ _) = Z
        refine hK Z ?_
        subst hZ
        clear hK K
        refine kAllC_pw (by kernel_rfl) (fun K hK => ?_)
        go_simp
        generalize hZ : (Act.mk _ _) = Z
        refine hK Z ?_
        subst hZ
        clear hK K
        refine kAllC_d _ (by decide) (fun W hW hF => kStep_w (by kernel_rfl) fun K Q hK => ?_) ?_
        · have hcell := (keepDT hW).cell c0 (Nat.not_le.2 HB.out.lt)
          go_simp
          exact hK _ _ (Keep.refl _ _) rfl
        refine kAllC_d _ (by decide) (fun W hW hF => kStep_w (by kernel_rfl) fun K Q hK => ?_) ?_
        · go_simp
          refine (HS.out _ (Lib.hid (RdK.keep HR.out (keepDT hW) (fun g hg hs => by omega)))).mono ?_
          rintro e w' ⟨rfl, hk⟩
          exact hK _ _ hk rfl
        refine kAllC_p (fun K hK => ?_)
        go_simp
        generalize hZ : (Act.mk _ _) = Z
        refine hK Z ?_
        subst hZ
        clear hK K
        refine kAllC_p (fun K hK => ?_)
        go_simp
        generalize hZ : (Act.mk _ _) = Z
        refine hK Z ?_
        subst hZ
        clear hK K
        refine kAllC_pw (by kernel_rfl) (fun K hK => ?_)
        go_simp
        generalize hZ : (Act.mk _ _) = Z
        refine hK Z ?_
        subst hZ
        clear hK K
        refine kAllC_d _ (by decide) (fun W hW hF => kStep_w (by kernel_rfl) fun K Q hK => ?_) ?_
        · have hcell := (keepDT hW).cell c0 (Nat.not_le.2 HB.out.lt)
          go_simp
          exact hK _ _ (Keep.refl _ _) rfl
        refine kAllC_c _ (by decide) rfl (fun _ _ _ hk h => by obtain ⟨row, A2, c2, e, h1, h2⟩ := h; exact ⟨row, A2, c2, e, h1.keep hk (fun _ _ h => h), h2⟩) (fun W hW hF => kStep_w (by kernel_rfl) fun K Q hK => ?_) (fun u0 => ?_)
        · go_simp
          refine (clone_any A n cap s W (RdK.keep HR.out (keepDT hW) (fun g hg hs => by omega)) hn (by omega)).mono ?_
          rintro e w' ⟨row, A2, c2, rfl, h1, h2, hk⟩
          exact hK _ _ hk ⟨row, A2, c2, rfl, h1, fun g hg => Nat.le_trans (keepDT hW).size (h2 g hg)⟩
        refine kAllC_t _ rfl (fun _ _ _ _ h => h) (fun W hW hF => kStep_w (by kernel_rfl) fun K Q hK => ?_) (fun u1 => ?_)
        · obtain ⟨row, A2, c2, rfl, h1, h2⟩ := kHas_at hF 0 rfl (by kernel_rfl)
          go_simp
          refine (compact_any row A2 n c2 s W h1 hn (by omega)).mono ?_
          rintro e w' ⟨⟨A3, rfl⟩, hk⟩
          exact hK _ _ (hk.mono fun g _ hg => h2 g hg) ⟨A3, c2, by rw [HKc.out]⟩
        refine kAllC_d _ (by decide) (fun W hW hF => kStep_w (by kernel_rfl) fun K Q hK => ?_) ?_
        · obtain ⟨A2, c2, rfl⟩ := kHas_at hF 0 rfl (by kernel_rfl)
          go_simp
          exact hK _ _ (Keep.refl _ _) rfl
        refine kAllC_pw (by kernel_rfl) (fun K hK => ?_)
        go_simp
        generalize hZ : (Act.mk _ _) = Z
        refine hK Z ?_
        subst hZ
        clear hK K
        refine kAllC_d _ (by decide) (fun W hW hF => kStep_w (by kernel_rfl) fun K Q hK => ?_) ?_
        · have hcell := (keepDT hW).cell c0 (Nat.not_le.2 HB.out.lt)
          go_simp
          exact hK _ _ (Keep.refl _ _) rfl
        refine kAllC_pw (by kernel_rfl) (fun K hK => ?_)
        go_simp
        generalize hZ : (Act.mk _ _) = Z
        refine hK Z ?_
        subst hZ
        clear hK K
        refine kAllC_nil (fun W1 hW hF => ?_)
        obtain ⟨A', c', rfl⟩ : ∃ (A' : Option Addr) (c' : Nat), u1 = .slice A' kc c' := kAllHas_at hF 0 rfl
        have hk1 := keepDT hW
        have HRW := Lib.hid (RdK.keep HR.out hk1 (fun g hg hs => by omega))
        have HBW := Lib.hid (HB.out.keep hk1 (fun hs => by have := HB.out.lt; omega))
        have HKW := Lib.hid (HK.out.trans (hk1.mono fun g _ hs => .inr (by have := HK.out.size; omega)) : Keep (fun _ => False) w W1)
        clear hF hW hk1
        by_cases hd : kc = n
        · have HD := Lib.hid (show distB s = true from decide_eq_true (by rw [HKc.out, HL.out]; exact hd))
          subst hd
          have c1 := HBW.out.cell 0
          simp at c1
          go_wp2_with fail
          refine (within_any 1 12 A kc cap s W1 HRW.out hn (by omega)).mono ?_
          rintro e W2 ⟨rfl, hk2⟩
          have HK2 := Lib.hid hk2
          obtain ⟨b2, hb2⟩ : ∃ b, inB 1 12 s = b := ⟨_, rfl⟩
          have HB2 := Lib.hid hb2
          rw [hb2]
          clear hk2 hb2
          go_wp2_with fail
          go_meet
          exact ⟨by unfold riseM; rw [HB1.out, HD.out, HNn.out, HB2.out]; rfl, Lib.hid (keep0_trans _ _ _ HKW.out HK2.out), Lib.hid (HBW.out.keep HK2.out (fun h => h))⟩
        · have HD := Lib.hid (show distB s = false from decide_eq_false (by rw [HKc.out, HL.out]; exact hd))
          have qd : ¬ (kc : Int) = (n : Int) := by omega
          have qd2 : decide ((kc : Int) = (n : Int)) = false := decide_eq_false qd
          go_wp2_with fail
          go_meet
          exact ⟨by unfold riseM; rw [HD.out]; simp, HKW, HBW⟩
    · subst hn
      have q0 : ¬ (0 : Int) < ((0 : Nat) : Int) := by decide
      go_region
      go_wp2_with fail
      go_meet
      have hs0 : s = [] := List.length_eq_zero_iff.1 HL.out
      exact ⟨by rw [hs0]; rfl, Lib.hid HK.out.drew, Lib.hid (HB.out.keep ((Keep.refl (fun _ => False) _).drew) (fun h => h))⟩
  case rest =>
    obtain ⟨rfl, HK1, HB1⟩ := hcut
    obtain ⟨br, hbr⟩ : ∃ b, riseM s = b := ⟨_, rfl⟩
    have HBr := Lib.hid hbr
    rw [hbr]
    clear hbr
    have d1 := HB1.out.cell 1
    have d2 := HB1.out.cell 2
    have d3 := HB1.out.cell 3
    have d4 := HB1.out.cell 4
    have d5 := HB1.out.cell 5
    have d6 := HB1.out.cell 6
    have d7 := HB1.out.cell 7
    have d8 := HB1.out.cell 8
    have d9 := HB1.out.cell 9
    have d10 := HB1.out.cell 10
    have d11 := HB1.out.cell 11
    have d12 := HB1.out.cell 12
    have d13 := HB1.out.cell 13
    have d14 := HB1.out.cell 14
    have d15 := HB1.out.cell 15
    have d16 := HB1.out.cell 16
    simp at d1 d2 d3 d4 d5 d6 d7 d8 d9 d10 d11 d12 d13 d14 d15 d16
    go_upto_region 2 with (fail)
    go_cut [4] (fun s4 wx => s4 = .bool (timesM x2 x3 x4 x5 x6 x7 x15 x16) ∧ Hid (Keep (fun _ => False) w wx) ∧ Hid (Blk wx Bx 45 #[.slice A n cap, .int .i64 x1, .int .i64 x2, .int .i64 x3, .int .i64 x4, .int .i64 x5, .int .i64 x6, .int .i64 x7, .int .u8 x8, .int .i64 x9, .bool b10, .bool b11, .int .i64 x12, .int .i64 x13, .int .i64 x14, .int .i64 x15, .int .i64 x16]))
    case first =>
      go_wp2_with fail
      refine (within_any 1 4096 _ 7 7 [x2, x3, x4, x5, x6, x15, x16] _ (RdK.of_blk (Blk.new _ _ _) 7 1 rfl) (by decide) (by decide)).mono ?_
      rintro e v11 ⟨rfl, hk⟩
      have HK11 := Lib.hid (keep0_trans _ _ _ (HK1.out.alloc _) hk)
      have HB11 := Lib.hid ((HB1.out.keep ((Keep.refl (fun _ => False) _).alloc _) (fun h => h)).keep hk (fun h => h))
      obtain ⟨b11, hb11⟩ : ∃ b, inB 1 4096 [x2, x3, x4, x5, x6, x15, x16] = b := ⟨_, rfl⟩
      have HV11 := Lib.hid hb11
      rw [hb11]
      clear hk hb11 d1 d2 d3 d4 d5 d6 d7 d8 d9 d10 d11 d12 d13 d14 d15 d16
      have d1 := HB11.out.cell 1
      have d2 := HB11.out.cell 2
      have d3 := HB11.out.cell 3
      have d4 := HB11.out.cell 4
      have d5 := HB11.out.cell 5
      have d6 := HB11.out.cell 6
      have d7 := HB11.out.cell 7
      have d8 := HB11.out.cell 8
      have d9 := HB11.out.cell 9
      have d10 := HB11.out.cell 10
      have d11 := HB11.out.cell 11
      have d12 := HB11.out.cell 12
      have d13 := HB11.out.cell 13
      have d14 := HB11.out.cell 14
      have d15 := HB11.out.cell 15
      have d16 := HB11.out.cell 16
      simp at d1 d2 d3 d4 d5 d6 d7 d8 d9 d10 d11 d12 d13 d14 d15 d16
      cases b11 with
      | false =>
        go_wp2_with fail
        go_meet
        exact ⟨by unfold timesM; rw [HV11.out]; rfl, HK11, HB11⟩
      | true =>
        by_cases h23 : x2 ≤ x3
        · have HQ := Lib.hid h23
          go_wp2_with fail
          refine (within_any 0 4096 _ 1 1 [x7] _ (RdK.of_blk (Blk.new _ _ _) 1 1 rfl) (by decide) (by decide)).mono ?_
          rintro e v12 ⟨rfl, hk⟩
          have HK12 := Lib.hid (keep0_trans _ _ _ (HK11.out.alloc _) hk)
          have HB12 := Lib.hid ((HB11.out.keep ((Keep.refl (fun _ => False) _).alloc _) (fun h => h)).keep hk (fun h => h))
          obtain ⟨b12, hb12⟩ : ∃ b, inB 0 4096 [x7] = b := ⟨_, rfl⟩
          have HV12 := Lib.hid hb12
          rw [hb12]
          clear hk hb12 d1 d2 d3 d4 d5 d6 d7 d8 d9 d10 d11 d12 d13 d14 d15 d16
          have d1 := HB12.out.cell 1
          have d2 := HB12.out.cell 2
          have d3 := HB12.out.cell 3
          have d4 := HB12.out.cell 4
          have d5 := HB12.out.cell 5
          have d6 := HB12.out.cell 6
          have d7 := HB12.out.cell 7
          have d8 := HB12.out.cell 8
          have d9 := HB12.out.cell 9
          have d10 := HB12.out.cell 10
          have d11 := HB12.out.cell 11
          have d12 := HB12.out.cell 12
          have d13 := HB12.out.cell 13
          have d14 := HB12.out.cell 14
          have d15 := HB12.out.cell 15
          have d16 := HB12.out.cell 16
          simp at d1 d2 d3 d4 d5 d6 d7 d8 d9 d10 d11 d12 d13 d14 d15 d16
          go_wp2_with fail
          go_meet
          exact ⟨by unfold timesM; rw [HV11.out, HV12.out, decide_eq_true HQ.out]; simp, HK12, HB12⟩
        · have HQ := Lib.hid h23
          go_wp2_with fail
          go_meet
          exact ⟨by unfold timesM; rw [HV11.out, decide_eq_false (by have := HQ.out; omega : ¬ x2 ≤ x3)]; simp, HK11, HB11⟩
    case rest =>
      obtain ⟨rfl, HK2, HB2⟩ := hcut
      obtain ⟨bt, hbt⟩ : ∃ b, timesM x2 x3 x4 x5 x6 x7 x15 x16 = b := ⟨_, rfl⟩
      have HBt := Lib.hid hbt
      rw [hbt]
      clear hbt d1 d2 d3 d4 d5 d6 d7 d8 d9 d10 d11 d12 d13 d14 d15 d16
      have d1 := HB2.out.cell 1
      have d2 := HB2.out.cell 2
      have d3 := HB2.out.cell 3
      have d4 := HB2.out.cell 4
      have d5 := HB2.out.cell 5
      have d6 := HB2.out.cell 6
      have d7 := HB2.out.cell 7
      have d8 := HB2.out.cell 8
      have d9 := HB2.out.cell 9
      have d10 := HB2.out.cell 10
      have d11 := HB2.out.cell 11
      have d12 := HB2.out.cell 12
      have d13 := HB2.out.cell 13
      have d14 := HB2.out.cell 14
      have d15 := HB2.out.cell 15
      have d16 := HB2.out.cell 16
      simp at d1 d2 d3 d4 d5 d6 d7 d8 d9 d10 d11 d12 d13 d14 d15 d16
      cases br with
      | false =>
        go_wp2
        go_ret
        exact ⟨by simp [mayX, kindM, HBr.out], HK2.out⟩
      | true =>
        cases bt with
        | false =>
          go_wp2
          go_ret
          exact ⟨by simp [mayX, kindM, HBr.out, HBt.out], HK2.out⟩
        | true =>
          go_wp2_with fail
          refine (within_any 1 12 _ 1 1 [x1] _ (RdK.of_blk (Blk.new _ _ _) 1 1 rfl) (by decide) (by decide)).mono ?_
          rintro e v13 ⟨rfl, hk⟩
          have HK13 := Lib.hid (keep0_trans _ _ _ (HK2.out.alloc _) hk)
          have HB13 := Lib.hid ((HB2.out.keep ((Keep.refl (fun _ => False) _).alloc _) (fun h => h)).keep hk (fun h => h))
          obtain ⟨b13, hb13⟩ : ∃ b, inB 1 12 [x1] = b := ⟨_, rfl⟩
          have HV13 := Lib.hid hb13
          rw [hb13]
          clear hk hb13 d1 d2 d3 d4 d5 d6 d7 d8 d9 d10 d11 d12 d13 d14 d15 d16
          have d1 := HB13.out.cell 1
          have d2 := HB13.out.cell 2
          have d3 := HB13.out.cell 3
          have d4 := HB13.out.cell 4
          have d5 := HB13.out.cell 5
          have d6 := HB13.out.cell 6
          have d7 := HB13.out.cell 7
          have d8 := HB13.out.cell 8
          have d9 := HB13.out.cell 9
          have d10 := HB13.out.cell 10
          have d11 := HB13.out.cell 11
          have d12 := HB13.out.cell 12
          have d13 := HB13.out.cell 13
          have d14 := HB13.out.cell 14
          have d15 := HB13.out.cell 15
          have d16 := HB13.out.cell 16
          simp at d1 d2 d3 d4 d5 d6 d7 d8 d9 d10 d11 d12 d13 d14 d15 d16
          cases b13 with
          | false =>
            go_wp2
            go_ret
            exact ⟨by simp [mayX, kindM, HBr.out, HBt.out, HV13.out], HK13.out⟩
          | true =>
            by_cases hal : b10 = true ∧ ¬ x8 = 3
            · obtain ⟨h10, hx8⟩ := hal
              subst h10
              have HX := Lib.hid hx8
              go_wp2
              go_ret
              exact ⟨by simp [mayX, kindM, HBr.out, HBt.out, HV13.out, HX.out], HK13.out⟩
            · have h10 : b10 = false ∨ x8 = 3 := by
                cases b10
                · exact .inl rfl
                · right; simpa using hal
              clear hal
              rcases h10 with h10 | h10
              · subst h10
                by_cases e1 : x8 = 1
                · subst e1
                  go_wp2_with fail
                  refine (within_any 1 12 _ 1 1 [x9] _ (RdK.of_blk (Blk.new _ _ _) 1 1 rfl) (by decide) (by decide)).mono ?_
                  rintro e v14 ⟨rfl, hk⟩
                  have HK14 := Lib.hid (keep0_trans _ _ _ (HK13.out.alloc _) hk)
                  have HB14 := Lib.hid ((HB13.out.keep ((Keep.refl (fun _ => False) _).alloc _) (fun h => h)).keep hk (fun h => h))
                  obtain ⟨b14, hb14⟩ : ∃ b, inB 1 12 [x9] = b := ⟨_, rfl⟩
                  have HV14 := Lib.hid hb14
                  rw [hb14]
                  clear hk hb14 d1 d2 d3 d4 d5 d6 d7 d8 d9 d10 d11 d12 d13 d14 d15 d16
                  have d1 := HB14.out.cell 1
                  have d2 := HB14.out.cell 2
                  have d3 := HB14.out.cell 3
                  have d4 := HB14.out.cell 4
                  have d5 := HB14.out.cell 5
                  have d6 := HB14.out.cell 6
                  have d7 := HB14.out.cell 7
                  have d8 := HB14.out.cell 8
                  have d9 := HB14.out.cell 9
                  have d10 := HB14.out.cell 10
                  have d11 := HB14.out.cell 11
                  have d12 := HB14.out.cell 12
                  have d13 := HB14.out.cell 13
                  have d14 := HB14.out.cell 14
                  have d15 := HB14.out.cell 15
                  have d16 := HB14.out.cell 16
                  simp at d1 d2 d3 d4 d5 d6 d7 d8 d9 d10 d11 d12 d13 d14 d15 d16
                  cases b14 with
                  | false =>
                    go_wp2
                    go_ret
                    exact ⟨by simp [mayX, kindM, HBr.out, HBt.out, HV13.out, HV14.out], HK14.out⟩
                  | true =>
                    go_wp2_with fail
                    refine (within_any 0 0 _ 3 3 [x12, x13, x14] _ (RdK.of_blk (Blk.new _ _ _) 3 1 rfl) (by decide) (by decide)).mono ?_
                    rintro e v15 ⟨rfl, hk⟩
                    have HK15 := Lib.hid (keep0_trans _ _ _ (HK14.out.alloc _) hk)
                    have HB15 := Lib.hid ((HB14.out.keep ((Keep.refl (fun _ => False) _).alloc _) (fun h => h)).keep hk (fun h => h))
                    obtain ⟨b15, hb15⟩ : ∃ b, inB 0 0 [x12, x13, x14] = b := ⟨_, rfl⟩
                    have HV15 := Lib.hid hb15
                    rw [hb15]
                    clear hk hb15 d1 d2 d3 d4 d5 d6 d7 d8 d9 d10 d11 d12 d13 d14 d15 d16
                    have d1 := HB15.out.cell 1
                    have d2 := HB15.out.cell 2
                    have d3 := HB15.out.cell 3
                    have d4 := HB15.out.cell 4
                    have d5 := HB15.out.cell 5
                    have d6 := HB15.out.cell 6
                    have d7 := HB15.out.cell 7
                    have d8 := HB15.out.cell 8
                    have d9 := HB15.out.cell 9
                    have d10 := HB15.out.cell 10
                    have d11 := HB15.out.cell 11
                    have d12 := HB15.out.cell 12
                    have d13 := HB15.out.cell 13
                    have d14 := HB15.out.cell 14
                    have d15 := HB15.out.cell 15
                    have d16 := HB15.out.cell 16
                    simp at d1 d2 d3 d4 d5 d6 d7 d8 d9 d10 d11 d12 d13 d14 d15 d16
                    go_wp2
                    go_ret
                    exact ⟨by simp [mayX, kindM, HBr.out, HBt.out, HV13.out, HV14.out, HV15.out], HK15.out⟩
                · by_cases e2 : x8 = 2
                  · subst e2
                    go_wp2_with fail
                    refine (within_any 0 0 _ 4 4 [x9, x12, x13, x14] _ (RdK.of_blk (Blk.new _ _ _) 4 1 rfl) (by decide) (by decide)).mono ?_
                    rintro e v16 ⟨rfl, hk⟩
                    have HK16 := Lib.hid (keep0_trans _ _ _ (HK13.out.alloc _) hk)
                    have HB16 := Lib.hid ((HB13.out.keep ((Keep.refl (fun _ => False) _).alloc _) (fun h => h)).keep hk (fun h => h))
                    obtain ⟨b16, hb16⟩ : ∃ b, inB 0 0 [x9, x12, x13, x14] = b := ⟨_, rfl⟩
                    have HV16 := Lib.hid hb16
                    rw [hb16]
                    clear hk hb16 d1 d2 d3 d4 d5 d6 d7 d8 d9 d10 d11 d12 d13 d14 d15 d16
                    have d1 := HB16.out.cell 1
                    have d2 := HB16.out.cell 2
                    have d3 := HB16.out.cell 3
                    have d4 := HB16.out.cell 4
                    have d5 := HB16.out.cell 5
                    have d6 := HB16.out.cell 6
                    have d7 := HB16.out.cell 7
                    have d8 := HB16.out.cell 8
                    have d9 := HB16.out.cell 9
                    have d10 := HB16.out.cell 10
                    have d11 := HB16.out.cell 11
                    have d12 := HB16.out.cell 12
                    have d13 := HB16.out.cell 13
                    have d14 := HB16.out.cell 14
                    have d15 := HB16.out.cell 15
                    have d16 := HB16.out.cell 16
                    simp at d1 d2 d3 d4 d5 d6 d7 d8 d9 d10 d11 d12 d13 d14 d15 d16
                    go_wp2
                    go_ret
                    exact ⟨by simp [mayX, kindM, HBr.out, HBt.out, HV13.out, HV16.out], HK16.out⟩
                  · by_cases e3 : x8 = 3
                    · subst e3
                      go_wp2_with fail
                      refine (within_any 0 0 _ 4 4 [x9, x12, x13, x14] _ (RdK.of_blk (Blk.new _ _ _) 4 1 rfl) (by decide) (by decide)).mono ?_
                      rintro e v17 ⟨rfl, hk⟩
                      have HK17 := Lib.hid (keep0_trans _ _ _ (HK13.out.alloc _) hk)
                      have HB17 := Lib.hid ((HB13.out.keep ((Keep.refl (fun _ => False) _).alloc _) (fun h => h)).keep hk (fun h => h))
                      obtain ⟨b17, hb17⟩ : ∃ b, inB 0 0 [x9, x12, x13, x14] = b := ⟨_, rfl⟩
                      have HV17 := Lib.hid hb17
                      rw [hb17]
                      clear hk hb17 d1 d2 d3 d4 d5 d6 d7 d8 d9 d10 d11 d12 d13 d14 d15 d16
                      have d1 := HB17.out.cell 1
                      have d2 := HB17.out.cell 2
                      have d3 := HB17.out.cell 3
                      have d4 := HB17.out.cell 4
                      have d5 := HB17.out.cell 5
                      have d6 := HB17.out.cell 6
                      have d7 := HB17.out.cell 7
                      have d8 := HB17.out.cell 8
                      have d9 := HB17.out.cell 9
                      have d10 := HB17.out.cell 10
                      have d11 := HB17.out.cell 11
                      have d12 := HB17.out.cell 12
                      have d13 := HB17.out.cell 13
                      have d14 := HB17.out.cell 14
                      have d15 := HB17.out.cell 15
                      have d16 := HB17.out.cell 16
                      simp at d1 d2 d3 d4 d5 d6 d7 d8 d9 d10 d11 d12 d13 d14 d15 d16
                      go_wp2
                      go_ret
                      exact ⟨by simp [mayX, kindM, HBr.out, HBt.out, HV13.out, HV17.out], HK17.out⟩
                    · by_cases e4 : x8 = 4
                      · subst e4
                        by_cases h9 : x9 = 0
                        · have H9 := Lib.hid h9
                          go_wp2_with fail
                          refine (within_any 0 4096 _ 1 1 [x12] _ (RdK.of_blk (Blk.new _ _ _) 1 1 rfl) (by decide) (by decide)).mono ?_
                          rintro e v18 ⟨rfl, hk⟩
                          have HK18 := Lib.hid (keep0_trans _ _ _ (HK13.out.alloc _) hk)
                          have HB18 := Lib.hid ((HB13.out.keep ((Keep.refl (fun _ => False) _).alloc _) (fun h => h)).keep hk (fun h => h))
                          obtain ⟨b18, hb18⟩ : ∃ b, inB 0 4096 [x12] = b := ⟨_, rfl⟩
                          have HV18 := Lib.hid hb18
                          rw [hb18]
                          clear hk hb18 d1 d2 d3 d4 d5 d6 d7 d8 d9 d10 d11 d12 d13 d14 d15 d16
                          have d1 := HB18.out.cell 1
                          have d2 := HB18.out.cell 2
                          have d3 := HB18.out.cell 3
                          have d4 := HB18.out.cell 4
                          have d5 := HB18.out.cell 5
                          have d6 := HB18.out.cell 6
                          have d7 := HB18.out.cell 7
                          have d8 := HB18.out.cell 8
                          have d9 := HB18.out.cell 9
                          have d10 := HB18.out.cell 10
                          have d11 := HB18.out.cell 11
                          have d12 := HB18.out.cell 12
                          have d13 := HB18.out.cell 13
                          have d14 := HB18.out.cell 14
                          have d15 := HB18.out.cell 15
                          have d16 := HB18.out.cell 16
                          simp at d1 d2 d3 d4 d5 d6 d7 d8 d9 d10 d11 d12 d13 d14 d15 d16
                          cases b18 with
                          | false =>
                            go_wp2
                            go_ret
                            exact ⟨by simp [mayX, kindM, HBr.out, HBt.out, HV13.out, H9.out, HV18.out], HK18.out⟩
                          | true =>
                            go_wp2_with fail
                            refine (within_any 1 4096 _ 2 2 [x13, x14] _ (RdK.of_blk (Blk.new _ _ _) 2 1 rfl) (by decide) (by decide)).mono ?_
                            rintro e v19 ⟨rfl, hk⟩
                            have HK19 := Lib.hid (keep0_trans _ _ _ (HK18.out.alloc _) hk)
                            have HB19 := Lib.hid ((HB18.out.keep ((Keep.refl (fun _ => False) _).alloc _) (fun h => h)).keep hk (fun h => h))
                            obtain ⟨b19, hb19⟩ : ∃ b, inB 1 4096 [x13, x14] = b := ⟨_, rfl⟩
                            have HV19 := Lib.hid hb19
                            rw [hb19]
                            clear hk hb19 d1 d2 d3 d4 d5 d6 d7 d8 d9 d10 d11 d12 d13 d14 d15 d16
                            have d1 := HB19.out.cell 1
                            have d2 := HB19.out.cell 2
                            have d3 := HB19.out.cell 3
                            have d4 := HB19.out.cell 4
                            have d5 := HB19.out.cell 5
                            have d6 := HB19.out.cell 6
                            have d7 := HB19.out.cell 7
                            have d8 := HB19.out.cell 8
                            have d9 := HB19.out.cell 9
                            have d10 := HB19.out.cell 10
                            have d11 := HB19.out.cell 11
                            have d12 := HB19.out.cell 12
                            have d13 := HB19.out.cell 13
                            have d14 := HB19.out.cell 14
                            have d15 := HB19.out.cell 15
                            have d16 := HB19.out.cell 16
                            simp at d1 d2 d3 d4 d5 d6 d7 d8 d9 d10 d11 d12 d13 d14 d15 d16
                            cases b19 with
                            | false =>
                              go_wp2
                              go_ret
                              exact ⟨by simp [mayX, kindM, HBr.out, HBt.out, HV13.out, H9.out, HV18.out, HV19.out], HK19.out⟩
                            | true =>
                              go_wp2
                              go_ret
                              exact ⟨by simp [mayX, kindM, HBr.out, HBt.out, HV13.out, H9.out, HV18.out, HV19.out], HK19.out⟩
                        · have H9 := Lib.hid h9
                          go_wp2
                          go_ret
                          exact ⟨by simp [mayX, kindM, HBr.out, HBt.out, HV13.out, H9.out], HK13.out⟩
                      · have E1 := Lib.hid e1
                        have E2 := Lib.hid e2
                        have E3 := Lib.hid e3
                        have E4 := Lib.hid e4
                        go_wp2
                        go_ret
                        exact ⟨by simp [mayX, kindM, HBr.out, HBt.out, HV13.out, E1.out, E2.out, E3.out, E4.out], HK13.out⟩
              · subst h10
                cases b10 with
                | false =>
                  go_wp2_with fail
                  refine (within_any 0 0 _ 4 4 [x9, x12, x13, x14] _ (RdK.of_blk (Blk.new _ _ _) 4 1 rfl) (by decide) (by decide)).mono ?_
                  rintro e v20 ⟨rfl, hk⟩
                  have HK20 := Lib.hid (keep0_trans _ _ _ (HK13.out.alloc _) hk)
                  have HB20 := Lib.hid ((HB13.out.keep ((Keep.refl (fun _ => False) _).alloc _) (fun h => h)).keep hk (fun h => h))
                  obtain ⟨b20, hb20⟩ : ∃ b, inB 0 0 [x9, x12, x13, x14] = b := ⟨_, rfl⟩
                  have HV20 := Lib.hid hb20
                  rw [hb20]
                  clear hk hb20 d1 d2 d3 d4 d5 d6 d7 d8 d9 d10 d11 d12 d13 d14 d15 d16
                  have d1 := HB20.out.cell 1
                  have d2 := HB20.out.cell 2
                  have d3 := HB20.out.cell 3
                  have d4 := HB20.out.cell 4
                  have d5 := HB20.out.cell 5
                  have d6 := HB20.out.cell 6
                  have d7 := HB20.out.cell 7
                  have d8 := HB20.out.cell 8
                  have d9 := HB20.out.cell 9
                  have d10 := HB20.out.cell 10
                  have d11 := HB20.out.cell 11
                  have d12 := HB20.out.cell 12
                  have d13 := HB20.out.cell 13
                  have d14 := HB20.out.cell 14
                  have d15 := HB20.out.cell 15
                  have d16 := HB20.out.cell 16
                  simp at d1 d2 d3 d4 d5 d6 d7 d8 d9 d10 d11 d12 d13 d14 d15 d16
                  go_wp2
                  go_ret
                  exact ⟨by simp [mayX, kindM, HBr.out, HBt.out, HV13.out, HV20.out], HK20.out⟩
                | true =>
                  go_wp2_with fail
                  refine (within_any 0 0 _ 4 4 [x9, x12, x13, x14] _ (RdK.of_blk (Blk.new _ _ _) 4 1 rfl) (by decide) (by decide)).mono ?_
                  rintro e v21 ⟨rfl, hk⟩
                  have HK21 := Lib.hid (keep0_trans _ _ _ (HK13.out.alloc _) hk)
                  have HB21 := Lib.hid ((HB13.out.keep ((Keep.refl (fun _ => False) _).alloc _) (fun h => h)).keep hk (fun h => h))
                  obtain ⟨b21, hb21⟩ : ∃ b, inB 0 0 [x9, x12, x13, x14] = b := ⟨_, rfl⟩
                  have HV21 := Lib.hid hb21
                  rw [hb21]
                  clear hk hb21 d1 d2 d3 d4 d5 d6 d7 d8 d9 d10 d11 d12 d13 d14 d15 d16
                  have d1 := HB21.out.cell 1
                  have d2 := HB21.out.cell 2
                  have d3 := HB21.out.cell 3
                  have d4 := HB21.out.cell 4
                  have d5 := HB21.out.cell 5
                  have d6 := HB21.out.cell 6
                  have d7 := HB21.out.cell 7
                  have d8 := HB21.out.cell 8
                  have d9 := HB21.out.cell 9
                  have d10 := HB21.out.cell 10
                  have d11 := HB21.out.cell 11
                  have d12 := HB21.out.cell 12
                  have d13 := HB21.out.cell 13
                  have d14 := HB21.out.cell 14
                  have d15 := HB21.out.cell 15
                  have d16 := HB21.out.cell 16
                  simp at d1 d2 d3 d4 d5 d6 d7 d8 d9 d10 d11 d12 d13 d14 d15 d16
                  go_wp2
                  go_ret
                  exact ⟨by simp [mayX, kindM, HBr.out, HBt.out, HV13.out, HV21.out], HK21.out⟩
end Go.Proofs.YtlfpefnlgiohbaaGreat
