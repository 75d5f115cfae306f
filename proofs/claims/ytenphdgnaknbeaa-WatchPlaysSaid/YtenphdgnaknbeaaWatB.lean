/-
  (*watch.Watch).Heard. Written by gen_b.py.
-/
import Derived.Test.YtenphdgnaknbeaaWatA
import Derived.Test.YtenphdgnaknbeaaKrip
import Derived.Test.YtenphdgnaknbeaaKrip2
namespace Go.Proofs.Ytenphdgnaknbeaa
open Go.RowKit
attribute [local irreducible] kAll
attribute [local go_sem] kQuiet kQuietUpon
set_option maxRecDepth 100000

set_option maxHeartbeats 1000000 in
theorem wheard_none {w : World} {b n : Nat} {S : Nat → Prop} {mn mx wd : Int} {m : M} (h : Wt w b n S mn mx wd m) {x : ID} (hx : wfI x) (hm : m x = none) (now : Int) :
    Calls Try.prog 12 #[.pointer (some ⟨b, 0, none⟩), idV x, .int .i64 now] w (Tell (.bool false) w) := by
  obtain ⟨mb, f, ρ, hb, hM, hSb, hSm, hD⟩ := h
  obtain ⟨a, i⟩ := x
  have HW := Lib.hid hx
  have HSb := Lib.hid hSb
  have HSm := Lib.hid hSm
  have HD := Lib.hid hD
  have HM := Lib.hid hM
  have HB := Lib.hid hb
  have hI := Blk.new w 33 #[.int .i64 a, .int .i64 i]
  have HI := Lib.hid hI
  have hk0 := (Keep.refl (fun _ => False) w).alloc (.cells #[.int .i64 a, .int .i64 i] 33)
  have HK0 := Lib.hid hk0
  clear hb hM hSb hSm hD hI hk0 hx
  have HF := Lib.hid ((HD.out.dom (a, i)).2 hm)
  clear hm
  go_enter Try.func12, Try.ntmps12
  go_upto_region 1 with (fail)
  refine wp_region_krip (Keep (fun _ => False)) (Keep.refl _) keep0_trans 11 (by kernel_rfl) (by kernel_rfl) (Ts := [none, none, none, none, none, none, some (.inl (.map (some mb))), some (.inl (idV (a, i))), some (.inl (.pointer none)), none, none]) ?_
  simp only [List.take, List.drop]
  refine kAll_p (fun K hK => ?_)
  go_simp
  generalize hZ : (Act.mk _ _) = Z
  refine hK Z ?_
  subst hZ
  clear hK K
  refine kAll_p (fun K hK => ?_)
  go_simp
  generalize hZ : (Act.mk _ _) = Z
  refine hK Z ?_
  subst hZ
  clear hK K
  refine kAll_p (fun K hK => ?_)
  go_simp
  generalize hZ : (Act.mk _ _) = Z
  refine hK Z ?_
  subst hZ
  clear hK K
  refine kAll_pw (by kernel_rfl) (fun K hK => ?_)
  go_simp
  generalize hZ : (Act.mk _ _) = Z
  refine hK Z ?_
  subst hZ
  clear hK K
  refine kAll_pw (by kernel_rfl) (fun K hK => ?_)
  go_simp
  generalize hZ : (Act.mk _ _) = Z
  refine hK Z ?_
  subst hZ
  clear hK K
  refine kAll_pw (by kernel_rfl) (fun K hK => ?_)
  go_simp
  generalize hZ : (Act.mk _ _) = Z
  refine hK Z ?_
  subst hZ
  clear hK K
  refine kAll_d _ (fun W hW hF => kStep_w (by kernel_rfl) fun K Q hK => ?_) ?_
  · have hcell := (HB.out.keep (keep0_trans _ _ _ HK0.out (keepD (Keep.refl _ _) hW)) (fun h => h)).cell 3
    simp at hcell
    go_simp
    exact hK _ _ (Keep.refl _ _) rfl
  refine kAll_d _ (fun W hW hF => kStep_w (by kernel_rfl) fun K Q hK => ?_) ?_
  · have e0 := (HI.out.drew.keep hW (fun h => h)).cell 0
    have e1 := (HI.out.drew.keep hW (fun h => h)).cell 1
    simp at e0 e1
    go_simp
    exact hK _ _ (Keep.refl _ _) rfl
  refine kAll_d _ (fun W hW hF => kStep_w (by kernel_rfl) fun K Q hK => ?_) ?_
  · have hl := (HM.out.keep (keep0_trans _ _ _ HK0.out (keepD (Keep.refl _ _) hW)) (fun h => h)).look HW.out
    rw [HF.out] at hl
    simp only [ptrV, idV] at hl
    go_simp
    exact hK _ _ (Keep.refl _ _) rfl
  refine kAll_pw (by kernel_rfl) (fun K hK => ?_)
  go_simp
  generalize hZ : (Act.mk _ _) = Z
  refine hK Z ?_
  subst hZ
  clear hK K
  refine kAll_p (fun K hK => ?_)
  go_simp
  generalize hZ : (Act.mk _ _) = Z
  refine hK Z ?_
  subst hZ
  clear hK K
  refine kAll_nil (fun W hW hF => ?_)
  have HKW := Lib.hid (keep0_trans _ _ _ HK0.out (keepD (Keep.refl _ _) hW))
  clear hF hW HF
  go_wp2
  go_ret
  exact ⟨rfl, HKW.out⟩
set_option maxHeartbeats 1000000 in
theorem wheard_some {w : World} {b n : Nat} {S : Nat → Prop} {mn mx wd : Int} {m : M} (h : Wt w b n S mn mx wd m) {x : ID} (hx : wfI x) {d : D} (hm : m x = some d) (now : Int) :
    Calls Try.prog 12 #[.pointer (some ⟨b, 0, none⟩), idV x, .int .i64 now] w fun e w' => e = .returned (.bool true) ∧ ∃ S', Wt w' b n S' mn mx wd (updM m x (d.heard now)) ∧ (∀ g, S' g → S g ∨ w.heap.size ≤ g) ∧ Keep S w w' := by
  obtain ⟨mb, f, ρ, hb, hM, hSb, hSm, hD⟩ := h
  obtain ⟨a, i⟩ := x
  have HW := Lib.hid hx
  have HSb := Lib.hid hSb
  have HSm := Lib.hid hSm
  have HD := Lib.hid hD
  have HM := Lib.hid hM
  have HB := Lib.hid hb
  have hI := Blk.new w 33 #[.int .i64 a, .int .i64 i]
  have HI := Lib.hid hI
  have hk0 := (Keep.refl (fun _ => False) w).alloc (.cells #[.int .i64 a, .int .i64 i] 33)
  have HK0 := Lib.hid hk0
  clear hb hM hSb hSm hD hI hk0 hx
  obtain ⟨g, hf⟩ : ∃ g, f (a, i) = some g := by
    cases hq : f (a, i) with
    | none => rw [(HD.out.dom (a, i)).1 hq] at hm; cases hm
    | some g => exact ⟨g, rfl⟩
  have HF := Lib.hid hf
  have HMx := Lib.hid hm
  clear hm hf
  go_enter Try.func12, Try.ntmps12
  go_upto_region 1 with (fail)
  refine wp_region_krip (Keep (fun _ => False)) (Keep.refl _) keep0_trans 11 (by kernel_rfl) (by kernel_rfl) (Ts := [none, none, none, none, none, none, some (.inl (.map (some mb))), some (.inl (idV (a, i))), some (.inl (.pointer (some ⟨g, 0, none⟩))), none, none]) ?_
  simp only [List.take, List.drop]
  refine kAll_p (fun K hK => ?_)
  go_simp
  generalize hZ : (Act.mk _ _) = Z
  refine hK Z ?_
  subst hZ
  clear hK K
  refine kAll_p (fun K hK => ?_)
  go_simp
  generalize hZ : (Act.mk _ _) = Z
  refine hK Z ?_
  subst hZ
  clear hK K
  refine kAll_p (fun K hK => ?_)
  go_simp
  generalize hZ : (Act.mk _ _) = Z
  refine hK Z ?_
  subst hZ
  clear hK K
  refine kAll_pw (by kernel_rfl) (fun K hK => ?_)
  go_simp
  generalize hZ : (Act.mk _ _) = Z
  refine hK Z ?_
  subst hZ
  clear hK K
  refine kAll_pw (by kernel_rfl) (fun K hK => ?_)
  go_simp
  generalize hZ : (Act.mk _ _) = Z
  refine hK Z ?_
  subst hZ
  clear hK K
  refine kAll_pw (by kernel_rfl) (fun K hK => ?_)
  go_simp
  generalize hZ : (Act.mk _ _) = Z
  refine hK Z ?_
  subst hZ
  clear hK K
  refine kAll_d _ (fun W hW hF => kStep_w (by kernel_rfl) fun K Q hK => ?_) ?_
  · have hcell := (HB.out.keep (keep0_trans _ _ _ HK0.out (keepD (Keep.refl _ _) hW)) (fun h => h)).cell 3
    simp at hcell
    go_simp
    exact hK _ _ (Keep.refl _ _) rfl
  refine kAll_d _ (fun W hW hF => kStep_w (by kernel_rfl) fun K Q hK => ?_) ?_
  · have e0 := (HI.out.drew.keep hW (fun h => h)).cell 0
    have e1 := (HI.out.drew.keep hW (fun h => h)).cell 1
    simp at e0 e1
    go_simp
    exact hK _ _ (Keep.refl _ _) rfl
  refine kAll_d _ (fun W hW hF => kStep_w (by kernel_rfl) fun K Q hK => ?_) ?_
  · have hl := (HM.out.keep (keep0_trans _ _ _ HK0.out (keepD (Keep.refl _ _) hW)) (fun h => h)).look HW.out
    rw [HF.out] at hl
    simp only [ptrV, idV] at hl
    go_simp
    exact hK _ _ (Keep.refl _ _) rfl
  refine kAll_pw (by kernel_rfl) (fun K hK => ?_)
  go_simp
  generalize hZ : (Act.mk _ _) = Z
  refine hK Z ?_
  subst hZ
  clear hK K
  refine kAll_p (fun K hK => ?_)
  go_simp
  generalize hZ : (Act.mk _ _) = Z
  refine hK Z ?_
  subst hZ
  clear hK K
  refine kAll_nil (fun W1 hW hF => ?_)
  have HK1 := Lib.hid (keep0_trans _ _ _ HK0.out (keepD (Keep.refl _ _) hW))
  have HI1 := Lib.hid (HI.out.drew.keep hW (fun h => h))
  clear hF hW HK0 HI
  go_upto_region 3 with (fail)
  refine wp_region_krip (Keep (fun _ => False)) (Keep.refl _) keep0_trans 7 (by kernel_rfl) (by kernel_rfl) (Ts := [none, none, none, some (.inl (.map (some mb))), some (.inl (idV (a, i))), some (.inl (.pointer (some ⟨g, 0, none⟩))), none]) ?_
  simp only [List.take, List.drop]
  refine kAll_p (fun K hK => ?_)
  go_simp
  generalize hZ : (Act.mk _ _) = Z
  refine hK Z ?_
  subst hZ
  clear hK K
  refine kAll_p (fun K hK => ?_)
  go_simp
  generalize hZ : (Act.mk _ _) = Z
  refine hK Z ?_
  subst hZ
  clear hK K
  refine kAll_p (fun K hK => ?_)
  go_simp
  generalize hZ : (Act.mk _ _) = Z
  refine hK Z ?_
  subst hZ
  clear hK K
  refine kAll_d _ (fun W hW hF => kStep_of fun K Q hK => ?_) ?_
  · have hcell := (HB.out.keep (keep0_trans _ _ _ HK1.out (keepD (Keep.refl _ _) hW)) (fun h => h)).cell 3
    simp at hcell
    go_simp
    exact hK _ _ (Keep.refl _ _) rfl
  refine kAll_d _ (fun W hW hF => kStep_of fun K Q hK => ?_) ?_
  · have e0 := (HI1.out.drew.keep hW (fun h => h)).cell 0
    have e1 := (HI1.out.drew.keep hW (fun h => h)).cell 1
    simp at e0 e1
    go_simp
    exact hK _ _ (Keep.refl _ _) rfl
  refine kAll_d _ (fun W hW hF => kStep_of fun K Q hK => ?_) ?_
  · have hl := (HM.out.keep (keep0_trans _ _ _ HK1.out (keepD (Keep.refl _ _) hW)) (fun h => h)).look HW.out
    rw [HF.out] at hl
    simp only [ptrV, idV] at hl
    go_simp
    exact hK _ _ (Keep.refl _ _) rfl
  refine kAll_p (fun K hK => ?_)
  go_simp
  generalize hZ : (Act.mk _ _) = Z
  refine hK Z ?_
  subst hZ
  clear hK K
  refine kAll_nil (fun W2 hW hF => ?_)
  have HK2 := Lib.hid (keep0_trans _ _ _ HK1.out (keepD (Keep.refl _ _) hW))
  clear hF hW HK1 HI1
  obtain ⟨h1, h2, h3, h4⟩ := HD.out.has _ g d HF.out HMx.out
  go_wp2_with fail
  refine (heard_any g (ρ (a, i)) d now W2 (h1.keepS HK2.out (fun h => h) (fun _ _ h => h)) h2).mono ?_
  intro e w3 ht
  obtain ⟨rfl, hb3, hM3, ⟨ρ', hD3⟩, hk3⟩ := wt_turn (HB.out.keep HK2.out (fun h => h)) (HM.out.keep HK2.out (fun h => h)) (HD.out.keep0 HK2.out) HF.out HMx.out (h2.heard now) ht
  have HQ := Lib.hid (show ∃ S', Wt w3 b n S' mn mx wd (updM m (a, i) (d.heard now)) ∧ (∀ g, S' g → S g ∨ w.heap.size ≤ g) ∧ Keep S w w3 from
    ⟨_, ⟨mb, f, ρ', hb3, hM3, .inl HSb.out, .inl HSm.out, hD3⟩, fun q hq => hq.imp id fun h => Nat.le_trans HK2.out.size h.1, keepS0 HK2.out hk3⟩)
  clear ht hb3 hM3 hD3 hk3 h1 h2 h3 h4
  go_wp2
  go_ret
  exact ⟨rfl, HQ.out⟩
set_option maxHeartbeats 1000000 in
theorem wheard_nil (x : ID) (now : Int) (w : World) : Calls Try.prog 12 #[.pointer none, idV x, .int .i64 now] w (Tell (.bool false) w) := by
  obtain ⟨a, i⟩ := x
  have hk0 := (Keep.refl (fun _ => False) w).alloc (.cells #[.int .i64 a, .int .i64 i] 33)
  have HK0 := Lib.hid hk0
  clear hk0
  go_enter Try.func12, Try.ntmps12
  go_upto_region 1 with (fail)
  refine wp_region_krip (Keep (fun _ => False)) (Keep.refl _) keep0_trans 11 (by kernel_rfl) (by kernel_rfl) (Ts := [none, none, none, none, none, none, none, none, none, none, none]) ?_
  simp only [List.take, List.drop]
  refine kAll_p (fun K hK => ?_)
  go_simp
  generalize hZ : (Act.mk _ _) = Z
  refine hK Z ?_
  subst hZ
  clear hK K
  refine kAll_p (fun K hK => ?_)
  go_simp
  generalize hZ : (Act.mk _ _) = Z
  refine hK Z ?_
  subst hZ
  clear hK K
  refine kAll_p (fun K hK => ?_)
  go_simp
  generalize hZ : (Act.mk _ _) = Z
  refine hK Z ?_
  subst hZ
  clear hK K
  refine kAll_skip (by kernel_rfl) ?_
  refine kAll_skip (by kernel_rfl) ?_
  refine kAll_skip (by kernel_rfl) ?_
  refine kAll_skip (by kernel_rfl) ?_
  refine kAll_skip (by kernel_rfl) ?_
  refine kAll_skip (by kernel_rfl) ?_
  refine kAll_skip (by kernel_rfl) ?_
  refine kAll_p (fun K hK => ?_)
  go_simp
  generalize hZ : (Act.mk _ _) = Z
  refine hK Z ?_
  subst hZ
  clear hK K
  refine kAll_nil (fun W hW hF => ?_)
  have HKW := Lib.hid (keep0_trans _ _ _ HK0.out (keepD (Keep.refl _ _) hW))
  clear hF hW
  go_wp2
  go_ret
  exact ⟨rfl, HKW.out⟩
end Go.Proofs.Ytenphdgnaknbeaa
