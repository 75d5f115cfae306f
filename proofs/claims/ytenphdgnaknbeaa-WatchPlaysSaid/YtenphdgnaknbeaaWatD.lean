/-
  accrual's Copy of a detector; (*watch.Watch).Copy. Written by gen_d.py.
-/
import Derived.Test.YtenphdgnaknbeaaWatA
import Derived.Test.YtenphdgnaknbeaaDetCopy
import Derived.Test.YtenphdgnaknbeaaKrip
import Derived.Test.YtenphdgnaknbeaaKrip2
namespace Go.Proofs.Ytenphdgnaknbeaa
open Go.RowKit
attribute [local irreducible] kAll
attribute [local go_sem] kQuiet kQuietUpon
set_option maxRecDepth 100000

theorem run_makeMap_hint (k : Int) (w : World) : (Instr.makeMap 55 (some (.int .i64 k))).run Try.prog w = .ok (.map (some w.heap.size)) (w.alloc (.map #[] 0)) := by
  simp [Instr.makeMap, run_underlying Try.underlying55, asInt, asIntOf, Result.andThen]

set_option maxHeartbeats 4000000 in
theorem wcopy_any {w : World} {b n : Nat} {S : Nat → Prop} {mn mx wd : Int} {m : M} (h : Wt w b n S mn mx wd m) (hn : n ≤ 1000000) :
    Calls Try.prog 18 #[.pointer (some ⟨b, 0, none⟩)] w fun e w' => ∃ b' S', e = .returned (.pointer (some ⟨b', 0, none⟩)) ∧ Wt w' b' n S' mn mx wd m ∧ (∀ g, S' g → w.heap.size ≤ g) ∧ Keep (fun _ => False) w w' := by
  obtain ⟨mb, f, ρ, hb, hM, hSb, hSm, hD⟩ := h
  have HD := Lib.hid hD
  have HM := Lib.hid hM
  have HB := Lib.hid hb
  clear hb hM hSb hSm hD
  go_enter Try.func18, Try.ntmps18
  go_upto_region 3 with (fail)
  obtain ⟨k0, hk0, hlen⟩ := HM.out.len 3
  refine wp_region_krip (Keep (fun _ => False)) (Keep.refl _) keep0_trans 18 (by kernel_rfl) (by kernel_rfl) (Ts := [none, none, none, some (.inl (.int .i64 mn)), none, none, none, some (.inl (.int .i64 mx)), none, none, none, some (.inl (.int .i64 wd)), none, none, none, some (.inl (.map (some mb))), some (.inr (fun v _ => ∃ k : Nat, v = .int .i64 (k : Int))), some (.inr (fun v W => ∃ g, v = .map (some g) ∧ w.heap.size ≤ g ∧ MapI W g 0 (fun _ => none)))]) ?_
  simp only [List.take, List.drop]
  refine kAll_p (fun K hK => ?_)
  go_simp
  generalize hZ : (Act.mk _ _) = Z
  refine hK Z ?_
  subst hZ
  clear hK K
  refine kAll_p (fun K hK => ?_)
  go_simp
  generalize hZ : (Act.mk _ _) = Z
  refine hK Z ?_
  subst hZ
  clear hK K
  refine kAll_p (fun K hK => ?_)
  go_simp
  generalize hZ : (Act.mk _ _) = Z
  refine hK Z ?_
  subst hZ
  clear hK K
  refine kAll_d _ (fun W hW hF => kStep_of fun K Q hK => ?_) ?_
  · have hcell := (HB.out.drew.keep hW (fun h => h)).cell 0
    simp at hcell
    go_simp
    exact hK _ _ (Keep.refl _ _) rfl
  refine kAll_p (fun K hK => ?_)
  go_simp
  generalize hZ : (Act.mk _ _) = Z
  refine hK Z ?_
  subst hZ
  clear hK K
  refine kAll_p (fun K hK => ?_)
  go_simp
  generalize hZ : (Act.mk _ _) = Z
  refine hK Z ?_
  subst hZ
  clear hK K
  refine kAll_p (fun K hK => ?_)
  go_simp
  generalize hZ : (Act.mk _ _) = Z
  refine hK Z ?_
  subst hZ
  clear hK K
  refine kAll_d _ (fun W hW hF => kStep_of fun K Q hK => ?_) ?_
  · have hcell := (HB.out.drew.keep hW (fun h => h)).cell 1
    simp at hcell
    go_simp
    exact hK _ _ (Keep.refl _ _) rfl
  refine kAll_p (fun K hK => ?_)
  go_simp
  generalize hZ : (Act.mk _ _) = Z
  refine hK Z ?_
  subst hZ
  clear hK K
  refine kAll_p (fun K hK => ?_)
  go_simp
  generalize hZ : (Act.mk _ _) = Z
  refine hK Z ?_
  subst hZ
  clear hK K
  refine kAll_p (fun K hK => ?_)
  go_simp
  generalize hZ : (Act.mk _ _) = Z
  refine hK Z ?_
  subst hZ
  clear hK K
  refine kAll_d _ (fun W hW hF => kStep_of fun K Q hK => ?_) ?_
  · have hcell := (HB.out.drew.keep hW (fun h => h)).cell 2
    simp at hcell
    go_simp
    exact hK _ _ (Keep.refl _ _) rfl
  refine kAll_p (fun K hK => ?_)
  go_simp
  generalize hZ : (Act.mk _ _) = Z
  refine hK Z ?_
  subst hZ
  clear hK K
  refine kAll_p (fun K hK => ?_)
  go_simp
  generalize hZ : (Act.mk _ _) = Z
  refine hK Z ?_
  subst hZ
  clear hK K
  refine kAll_p (fun K hK => ?_)
  go_simp
  generalize hZ : (Act.mk _ _) = Z
  refine hK Z ?_
  subst hZ
  clear hK K
  refine kAll_d _ (fun W hW hF => kStep_of fun K Q hK => ?_) ?_
  · have hcell := (HB.out.drew.keep hW (fun h => h)).cell 3
    simp at hcell
    go_simp
    exact hK _ _ (Keep.refl _ _) rfl
  refine kAll_t _ (fun _ _ _ _ h => h) (fun W hW hF => kStep_of fun K Q hK => ?_) (fun u0 => ?_)
  · obtain ⟨k1, _, hlen⟩ := (HM.out.keep (keepD (Keep.refl _ _) hW) (fun h => h)).len 3
    go_simp
    exact hK _ _ (Keep.refl _ _) ⟨_, rfl⟩
  refine kAll_t _ (fun _ _ _ hk h => by obtain ⟨g, e, h1, h2⟩ := h; exact ⟨g, e, h1, h2.keep hk (fun h => h)⟩) (fun W hW hF => kStep_of fun K Q hK => ?_) (fun u1 => ?_)
  · obtain ⟨k, rfl⟩ := kHas_at hF 0 rfl (by kernel_rfl)
    go_simp
    have hmm := run_makeMap_hint (k : Int) W
    go_simp
    exact hK _ _ ((Keep.refl _ _).alloc _) ⟨_, rfl, by have := hW.size; simpa using this, MapI.made W⟩
  refine kAll_nil (fun W1 hW hF => ?_)
  obtain ⟨mc, rfl, hmc, hMc⟩ : ∃ g, u1 = .map (some g) ∧ w.heap.size ≤ g ∧ MapI W1 g 0 (fun _ => none) := kAllHas_at hF 0 rfl
  have HK1 := Lib.hid (keepD (Keep.refl _ _) hW)
  have HMc := Lib.hid hMc
  have HHmc := Lib.hid hmc
  have HCl := Lib.hid hMc.lt
  clear hF hW hMc hmc
  go_upto_region 4 with (fail)
  have hbc := Blk.new W1 57 #[.int .i64 mn, .int .i64 mx, .int .i64 wd, .map (some mc)]
  have hkc : Keep (fun _ => False) W1 (W1.alloc (.cells #[.int .i64 mn, .int .i64 mx, .int .i64 wd, .map (some mc)] 57)) := (Keep.refl _ W1).alloc _
  generalize hw : W1.alloc (.cells #[.int .i64 mn, .int .i64 mx, .int .i64 wd, .map (some mc)] 57) = W2 at *
  clear hw
  obtain ⟨bc, hbcn⟩ : ∃ bc, W1.heap.size = bc := ⟨_, rfl⟩
  rw [hbcn] at hbc ⊢
  have HBc := Lib.hid hbc
  have HK2 := Lib.hid (keep0_trans _ _ _ HK1.out hkc)
  have HM2 := Lib.hid (HM.out.keep HK2.out (fun h => h))
  have HMc2 := Lib.hid (HMc.out.keep hkc (fun h => h))
  have HHbc := Lib.hid (show w.heap.size ≤ bc by rw [← hbcn]; exact HK1.out.size)
  have HHmc2 := Lib.hid (show mc < bc by rw [← hbcn]; exact HCl.out)
  have c3 := (HB.out.keep HK2.out (fun h => h)).cell 3
  simp at c3
  clear hbc hkc HK1 HMc HCl hbcn
  go_wp2_with (first | (at_range; refine wpList_range_I rfl _ rfl rfl HM2.out ?_; intro w0 cnt0 HR0 HLe HK0 hs0) | fail)
  go_frame
  have HKw := Lib.hid (keep0_trans _ _ _ HK2.out HK0.out)
  have HMc0 := Lib.hid (HMc2.out.keep HK0.out (fun h => h))
  have HB0 := Lib.hid (HBc.out.keep HK0.out (fun h => h))
  obtain ⟨it, hit⟩ : ∃ it, W2.heap.size = it := ⟨_, rfl⟩
  rw [hit] at HR0 ⊢
  have HIt := Lib.hid (show bc < it by rw [← hit]; exact HBc.out.lt)
  clear hs0 c3 HMc2 HBc HK0 HM2 HK2 hit
  go_loopw [4] (fun _ wr => ∃ (f2 ρ2 : ID → Option Nat) (left : ID → Bool) (k cnt : Nat), Hid (RangeI wr mb it n f left cnt) ∧ Hid (MapI wr mc k f2) ∧ Hid (k + cnt ≤ n) ∧ Hid (Blk wr bc 57 #[.int .i64 mn, .int .i64 mx, .int .i64 wd, .map (some mc)]) ∧
      Hid (Dets wr (fun g => w.heap.size ≤ g ∧ g < wr.heap.size ∧ g ≠ it ∧ g ≠ mc) f2 ρ2 (fun x => if left x then none else m x)) ∧ Hid (Keep (fun _ => False) w wr)) (fun _ wr => wr.rangeLeft mb it)
  case atStart =>
    refine ⟨fun _ => none, fun _ => none, _, 0, cnt0, HR0, HMc0, Lib.hid (by have := HLe.out; omega), HB0, Lib.hid ?_, HKw⟩
    have e : (fun x => if (f x).isSome then none else m x) = fun _ => none := by
      funext x
      cases hf : f x with
      | none => simp [(HD.out.dom x).1 hf]
      | some g => simp
    rw [e]
    exact Dets.nil_ _ _ (fun g hg => hg.2.1) _
  case round =>
    obtain ⟨f2, ρ2, left, k, cnt, HG, HMk, HL, HBr, HDr, HK⟩ := hrel
    go_wp2_with (first | (at_next; refine wpList_next_I rfl _ rfl rfl HG.out ?_ ?_) | fail)
    · intro HL0
      go_wp2
      go_ret
      refine ⟨bc, fun g => w.heap.size ≤ g ∧ g < wr.heap.size, rfl, ⟨mc, f2, ρ2, HBr.out, HMk.out.mono (by have := HL.out; omega), ⟨HHbc.out, HBr.out.lt⟩, ⟨HHmc.out, HMk.out.lt⟩, ?_⟩, fun g hg => hg.1, HK.out⟩
      have e : (fun x => if left x then none else m x) = m := by
        funext x
        rw [show left x = false from HL0.out x.1 x.2]; rfl
      exact (e ▸ HDr.out).more (fun g hg => ⟨hg.1, hg.2.1⟩) (fun g hg => hg.2)
    · intro a i g w1 cnt1 HWx HLx HFx HG1 HLt HK1 hs1 hen
      go_upto_region 7 with (fail)
      have hI := Blk.new_ hs1 33 #[.int .i64 a, .int .i64 i]
      have hk4 : Keep (fun _ => False) w1 (w1.alloc (.cells #[.int .i64 a, .int .i64 i] 33)) := (Keep.refl _ w1).alloc _
      generalize hw : w1.alloc (.cells #[.int .i64 a, .int .i64 i] 33) = W4 at *
      clear hw
      have n1 : it ≠ bc := by have := HIt.out; omega
      have n2 : it ≠ mc := by have := HIt.out; have := HHmc2.out; omega
      have n3 : bc ≠ mc := by have := HHmc2.out; omega
      have n4 : mb ≠ mc := by have := HM.out.lt; have := HHmc.out; omega
      have hk14 : Keep (fun g => g = it) wr W4 := keepS0' HK1.out hk4
      have HI := Lib.hid hI
      have HB4 := Lib.hid (HBr.out.keep hk14 (fun e => n1 e.symm))
      have HMk4 := Lib.hid (HMk.out.keep hk14 (fun e => n2 e.symm))
      have HG4 := Lib.hid (HG1.out.keep hk4 (fun h => h) (fun h => h))
      have HD4 := Lib.hid (HDr.out.keep hk14 (fun g hg e => hg.2.2.1 e))
      have HK4 := Lib.hid (HK.out.trans (hk14.mono fun k _ e => .inr (by have := HIt.out; have := HHbc.out; omega)))
      have HSz := Lib.hid (show wr.heap.size ≤ W4.heap.size from hk14.size)
      have HItl := Lib.hid (show it < W4.heap.size from HG4.out.lt)
      have HMcl := Lib.hid (show mc < W4.heap.size from HMk4.out.lt)
      obtain ⟨d, hd⟩ : ∃ d, m (a, i) = some d := by
        cases hm : m (a, i) with
        | none => have := (HD.out.dom _).2 hm; rw [HFx.out] at this; cases this
        | some d => exact ⟨d, rfl⟩
      obtain ⟨hh, hok, _, _⟩ := HD.out.has _ g d HFx.out hd
      have HH4 := Lib.hid (hh.keepS HK4.out (fun h => h) (fun _ _ h => h))
      have HOk := Lib.hid hok
      have HMx := Lib.hid hd
      clear hI hk4 hk14 hd hh hok HK1 hs1 hen HG1
      refine wp_region_krip (Keep (fun _ => False)) (Keep.refl _) keep0_trans 7 (by kernel_rfl) (by kernel_rfl) (Ts := [none, none, none, some (.inl (.map (some mc))), some (.inl (idV (a, i))), none, some (.inr (fun v W => ∃ (g2 : Nat) (row2 : Option Nat), v = .pointer (some ⟨g2, 0, none⟩) ∧ Has W g2 row2 d ∧ W4.heap.size ≤ g2 ∧ ∀ q, row2 = some q → W4.heap.size ≤ q))]) ?_
      simp only [List.take, List.drop]
      refine kAll_p (fun K hK => ?_)
      go_simp
      generalize hZ : (Act.mk _ _) = Z
      refine hK Z ?_
      subst hZ
      clear hK K
      refine kAll_p (fun K hK => ?_)
      go_simp
      generalize hZ : (Act.mk _ _) = Z
      refine hK Z ?_
      subst hZ
      clear hK K
      refine kAll_p (fun K hK => ?_)
      go_simp
      generalize hZ : (Act.mk _ _) = Z
      refine hK Z ?_
      subst hZ
      clear hK K
      refine kAll_d _ (fun W hW hF => kStep_of fun K Q hK => ?_) ?_
      · have hcell := (HB4.out.drew.keep hW (fun h => h)).cell 3
        simp at hcell
        go_simp
        exact hK _ _ (Keep.refl _ _) rfl
      refine kAll_d _ (fun W hW hF => kStep_of fun K Q hK => ?_) ?_
      · have e0 := (HI.out.drew.keep hW (fun h => h)).cell 0
        have e1 := (HI.out.drew.keep hW (fun h => h)).cell 1
        simp at e0 e1
        go_simp
        exact hK _ _ (Keep.refl _ _) rfl
      refine kAll_p (fun K hK => ?_)
      go_simp
      generalize hZ : (Act.mk _ _) = Z
      refine hK Z ?_
      subst hZ
      clear hK K
      refine kAll_t _ (fun _ _ _ hk h => by obtain ⟨g2, row2, e, h1, h2, h3⟩ := h; exact ⟨g2, row2, e, h1.keepS hk (fun h => h) (fun _ _ h => h), h2, h3⟩) (fun W hW hF => kStep_of fun K Q hK => ?_) (fun u0 => ?_)
      · go_simp
        refine (copy_any W (HH4.out.keepS (keepD (Keep.refl _ _) hW) (fun h => h) (fun _ _ h => h)) HOk.out).mono ?_
        rintro e w' ⟨g2, row2, rfl, _, h1, h2, h3, hk⟩
        have hs := (keepD (Keep.refl _ W4) hW).size
        exact hK _ _ hk ⟨g2, row2, rfl, h1, by omega, fun q hq => by have := h3 q hq; omega⟩
      refine kAll_nil (fun W5 hW hF => ?_)
      obtain ⟨g', row', rfl, hh5, hg5, hr5⟩ : ∃ (g' : Nat) (row' : Option Nat), u0 = .pointer (some ⟨g', 0, none⟩) ∧ Has W5 g' row' d ∧ W4.heap.size ≤ g' ∧ ∀ q, row' = some q → W4.heap.size ≤ q := kAllHas_at hF 0 rfl
      have hk5 : Keep (fun _ => False) W4 W5 := keepD (Keep.refl _ _) hW
      have HH5 := Lib.hid hh5
      have HG5 := Lib.hid hg5
      have HR5 := Lib.hid hr5
      have HM5 := Lib.hid (HMk4.out.keep hk5 (fun h => h))
      have HRg5 := Lib.hid (HG4.out.keep hk5 (fun h => h) (fun h => h))
      have HB5 := Lib.hid (HB4.out.keep hk5 (fun h => h))
      have HD5 := Lib.hid (HD4.out.keep0 hk5)
      have HK5 := Lib.hid (keep0_trans _ _ _ HK4.out hk5)
      have HS5 := Lib.hid (show wr.heap.size ≤ W5.heap.size from Nat.le_trans HSz.out hk5.size)
      have hkm : k < maxLen := by have := HL.out; unfold maxLen; omega
      clear hF hW hh5 hg5 hr5 hk5
      go_wp2_with (first | (at_mapUpdate; refine wpList_put_I rfl _ _ _ rfl rfl HM5.out hkm (a, i) HWx.out rfl g' rfl ?_; intro w6 HM6 HKm) | fail)
      go_frame
      have hh6 : Has w6 g' row' d := HH5.out.keepS HKm.out (fun e => (HH5.out.ne_map HM5.out).1 e.symm) (fun q hq e => (HH5.out.ne_map HM5.out).2 (e ▸ hq))
      have hd6 := (HD5.out.keep HKm.out (fun q hq e => hq.2.2.2 e)).more (T := fun q => w.heap.size ≤ q ∧ q < w6.heap.size ∧ q ≠ it ∧ q ≠ mc) (fun q hq => ⟨hq.1, Nat.lt_of_lt_of_le hq.2.1 (Nat.le_trans HS5.out HKm.out.size), hq.2.2⟩) (fun q hq => hq.2.1)
      have hw4 := HK4.out.size
      have hi4 := HItl.out
      have hc4 := HMcl.out
      have hg4 := HG5.out
      have hadd := hd6.add (x := (a, i)) hh6 HOk.out ⟨by omega, hh6.blk_lt, by omega, by omega⟩ (fun q hq => by have := HR5.out q hq; exact ⟨by omega, hh6.row_lt q hq, by omega, by omega⟩)
        (fun y _ hy => by
          obtain ⟨g2, d2, e1, _, e2, _⟩ := HDr.out.blk_lt (x := y) (by rw [hy]; simp)
          rw [hy] at e1; injection e1 with e1; have := e2.blk_lt; have := HSz.out; omega)
        (fun y q _ hy hq hq2 => by
          obtain ⟨g2, d2, e1, _, e2, _⟩ := HDr.out.blk_lt (x := y) hy
          have := e2.row_lt q hq2; have := HR5.out q hq; have := HSz.out; omega)
      have e6 : updM (fun x => if left x then none else m x) (a, i) d = fun y => if (left y && !decide (y = (a, i))) then none else m y := by
        funext y
        unfold updM
        by_cases e : y = (a, i)
        · subst e; simp [HMx.out]
        · simp [e]
      rw [e6] at hadd
      have HD6 := Lib.hid hadd
      have HRg6 := Lib.hid (HRg5.out.keep HKm.out n4 n2)
      have HB6 := Lib.hid (HB5.out.keep HKm.out n3)
      have HK6 := Lib.hid (HK5.out.trans (HKm.out.mono fun q _ e => .inr (by have := HHmc.out; omega)))
      clear hh6 hd6 hadd e6 hw4 hi4 hc4 hg4
      go_roundw
      case rel => exact ⟨_, _, _, k + 1, cnt1, HRg6, HM6, Lib.hid (by have := HL.out; have := HLt.out; omega), HB6, HD6, HK6⟩
      case measure => rw [HRg6.out.left_eq, HG.out.left_eq]; exact HLt.out
end Go.Proofs.Ytenphdgnaknbeaa
