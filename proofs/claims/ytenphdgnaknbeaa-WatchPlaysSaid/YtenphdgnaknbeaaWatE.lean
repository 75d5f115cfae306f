/-
  (*watch.Watch).Look. Written by gen_e.py.
-/
import Derived.Test.YtenphdgnaknbeaaWatP
import Derived.Test.YtenphdgnaknbeaaHas
import Derived.Test.YtenphdgnaknbeaaRef3B
import Derived.Test.YtenphdgnaknbeaaKrip
import Derived.Test.YtenphdgnaknbeaaKrip2
namespace Go.Proofs.Ytenphdgnaknbeaa
open Go.RowKit
attribute [local irreducible] kAll
attribute [local go_sem] kQuiet kQuietUpon
set_option maxRecDepth 100000

theorem RdI.keepA {w w' : World} {A : Option Addr} {n : Nat} {l : List ID} {S : Nat → Prop} (h : RdI w A n l) (hk : Keep S w w') (hA : ∀ g off, 0 < n → A = some ⟨g, off, none⟩ → ¬ S g) : RdI w' A n l :=
  ⟨h.1, h.2.1, fun j hj => by
    obtain ⟨g, off, v, e1, e2, e3⟩ := h.2.2 j hj
    exact ⟨g, off, v, e1, e2, hk.cell e3 (hA g off (by omega) e1)⟩⟩
theorem Dets.keepM {w w' : World} {S : Nat → Prop} {f ρ : ID → Option Nat} {m : M} (h : Dets w S f ρ m) {mb n : Nat} {f0 : ID → Option Nat} (hM : MapI w mb n f0) (hk : Keep (fun g => g = mb) w w') : Dets w' S f ρ m :=
  ⟨h.dom, fun x g d hf hm => by
    obtain ⟨h1, h2, h3, h4⟩ := h.has x g d hf hm
    exact ⟨h1.keepS hk (fun e => (h1.ne_map hM).1 e.symm) (fun q hq e => (h1.ne_map hM).2 (e ▸ hq)), h2, h3, h4⟩, h.ap1, h.ap2, fun g hg => Nat.lt_of_lt_of_le (h.lt g hg) hk.size⟩

set_option maxHeartbeats 8000000 in
theorem look_any {w : World} {b n : Nat} {S : Nat → Prop} {mn mx wd : Int} {m : M} (h : Wt w b n S mn mx wd m) (hmay : MayNew mn mx wd) (A : Option Addr) (k c : Nat) (ids : List ID) (hI : RdI w A k ids) (hwf : ∀ x ∈ ids, wfI x) (hn : n + k ≤ 1000000) (hA : ∀ g off, 0 < k → A = some ⟨g, off, none⟩ → ¬ S g) (now : Int) :
    Calls Try.prog 13 #[.pointer (some ⟨b, 0, none⟩), .slice A k c, .int .i64 now] w fun e w' => ∃ (S1 : Nat → Prop) (row : Option Nat) (A1 : Option Addr) (c1 : Nat),
      e = .returned (.slice A1 (lateL ((newD mn mx wd).begin_ now) m now ids).length c1) ∧ SlK w' 33 2 row A1 (lateL ((newD mn mx wd).begin_ now) m now ids).length c1 ((lateL ((newD mn mx wd).begin_ now) m now ids).flatMap cID) ∧
      (∀ g, row = some g → w.heap.size ≤ g ∧ ¬ S1 g) ∧ Wt w' b (n + k) S1 mn mx wd (lookM ((newD mn mx wd).begin_ now) m ids) ∧ (∀ g, S1 g → S g ∨ w.heap.size ≤ g) ∧ Keep S w w' := by
  generalize hnd : (newD mn mx wd).begin_ now = nd
  have HNd := Lib.hid hnd
  have HMay := Lib.hid hmay
  clear hnd hmay
  obtain ⟨mb, f, ρ, hb, hM, hSb, hSm, hD⟩ := h
  have HSl := Lib.hid hD.lt
  have HDom := Lib.hid hD.dom
  have HD := Lib.hid hD
  have HM := Lib.hid hM
  have HB := Lib.hid hb
  have HSb := Lib.hid hSb
  have HSm := Lib.hid hSm
  have HA := Lib.hid hA
  have HIds := Lib.hid hI
  have HWf := Lib.hid hwf
  have c3 := hb.cell 3
  simp at c3
  clear hb hM hSb hSm hD hA hI hwf
  go_enter Try.func13, Try.ntmps13
  go_wp2_with (first | (at_range; refine wpList_range_I rfl _ rfl rfl HM.out ?_; intro w0 cnt0 HR0 HLe HK0 hs0) | fail)
  go_frame
  obtain ⟨it, hit⟩ : ∃ it, w.heap.size = it := ⟨_, rfl⟩
  have HIt := Lib.hid hit
  rw [hit] at HR0 ⊢
  have HB0 := Lib.hid (HB.out.keep HK0.out (fun h => h))
  have HD0 := Lib.hid (HD.out.keep0 HK0.out)
  have HKS := Lib.hid (keepS0' (Keep.refl S w) HK0.out)
  clear hs0 c3 hit HK0
  go_loopw [7] (fun _ wr => ∃ (f1 : ID → Option Nat) (left : ID → Bool) (cnt : Nat), Hid (RangeI wr mb it n f1 left cnt) ∧ Hid (Blk wr b 57 #[.int .i64 mn, .int .i64 mx, .int .i64 wd, .map (some mb)]) ∧ Hid (Dets wr S f1 ρ (dropM m ids left)) ∧ Hid (Keep S w wr)) (fun _ wr => wr.rangeLeft mb it)
  case atStart =>
    refine ⟨f, _, cnt0, HR0, HB0, Lib.hid ?_, HKS⟩
    have e : dropM m ids (fun x => (f x).isSome) = m := by
      funext x
      unfold dropM
      cases hf : f x with
      | none => simp [(HDom.out x).1 hf]
      | some g => simp [hf]
    rw [e]
    exact HD0.out
  case round =>
    obtain ⟨f1, left, cnt, HG, HBr, HDr, HK⟩ := hrel
    go_wp2_with (first | (at_next; refine wpList_next_I rfl _ rfl rfl HG.out ?_ ?_) | fail)
    · intro HL0
      have e0 := dropM_end (m := m) (ids := ids) nd (fun x => (HL0.out x.1 x.2 : left x = false))
      have HMr := Lib.hid HG.out.map
      have HD1 := Lib.hid (e0 ▸ HDr.out)
      clear HL0 e0 HG HDr HD0 HKS HR0 HB0 HLe
      go_wp2_with fail
      have HWt0 := Lib.hid (show Wt wr b n S mn mx wd (midM nd m ids 0) from ⟨mb, f1, ρ, HBr.out, HMr.out, HSb.out, HSm.out, HD1.out⟩)
      have HLen := Lib.hid HIds.out.1
      clear HBr HMr HD1 HDom HD HM HB
      go_loopw [8, 35] (fun v j wr => ∃ (q : Nat) (S1 : Nat → Prop) (row : Option Nat) (A1 : Option Addr) (c1 : Nat), q ≤ k ∧ j = .int .i64 (q : Int) ∧ v = .slice A1 (lateL nd m now (ids.take q)).length c1 ∧ Hid (SlK wr 33 2 row A1 (lateL nd m now (ids.take q)).length c1 ((lateL nd m now (ids.take q)).flatMap cID)) ∧
        Hid (∀ g, row = some g → w.heap.size ≤ g ∧ ¬ S1 g) ∧ Hid (Wt wr b (n + q) S1 mn mx wd (midM nd m ids q)) ∧ Hid (∀ g, S1 g → S g ∨ w.heap.size ≤ g) ∧ Hid (Keep S w wr)) (fun _ j _ => k - (intOf j).toNat)
      case atStart => exact ⟨0, S, none, none, 0, Nat.zero_le _, rfl, rfl, Lib.hid (SlK.nil_ _ _ _), Lib.hid (fun g hg => by cases hg), HWt0, Lib.hid (fun g hg => .inl hg), HK⟩
      case round =>
        obtain ⟨q, S1, row, A1, c1, hq, rfl, rfl, HS, HRw, HWt, HSS, HKx⟩ := hrel
        have e2 : IntKind.i64.wrap ((q : Int) + 1) = (q : Int) + 1 := IntWalk.i64_in _ (by omega)
        by_cases hlt : q < k
        · obtain ⟨g0, off, hA0, p0, p1⟩ := (HIds.out.keepA HKx.out HA.out).at_ hlt
          obtain ⟨x, hx⟩ : ∃ x, ids.getD q (0, 0) = x := ⟨_, rfl⟩
          rw [hx] at p0 p1
          obtain ⟨a, i⟩ := x
          have HX := Lib.hid hx
          have HWx := Lib.hid (show wfI (a, i) from hx ▸ HWf.out _ (getD_mem (by rw [HLen.out]; exact hlt)))
          simp only at p0 p1
          subst hA0
          have q1 : (q : Int) < (k : Int) := by omega
          have q2 : (0 : Int) ≤ (q : Int) := by omega
          clear hx
          go_upto_region 12 with (fail)
          have hI := Blk.new wr 33 #[.int .i64 a, .int .i64 i]
          have hk4 : Keep (fun _ => False) wr (wr.alloc (.cells #[.int .i64 a, .int .i64 i] 33)) := (Keep.refl _ wr).alloc _
          generalize hw : wr.alloc (.cells #[.int .i64 a, .int .i64 i] 33) = W4 at *
          clear hw p0 p1
          obtain ⟨mb2, f2, ρ2, hb2, hM2, hSb2, hSm2, hD2⟩ := HWt.out.keep0 hk4
          have HIx := Lib.hid hI
          have HB4 := Lib.hid hb2
          have HM4 := Lib.hid hM2
          have HD4 := Lib.hid hD2
          have HSb2 := Lib.hid hSb2
          have HSm2 := Lib.hid hSm2
          have HS4 := Lib.hid (HS.out.keep hk4 (fun _ _ h => h))
          have HK4 := Lib.hid (keepS0' HKx.out hk4)
          clear hI hk4 hb2 hM2 hD2 hSb2 hSm2 HWt HS HKx
          cases hf : f2 (a, i) with
          | none =>
            have HF4 := Lib.hid hf
            have hmid := midM_new (nd := nd) (m := m) (ids := ids) (q := q) (by rw [HLen.out]; exact hlt) (by rw [HX.out]; exact (HD4.out.dom _).1 hf)
            rw [HX.out] at hmid
            have HLk := Lib.hid (show lookD nd m (ids.getD q (0, 0)) = nd by rw [HX.out]; exact hmid.1)
            have HMid := Lib.hid hmid.2
            clear hf hmid
            refine wp_region_krip (Keep (fun _ => False)) (Keep.refl _) keep0_trans 7 (by kernel_rfl) (by kernel_rfl) (Ts := [none, none, none, some (.inl (.map (some mb2))), some (.inl (idV (a, i))), some (.inl (.pointer none)), none]) ?_
            simp only [List.take, List.drop]
            refine kAll_p (fun K hK => ?_)
            go_simp
            generalize hZ : (Act.mk _ _) = Z
            refine hK Z ?_
            subst hZ
            clear hK K
            refine kAll_p (fun K hK => ?_)
            go_simp
            generalize hZ : (Act.mk _ _) = Z
            refine hK Z ?_
            subst hZ
            clear hK K
            refine kAll_p (fun K hK => ?_)
            go_simp
            generalize hZ : (Act.mk _ _) = Z
            refine hK Z ?_
            subst hZ
            clear hK K
            refine kAll_d _ (fun W hW hF => kStep_of fun K Q hK => ?_) ?_
            · have hcell := (HB4.out.drew.keep hW (fun h => h)).cell 3
              simp at hcell
              go_simp
              exact hK _ _ (Keep.refl _ _) rfl
            refine kAll_d _ (fun W hW hF => kStep_of fun K Q hK => ?_) ?_
            · have e0 := (HIx.out.drew.keep hW (fun h => h)).cell 0
              have e1 := (HIx.out.drew.keep hW (fun h => h)).cell 1
              simp at e0 e1
              go_simp
              exact hK _ _ (Keep.refl _ _) rfl
            refine kAll_d _ (fun W hW hF => kStep_of fun K Q hK => ?_) ?_
            · have hl := (HM4.out.keep (keepD (Keep.refl _ _) hW) (fun h => h)).look HWx.out
              rw [HF4.out] at hl
              simp only [ptrV, idV] at hl
              go_simp
              exact hK _ _ (Keep.refl _ _) rfl
            refine kAll_p (fun K hK => ?_)
            go_simp
            generalize hZ : (Act.mk _ _) = Z
            refine hK Z ?_
            subst hZ
            clear hK K
            refine kAll_nil (fun W5 hW hF => ?_)
            have hk5 : Keep (fun _ => False) W4 W5 := keepD (Keep.refl _ _) hW
            have HIx5 := Lib.hid (HIx.out.keep hk5 (fun h => h))
            have HB5 := Lib.hid (HB4.out.keep hk5 (fun h => h))
            have HM5 := Lib.hid (HM4.out.keep hk5 (fun h => h))
            have HD5 := Lib.hid (HD4.out.keep0 hk5)
            have HS5 := Lib.hid (HS4.out.keep hk5 (fun _ _ h => h))
            have HK5 := Lib.hid (keepS0' HK4.out hk5)
            have HSz5 := Lib.hid (keepS0' HK4.out hk5).size
            clear hF hW hk5 HIx HB4 HM4 HD4 HS4 HK4
            go_upto_region 13 with (fail)
            refine wp_region_krip (Keep (fun _ => False)) (Keep.refl _) keep0_trans 18 (by kernel_rfl) (by kernel_rfl) (Ts := [none, none, none, some (.inl (.int .i64 mn)), none, none, none, some (.inl (.int .i64 mx)), none, none, none, some (.inl (.int .i64 wd)), some (.inr (fun v W => ∃ g : Nat, v = .tuple #[.pointer (some ⟨g, 0, none⟩), .int .i64 0] ∧ Has W g none (newD mn mx wd) ∧ W5.heap.size ≤ g)), some (.inr (fun v W => ∃ g : Nat, v = .tuple #[.pointer (some ⟨g, 0, none⟩), .int .i64 0] ∧ Has W g none (newD mn mx wd) ∧ W5.heap.size ≤ g)), some (.inr (fun v W => ∃ g : Nat, v = .pointer (some ⟨g, 0, none⟩) ∧ Has W g none (newD mn mx wd) ∧ W5.heap.size ≤ g)), some (.inl (.int .i64 0)), some (.inr (fun v W => ∃ g : Nat, v = .pointer (some ⟨g, 0, none⟩) ∧ Has W g none (newD mn mx wd) ∧ W5.heap.size ≤ g)), some (.inl (.int .i64 0))]) ?_
            simp only [List.take, List.drop]
            refine kAll_p (fun K hK => ?_)
            go_simp
            generalize hZ : (Act.mk _ _) = Z
            refine hK Z ?_
            subst hZ
            clear hK K
            refine kAll_p (fun K hK => ?_)
            go_simp
            generalize hZ : (Act.mk _ _) = Z
            refine hK Z ?_
            subst hZ
            clear hK K
            refine kAll_p (fun K hK => ?_)
            go_simp
            generalize hZ : (Act.mk _ _) = Z
            refine hK Z ?_
            subst hZ
            clear hK K
            refine kAll_d _ (fun W hW hF => kStep_of fun K Q hK => ?_) ?_
            · have hcell := (HB5.out.drew.keep hW (fun h => h)).cell 0
              simp at hcell
              go_simp
              exact hK _ _ (Keep.refl _ _) rfl
            refine kAll_p (fun K hK => ?_)
            go_simp
            generalize hZ : (Act.mk _ _) = Z
            refine hK Z ?_
            subst hZ
            clear hK K
            refine kAll_p (fun K hK => ?_)
            go_simp
            generalize hZ : (Act.mk _ _) = Z
            refine hK Z ?_
            subst hZ
            clear hK K
            refine kAll_p (fun K hK => ?_)
            go_simp
            generalize hZ : (Act.mk _ _) = Z
            refine hK Z ?_
            subst hZ
            clear hK K
            refine kAll_d _ (fun W hW hF => kStep_of fun K Q hK => ?_) ?_
            · have hcell := (HB5.out.drew.keep hW (fun h => h)).cell 1
              simp at hcell
              go_simp
              exact hK _ _ (Keep.refl _ _) rfl
            refine kAll_p (fun K hK => ?_)
            go_simp
            generalize hZ : (Act.mk _ _) = Z
            refine hK Z ?_
            subst hZ
            clear hK K
            refine kAll_p (fun K hK => ?_)
            go_simp
            generalize hZ : (Act.mk _ _) = Z
            refine hK Z ?_
            subst hZ
            clear hK K
            refine kAll_p (fun K hK => ?_)
            go_simp
            generalize hZ : (Act.mk _ _) = Z
            refine hK Z ?_
            subst hZ
            clear hK K
            refine kAll_d _ (fun W hW hF => kStep_of fun K Q hK => ?_) ?_
            · have hcell := (HB5.out.drew.keep hW (fun h => h)).cell 2
              simp at hcell
              go_simp
              exact hK _ _ (Keep.refl _ _) rfl
            refine kAll_t _ (fun _ _ _ hk h => by obtain ⟨g, e, h1, h2⟩ := h; exact ⟨g, e, h1.keepS hk (fun h => h) (fun _ _ h => h), h2⟩) (fun W hW hF => kStep_of fun K Q hK => ?_) (fun u0 => ?_)
            · go_simp
              refine (new_ok mn mx wd W HMay.out.1 HMay.out.2.1 HMay.out.2.2.1 HMay.out.2.2.2.1 HMay.out.2.2.2.2).mono ?_
              rintro e w' ⟨rfl, rfl⟩
              have hs := (keepD (Keep.refl _ W5) hW).size
              exact hK _ _ ((Keep.refl _ _).alloc _) ⟨_, rfl, ⟨_, _, _, Blk.new _ _ _, Sl.nil_ _ _⟩, hs⟩
            refine kAll_t _ (fun _ _ _ hk h => by obtain ⟨g, e, h1, h2⟩ := h; exact ⟨g, e, h1.keepS hk (fun h => h) (fun _ _ h => h), h2⟩) (fun W hW hF => kStep_of fun K Q hK => ?_) (fun u1 => ?_)
            · obtain ⟨g, rfl, h1, h2⟩ := kHas_at hF 0 rfl (by kernel_rfl)
              go_simp
              exact hK _ _ (Keep.refl _ _) ⟨g, rfl, h1, h2⟩
            refine kAll_t _ (fun _ _ _ hk h => by obtain ⟨g, e, h1, h2⟩ := h; exact ⟨g, e, h1.keepS hk (fun h => h) (fun _ _ h => h), h2⟩) (fun W hW hF => kStep_of fun K Q hK => ?_) (fun u2 => ?_)
            · obtain ⟨g, rfl, h1, h2⟩ := kHas_at hF 0 rfl (by kernel_rfl)
              go_simp
              exact hK _ _ (Keep.refl _ _) ⟨g, rfl, h1, h2⟩
            refine kAll_d _ (fun W hW hF => kStep_of fun K Q hK => ?_) ?_
            · obtain ⟨g, rfl, h1, h2⟩ := kHas_at hF 1 rfl (by kernel_rfl)
              go_simp
              exact hK _ _ (Keep.refl _ _) rfl
            refine kAll_t _ (fun _ _ _ hk h => by obtain ⟨g, e, h1, h2⟩ := h; exact ⟨g, e, h1.keepS hk (fun h => h) (fun _ _ h => h), h2⟩) (fun W hW hF => kStep_of fun K Q hK => ?_) (fun u3 => ?_)
            · obtain ⟨g, rfl, h1, h2⟩ := kHas_at hF 0 rfl (by kernel_rfl)
              go_simp
              exact hK _ _ (Keep.refl _ _) ⟨g, rfl, h1, h2⟩
            refine kAll_d _ (fun W hW hF => kStep_of fun K Q hK => ?_) ?_
            · go_simp
              exact hK _ _ (Keep.refl _ _) rfl
            refine kAll_nil (fun W6 hW hF => ?_)
            obtain ⟨g, rfl, hh6, hg6⟩ : ∃ g : Nat, u3 = .pointer (some ⟨g, 0, none⟩) ∧ Has W6 g none (newD mn mx wd) ∧ W5.heap.size ≤ g := kAllHas_at hF 0 rfl
            have hk6 : Keep (fun _ => False) W5 W6 := keepD (Keep.refl _ _) hW
            have HH6 := Lib.hid hh6
            have HG6 := Lib.hid hg6
            have HK56 := Lib.hid hk6
            clear hF hW hh6 hg6 hk6
            go_wp2_with fail
            refine (begin_any g none (newD mn mx wd) now W6 HH6.out).mono ?_
            rintro e W7 ⟨rfl, row7, hh7, hk7, hr7⟩
            rw [HNd.out] at hh7
            have hk57 : Keep (fun _ => False) W5 W7 := HK56.out.trans (hk7.mono fun y _ e => by
              rcases e with rfl | e
              · exact .inr HG6.out
              · cases e)
            have HH7 := Lib.hid hh7
            have HR7 := Lib.hid (show ∀ y, row7 = some y → W5.heap.size ≤ y from fun y hy => by
              rcases hr7 with e | ⟨y', e, hle⟩
              · rw [hy] at e; cases e
              · rw [hy] at e; injection e with e; subst e; exact Nat.le_trans HK56.out.size hle)
            have HIx7 := Lib.hid (HIx5.out.keep hk57 (fun h => h))
            have HB7 := Lib.hid (HB5.out.keep hk57 (fun h => h))
            have HM7 := Lib.hid (HM5.out.keep hk57 (fun h => h))
            have HD7 := Lib.hid (HD5.out.keep0 hk57)
            have HS7 := Lib.hid (HS5.out.keep hk57 (fun _ _ h => h))
            have HK7 := Lib.hid (keepS0' HK5.out hk57)
            have HZ7 := Lib.hid hk57.size
            have hnn : n + q < maxLen := by unfold maxLen; omega
            clear hh7 hk7 hr7 hk57 HH6 HK56 HIx5 HB5 HM5 HK5
            go_upto_region 16 with (fail)
            refine wp_region_krip (Keep (fun _ => False)) (Keep.refl _) keep0_trans 6 (by kernel_rfl) (by kernel_rfl) (Ts := [none, none, none, some (.inl (.map (some mb2))), some (.inl (idV (a, i))), none]) ?_
            simp only [List.take, List.drop]
            refine kAll_p (fun K hK => ?_)
            go_simp
            generalize hZ : (Act.mk _ _) = Z
            refine hK Z ?_
            subst hZ
            clear hK K
            refine kAll_p (fun K hK => ?_)
            go_simp
            generalize hZ : (Act.mk _ _) = Z
            refine hK Z ?_
            subst hZ
            clear hK K
            refine kAll_p (fun K hK => ?_)
            go_simp
            generalize hZ : (Act.mk _ _) = Z
            refine hK Z ?_
            subst hZ
            clear hK K
            refine kAll_d _ (fun W hW hF => kStep_of fun K Q hK => ?_) ?_
            · have hcell := (HB7.out.drew.keep hW (fun h => h)).cell 3
              simp at hcell
              go_simp
              exact hK _ _ (Keep.refl _ _) rfl
            refine kAll_d _ (fun W hW hF => kStep_of fun K Q hK => ?_) ?_
            · have e0 := (HIx7.out.drew.keep hW (fun h => h)).cell 0
              have e1 := (HIx7.out.drew.keep hW (fun h => h)).cell 1
              simp at e0 e1
              go_simp
              exact hK _ _ (Keep.refl _ _) rfl
            refine kAll_p (fun K hK => ?_)
            go_simp
            generalize hZ : (Act.mk _ _) = Z
            refine hK Z ?_
            subst hZ
            clear hK K
            refine kAll_nil (fun W8 hW hF => ?_)
            have hk8 : Keep (fun _ => False) W7 W8 := keepD (Keep.refl _ _) hW
            have HH8 := Lib.hid (HH7.out.keepS hk8 (fun h => h) (fun _ _ h => h))
            have HIx8 := Lib.hid (HIx7.out.keep hk8 (fun h => h))
            have HB8 := Lib.hid (HB7.out.keep hk8 (fun h => h))
            have HM8 := Lib.hid (HM7.out.keep hk8 (fun h => h))
            have HD8 := Lib.hid (HD7.out.keep0 hk8)
            have HS8 := Lib.hid (HS7.out.keep hk8 (fun _ _ h => h))
            have HK8 := Lib.hid (keepS0' HK7.out hk8)
            have HZ8 := Lib.hid (Nat.le_trans HZ7.out hk8.size)
            clear hF hW hk8 HH7 HIx7 HB7 HM7 HD7 HS7 HK7
            go_wp2_with (first | (at_mapUpdate; refine wpList_put_I rfl _ _ _ rfl rfl HM8.out hnn (a, i) HWx.out rfl g rfl ?_; intro V HMv HKm) | fail)
            go_frame
            obtain ⟨rw2, hrw⟩ : ∃ rw2, row7 = rw2 := ⟨_, rfl⟩
            subst hrw
            have hhv : Has V g row7 nd := HH8.out.keepS HKm.out (fun e => (HH8.out.ne_map HM8.out).1 e.symm) (fun y hy e => (HH8.out.ne_map HM8.out).2 (e ▸ hy))
            have hltv : ∀ y, S1 y → y < V.heap.size := fun y hy => Nat.lt_of_lt_of_le (HD8.out.lt y hy) HKm.out.size
            have hdv := ((HD8.out.keepM HM8.out HKm.out).more (T := grow S1 W5 V) (fun y hy => .inl hy) (fun y hy => hy.elim (hltv y) (fun h => h.2))).add (x := (a, i)) hhv (HNd.out ▸ (newD_ok HMay.out).begin_ now) (.inr ⟨HG6.out, hhv.blk_lt⟩) (fun y hy => .inr ⟨HR7.out y hy, hhv.row_lt y hy⟩)
              (fun y _ hy => by
                obtain ⟨g2, d2, e1, _, e3, _⟩ := HD5.out.blk_lt (x := y) (by rw [hy]; simp)
                rw [hy] at e1; injection e1 with e1; have := e3.blk_lt; have := HG6.out; omega)
              (fun y z _ hy hz hz2 => by
                obtain ⟨g2, d2, e1, _, e3, _⟩ := HD5.out.blk_lt (x := y) hy
                have := e3.row_lt z hz2; have := HR7.out z hz; omega)
            rw [← HMid.out] at hdv
            have HHv := Lib.hid hhv
            have HFv := Lib.hid (show updF f2 (a, i) g (a, i) = some g by simp [updF])
            have HOkv := Lib.hid (show nd.Ok from HNd.out ▸ (newD_ok HMay.out).begin_ now)
            have HBv := Lib.hid (HB8.out.keep HKm.out (HM8.out.ne_blk HB8.out))
            have HWtv := Lib.hid (show Wt V b (n + (q + 1)) (grow S1 W5 V) mn mx wd (midM nd m ids (q + 1)) from ⟨mb2, _, _, HBv.out, HMv.out, .inl HSb2.out, .inl HSm2.out, hdv⟩)
            have HIv := Lib.hid (HIx8.out.keep HKm.out (HM8.out.ne_blk HIx8.out))
            have HSv := Lib.hid (HS8.out.keep HKm.out (fun y hy e => (HRw.out y hy).2 (e ▸ HSm2.out)))
            have HKv := Lib.hid (HK8.out.trans (HKm.out.mono fun y _ e => by subst e; exact HSS.out _ HSm2.out))
            have HRv := Lib.hid (show ∀ y, row = some y → w.heap.size ≤ y ∧ ¬ grow S1 W5 V y from fun y hy => ⟨(HRw.out y hy).1, fun h => h.elim (HRw.out y hy).2 (fun h => by have := HS5.out.lt y hy; omega)⟩)
            have HSSv := Lib.hid (show ∀ y, grow S1 W5 V y → S y ∨ w.heap.size ≤ y from fun y hy => hy.elim (HSS.out y) (fun h => .inr (by have := HK8.out.size; have := HSz5.out; omega)))
            obtain ⟨Sv, hSv⟩ : ∃ Sv, grow S1 W5 V = Sv := ⟨_, rfl⟩
            rw [hSv] at HWtv HRv HSSv
            clear hhv hltv hdv HH8 HIx8 HB8 HM8 HD8 HS8 HK8 HKm HD5 HR7 HS5 HRw HSS hSv
            go_upto_region 17 with (fail)
            refine wp_region_krip (Keep (fun _ => False)) (Keep.refl _) keep0_trans 8 (by kernel_rfl) (by kernel_rfl) (Ts := [none, none, none, some (.inl (.map (some mb2))), some (.inl (idV (a, i))), some (.inl (.pointer (some ⟨g, 0, none⟩))), none, some (.inl (.bool (nd.late now)))]) ?_
            simp only [List.take, List.drop]
            refine kAll_p (fun K hK => ?_)
            go_simp
            generalize hZ : (Act.mk _ _) = Z
            refine hK Z ?_
            subst hZ
            clear hK K
            refine kAll_p (fun K hK => ?_)
            go_simp
            generalize hZ : (Act.mk _ _) = Z
            refine hK Z ?_
            subst hZ
            clear hK K
            refine kAll_p (fun K hK => ?_)
            go_simp
            generalize hZ : (Act.mk _ _) = Z
            refine hK Z ?_
            subst hZ
            clear hK K
            refine kAll_d _ (fun W hW hF => kStep_of fun K Q hK => ?_) ?_
            · have hcell := (HBv.out.drew.keep hW (fun h => h)).cell 3
              simp at hcell
              go_simp
              exact hK _ _ (Keep.refl _ _) rfl
            refine kAll_d _ (fun W hW hF => kStep_of fun K Q hK => ?_) ?_
            · have e0 := (HIv.out.drew.keep hW (fun h => h)).cell 0
              have e1 := (HIv.out.drew.keep hW (fun h => h)).cell 1
              simp at e0 e1
              go_simp
              exact hK _ _ (Keep.refl _ _) rfl
            refine kAll_d _ (fun W hW hF => kStep_of fun K Q hK => ?_) ?_
            · have hl := (HMv.out.keep (keepD (Keep.refl _ _) hW) (fun h => h)).look HWx.out
              rw [HFv.out] at hl
              simp only [ptrV, idV] at hl
              go_simp
              exact hK _ _ (Keep.refl _ _) rfl
            refine kAll_p (fun K hK => ?_)
            go_simp
            generalize hZ : (Act.mk _ _) = Z
            refine hK Z ?_
            subst hZ
            clear hK K
            refine kAll_d _ (fun W hW hF => kStep_of fun K Q hK => ?_) ?_
            · go_simp
              refine (late_any g row7 nd now W (HHv.out.keepS (keepD (Keep.refl _ _) hW) (fun h => h) (fun _ _ h => h)) HOkv.out).mono ?_
              rintro e w' ⟨rfl, kk, rfl⟩
              exact hK _ _ ((Keep.refl _ _).drewN _) rfl
            refine kAll_nil (fun Wz hW hF => ?_)
            have hkz : Keep (fun _ => False) V Wz := keepD (Keep.refl _ _) hW
            have HWtz := Lib.hid (HWtv.out.keep0 hkz)
            have HSz := Lib.hid (HSv.out.keep hkz (fun _ _ h => h))
            have HKz := Lib.hid (keepS0' HKv.out hkz)
            have HIz := Lib.hid (HIv.out.keep hkz (fun h => h))
            have HZ := Lib.hid hkz.size
            clear hF hW hkz HBv HMv HFv HHv HOkv HIv HWtv HSv HKv
            cases hl : nd.late now with
            | false =>
              have e9 : lateL nd m now (ids.take (q + 1)) = lateL nd m now (ids.take q) := by rw [late_next (by rw [HLen.out]; exact hlt) nd m now, HLk.out, hl]; simp
              have HE := Lib.hid e9
              clear hl e9
              go_wp2
              go_roundw
              case rel => exact ⟨q + 1, Sv, row, A1, c1, by omega, by go_num, by rw [HE.out], Lib.hid (by rw [HE.out]; exact HSz.out), HRv, HWtz, HSSv, HKz⟩
              case measure => simp [intOf]; omega
            | true =>
              have e9 : lateL nd m now (ids.take (q + 1)) = lateL nd m now (ids.take q) ++ [(a, i)] := by rw [late_next (by rw [HLen.out]; exact hlt) nd m now, HLk.out, hl, HX.out]; simp
              have HE := Lib.hid e9
              have hll := lateL_len nd m now ids q
              have z0 := HIz.out.cell 0
              have z1 := HIz.out.cell 1
              simp at z0 z1
              clear hl e9
              obtain ⟨i0, hi, hz0, hz1, hz2⟩ := info_parts infoR
              have HI0 := Lib.hid hi
              have HZ0 := Lib.hid hz0
              have HZ1 := Lib.hid hz1
              have HZ2 := Lib.hid hz2
              clear hi hz0 hz1 hz2
              go_wp2_with (at_builtin; refine wpList_append_slK rfl _ _ _ rfl i0 _ 16 Try.underlying30 HI0.out HZ0.out HZ1.out HZ2.out rfl (by omega) (HSz.out.keep ((Keep.refl (fun _ => False) _).alloc _) (fun _ _ h => h)) rfl rfl (RdI.one_ (x := (a, i)) (Blk.new _ _ _)).2 (one_flat' _) (by unfold maxLen; omega) (by omega) ?_; intro row2 A2 c2 w2 hs2 hr2
                           have HS2 := Lib.hid hs2
                           have HR2 := Lib.hid hr2
                           clear hs2 hr2)
              have hgr : Grew row A1 c1 (Wz.alloc (.cells #[.int .i64 a, .int .i64 i] 33)) row2 A2 c2 w2 := HR2.out.resolve_left (fun h => by have := h.1; omega)
              have hkr : Keep (fun g => row = some g) Wz w2 := keepS0 ((Keep.refl _ Wz).alloc _) hgr.keep
              have HWt2 := Lib.hid (HWtz.out.keep hkr (fun g hg e => (HRv.out g e).2 hg))
              have HK2 := Lib.hid (HKz.out.trans (hkr.mono fun g _ e => .inr (HRv.out g e).1))
              have HRn := Lib.hid (show ∀ g, row2 = some g → w.heap.size ≤ g ∧ ¬ Sv g from fun g hg => by
                rcases hgr with ⟨e, _⟩ | ⟨_, g3, e, hg3⟩
                · exact HRv.out g (by rw [← e, hg])
                · rw [hg] at e; injection e with e; subst e
                  have h1 := HKz.out.size
                  simp at hg3
                  exact ⟨by omega, fun hs => by have := HWtz.out.lt g hs; omega⟩)
              have HS3 := Lib.hid (show SlK w2 33 2 row2 A2 (lateL nd m now (ids.take q) ++ [(a, i)]).length c2 ((lateL nd m now (ids.take q) ++ [(a, i)]).flatMap cID) from by rw [List.length_append, List.flatMap_append]; exact HS2.out)
              clear hgr hkr HS2 HR2 HWtz HSz HKz HIz z0 z1
              go_roundw
              case rel => exact ⟨q + 1, Sv, row2, A2, c2, by omega, by go_num, by rw [HE.out, List.length_append]; rfl, Lib.hid (by rw [HE.out]; exact HS3.out), HRn, HWt2, HSSv, HK2⟩
              case measure => simp [intOf]; omega
          | some g =>
            have HFv := Lib.hid hf
            obtain ⟨g1, d, e1, hm, hh, hsg, hsr⟩ := HD4.out.blk_lt (x := (a, i)) (by rw [hf]; simp)
            obtain rfl : g1 = g := by rw [hf] at e1; injection e1 with e1; exact e1.symm
            have hmid := midM_old (nd := nd) (m := m) (ids := ids) (q := q) (d := d) (by rw [HLen.out]; exact hlt) (by rw [HX.out]; exact hm)
            have HLk := Lib.hid hmid.1
            have HMid := Lib.hid hmid.2
            have HH4 := Lib.hid hh
            have HOkv := Lib.hid (show d.Ok from (HD4.out.has _ _ d hf hm).2.1)
            obtain ⟨rw2, hrw⟩ : ∃ rw2, ρ2 (a, i) = rw2 := ⟨_, rfl⟩
            rw [hrw] at HH4
            clear hf e1 hm hh hsg hsr hmid hrw
            refine wp_region_krip (Keep (fun _ => False)) (Keep.refl _) keep0_trans 7 (by kernel_rfl) (by kernel_rfl) (Ts := [none, none, none, some (.inl (.map (some mb2))), some (.inl (idV (a, i))), some (.inl (.pointer (some ⟨g1, 0, none⟩))), none]) ?_
            simp only [List.take, List.drop]
            refine kAll_p (fun K hK => ?_)
            go_simp
            generalize hZ : (Act.mk _ _) = Z
            refine hK Z ?_
            subst hZ
            clear hK K
            refine kAll_p (fun K hK => ?_)
            go_simp
            generalize hZ : (Act.mk _ _) = Z
            refine hK Z ?_
            subst hZ
            clear hK K
            refine kAll_p (fun K hK => ?_)
            go_simp
            generalize hZ : (Act.mk _ _) = Z
            refine hK Z ?_
            subst hZ
            clear hK K
            refine kAll_d _ (fun W hW hF => kStep_of fun K Q hK => ?_) ?_
            · have hcell := (HB4.out.drew.keep hW (fun h => h)).cell 3
              simp at hcell
              go_simp
              exact hK _ _ (Keep.refl _ _) rfl
            refine kAll_d _ (fun W hW hF => kStep_of fun K Q hK => ?_) ?_
            · have e0 := (HIx.out.drew.keep hW (fun h => h)).cell 0
              have e1 := (HIx.out.drew.keep hW (fun h => h)).cell 1
              simp at e0 e1
              go_simp
              exact hK _ _ (Keep.refl _ _) rfl
            refine kAll_d _ (fun W hW hF => kStep_of fun K Q hK => ?_) ?_
            · have hl := (HM4.out.keep (keepD (Keep.refl _ _) hW) (fun h => h)).look HWx.out
              rw [HFv.out] at hl
              simp only [ptrV, idV] at hl
              go_simp
              exact hK _ _ (Keep.refl _ _) rfl
            refine kAll_p (fun K hK => ?_)
            go_simp
            generalize hZ : (Act.mk _ _) = Z
            refine hK Z ?_
            subst hZ
            clear hK K
            refine kAll_nil (fun V hW hF => ?_)
            have hk5 : Keep (fun _ => False) W4 V := keepD (Keep.refl _ _) hW
            have HIv := Lib.hid (HIx.out.keep hk5 (fun h => h))
            have HBv := Lib.hid (HB4.out.keep hk5 (fun h => h))
            have HMv := Lib.hid (HM4.out.keep hk5 (fun h => h))
            have HHv := Lib.hid (HH4.out.keepS hk5 (fun h => h) (fun _ _ h => h))
            have HSv := Lib.hid (HS4.out.keep hk5 (fun _ _ h => h))
            have HKv := Lib.hid (keepS0' HK4.out hk5)
            have HWtv := Lib.hid (show Wt V b (n + (q + 1)) S1 mn mx wd (midM nd m ids (q + 1)) from by
              rw [HMid.out]
              exact ⟨mb2, f2, ρ2, HBv.out, HMv.out.mono (by omega), HSb2.out, HSm2.out, HD4.out.keep0 hk5⟩)
            have HRv := HRw
            have HSSv := HSS
            clear hF hW hk5 HIx HB4 HM4 HD4 HS4 HK4 HH4 HRw HSS
            go_upto_region 17 with (fail)
            refine wp_region_krip (Keep (fun _ => False)) (Keep.refl _) keep0_trans 8 (by kernel_rfl) (by kernel_rfl) (Ts := [none, none, none, some (.inl (.map (some mb2))), some (.inl (idV (a, i))), some (.inl (.pointer (some ⟨g1, 0, none⟩))), none, some (.inl (.bool (d.late now)))]) ?_
            simp only [List.take, List.drop]
            refine kAll_p (fun K hK => ?_)
            go_simp
            generalize hZ : (Act.mk _ _) = Z
            refine hK Z ?_
            subst hZ
            clear hK K
            refine kAll_p (fun K hK => ?_)
            go_simp
            generalize hZ : (Act.mk _ _) = Z
            refine hK Z ?_
            subst hZ
            clear hK K
            refine kAll_p (fun K hK => ?_)
            go_simp
            generalize hZ : (Act.mk _ _) = Z
            refine hK Z ?_
            subst hZ
            clear hK K
            refine kAll_d _ (fun W hW hF => kStep_of fun K Q hK => ?_) ?_
            · have hcell := (HBv.out.drew.keep hW (fun h => h)).cell 3
              simp at hcell
              go_simp
              exact hK _ _ (Keep.refl _ _) rfl
            refine kAll_d _ (fun W hW hF => kStep_of fun K Q hK => ?_) ?_
            · have e0 := (HIv.out.drew.keep hW (fun h => h)).cell 0
              have e1 := (HIv.out.drew.keep hW (fun h => h)).cell 1
              simp at e0 e1
              go_simp
              exact hK _ _ (Keep.refl _ _) rfl
            refine kAll_d _ (fun W hW hF => kStep_of fun K Q hK => ?_) ?_
            · have hl := (HMv.out.keep (keepD (Keep.refl _ _) hW) (fun h => h)).look HWx.out
              rw [HFv.out] at hl
              simp only [ptrV, idV] at hl
              go_simp
              exact hK _ _ (Keep.refl _ _) rfl
            refine kAll_p (fun K hK => ?_)
            go_simp
            generalize hZ : (Act.mk _ _) = Z
            refine hK Z ?_
            subst hZ
            clear hK K
            refine kAll_d _ (fun W hW hF => kStep_of fun K Q hK => ?_) ?_
            · go_simp
              refine (late_any g1 rw2 d now W (HHv.out.keepS (keepD (Keep.refl _ _) hW) (fun h => h) (fun _ _ h => h)) HOkv.out).mono ?_
              rintro e w' ⟨rfl, kk, rfl⟩
              exact hK _ _ ((Keep.refl _ _).drewN _) rfl
            refine kAll_nil (fun Wz hW hF => ?_)
            have hkz : Keep (fun _ => False) V Wz := keepD (Keep.refl _ _) hW
            have HWtz := Lib.hid (HWtv.out.keep0 hkz)
            have HSz := Lib.hid (HSv.out.keep hkz (fun _ _ h => h))
            have HKz := Lib.hid (keepS0' HKv.out hkz)
            have HIz := Lib.hid (HIv.out.keep hkz (fun h => h))
            have HZ := Lib.hid hkz.size
            clear hF hW hkz HBv HMv HFv HHv HOkv HIv HWtv HSv HKv
            cases hl : d.late now with
            | false =>
              have e9 : lateL nd m now (ids.take (q + 1)) = lateL nd m now (ids.take q) := by rw [late_next (by rw [HLen.out]; exact hlt) nd m now, HLk.out, hl]; simp
              have HE := Lib.hid e9
              clear hl e9
              go_wp2
              go_roundw
              case rel => exact ⟨q + 1, S1, row, A1, c1, by omega, by go_num, by rw [HE.out], Lib.hid (by rw [HE.out]; exact HSz.out), HRv, HWtz, HSSv, HKz⟩
              case measure => simp [intOf]; omega
            | true =>
              have e9 : lateL nd m now (ids.take (q + 1)) = lateL nd m now (ids.take q) ++ [(a, i)] := by rw [late_next (by rw [HLen.out]; exact hlt) nd m now, HLk.out, hl, HX.out]; simp
              have HE := Lib.hid e9
              have hll := lateL_len nd m now ids q
              have z0 := HIz.out.cell 0
              have z1 := HIz.out.cell 1
              simp at z0 z1
              clear hl e9
              obtain ⟨i0, hi, hz0, hz1, hz2⟩ := info_parts infoR
              have HI0 := Lib.hid hi
              have HZ0 := Lib.hid hz0
              have HZ1 := Lib.hid hz1
              have HZ2 := Lib.hid hz2
              clear hi hz0 hz1 hz2
              go_wp2_with (at_builtin; refine wpList_append_slK rfl _ _ _ rfl i0 _ 16 Try.underlying30 HI0.out HZ0.out HZ1.out HZ2.out rfl (by omega) (HSz.out.keep ((Keep.refl (fun _ => False) _).alloc _) (fun _ _ h => h)) rfl rfl (RdI.one_ (x := (a, i)) (Blk.new _ _ _)).2 (one_flat' _) (by unfold maxLen; omega) (by omega) ?_; intro row2 A2 c2 w2 hs2 hr2
                           have HS2 := Lib.hid hs2
                           have HR2 := Lib.hid hr2
                           clear hs2 hr2)
              have hgr : Grew row A1 c1 (Wz.alloc (.cells #[.int .i64 a, .int .i64 i] 33)) row2 A2 c2 w2 := HR2.out.resolve_left (fun h => by have := h.1; omega)
              have hkr : Keep (fun g => row = some g) Wz w2 := keepS0 ((Keep.refl _ Wz).alloc _) hgr.keep
              have HWt2 := Lib.hid (HWtz.out.keep hkr (fun g hg e => (HRv.out g e).2 hg))
              have HK2 := Lib.hid (HKz.out.trans (hkr.mono fun g _ e => .inr (HRv.out g e).1))
              have HRn := Lib.hid (show ∀ g, row2 = some g → w.heap.size ≤ g ∧ ¬ S1 g from fun g hg => by
                rcases hgr with ⟨e, _⟩ | ⟨_, g3, e, hg3⟩
                · exact HRv.out g (by rw [← e, hg])
                · rw [hg] at e; injection e with e; subst e
                  have h1 := HKz.out.size
                  simp at hg3
                  exact ⟨by omega, fun hs => by have := HWtz.out.lt g hs; omega⟩)
              have HS3 := Lib.hid (show SlK w2 33 2 row2 A2 (lateL nd m now (ids.take q) ++ [(a, i)]).length c2 ((lateL nd m now (ids.take q) ++ [(a, i)]).flatMap cID) from by rw [List.length_append, List.flatMap_append]; exact HS2.out)
              clear hgr hkr HS2 HR2 HWtz HSz HKz HIz z0 z1
              go_roundw
              case rel => exact ⟨q + 1, S1, row2, A2, c2, by omega, by go_num, by rw [HE.out, List.length_append]; rfl, Lib.hid (by rw [HE.out]; exact HS3.out), HRn, HWt2, HSSv, HK2⟩
              case measure => simp [intOf]; omega
        · obtain rfl : q = k := by omega
          go_wp2
          go_ret
          have e5 : ids.take q = ids := List.take_of_length_le (Nat.le_of_eq HLen.out)
          rw [e5] at HS ⊢
          have e6 : midM nd m ids q = lookM nd m ids := by rw [← midM_all, HLen.out]
          exact ⟨S1, row, A1, c1, rfl, HS.out, HRw.out, e6 ▸ HWt.out, HSS.out, HKx.out⟩
    · intro a i g w1 cnt1 HWx HLx HFx HG1 HLt HK1 hs1 hen
      have hneit : ∀ q, S q → ¬ q = it := fun q hq e => by have := HSl.out q hq; have := HIt.out; omega
      have HKq := Lib.hid (HK.out.trans (HK1.out.mono fun q _ e => .inr (by have := HIt.out; omega)))
      have HI1 := Lib.hid (HIds.out.keepA HKq.out HA.out)
      have HBq := Lib.hid (HBr.out.keep HK1.out (fun e => hneit _ HSb.out e))
      have HDq := Lib.hid (HDr.out.keep HK1.out hneit)
      clear HK1 hneit
      go_upto_region 6 with (fail)
      have hI := Blk.new_ hs1 33 #[.int .i64 a, .int .i64 i]
      have hk4 : Keep (fun _ => False) w1 (w1.alloc (.cells #[.int .i64 a, .int .i64 i] 33)) := (Keep.refl _ w1).alloc _
      generalize hw : w1.alloc (.cells #[.int .i64 a, .int .i64 i] 33) = W4 at *
      clear hw
      have e0 := hI.cell 0
      have e1 := hI.cell 1
      simp at e0 e1
      have HI := Lib.hid hI
      have HK4 := Lib.hid hk4
      clear hI hk4 hen hs1
      go_wp2_with fail
      refine (has_any A k c ids (a, i) _ (HI1.out.keep0 HK4.out) (by omega)).mono ?_
      rintro e W5 ⟨rfl, hk5⟩
      have HK5 := Lib.hid (keep0_trans _ _ _ HK4.out hk5)
      have HI5 := Lib.hid (HI.out.keep hk5 (fun h => h))
      have HG5 := Lib.hid (HG1.out.keep HK5.out (fun h => h) (fun h => h))
      have HB5 := Lib.hid (HBq.out.keep HK5.out (fun h => h))
      have HD5 := Lib.hid (HDq.out.keep0 HK5.out)
      have HKS5 := Lib.hid (keepS0' HKq.out HK5.out)
      clear hk5 HK5 HK4 HI e0 e1 HBq HDq HG1 HI1 HKq
      by_cases hin : (a, i) ∈ ids
      · rw [decide_eq_true hin]
        go_wp2_with fail
        have e6 := dropM_in (m := m) (left := left) hin
        have HD6 := Lib.hid (e6 ▸ HD5.out)
        go_roundw
        case rel => exact ⟨f1, _, cnt1, HG5, HB5, HD6, HKS5⟩
        case measure => rw [HG5.out.left_eq, HG.out.left_eq]; exact HLt.out
      · rw [decide_eq_false hin]
        go_upto_region 7 with (fail)
        refine wp_region_krip (Keep (fun _ => False)) (Keep.refl _) keep0_trans 5 (by kernel_rfl) (by kernel_rfl) (Ts := [none, none, none, some (.inl (.map (some mb))), some (.inl (idV (a, i)))]) ?_
        simp only [List.take, List.drop]
        refine kAll_p (fun K hK => ?_)
        go_simp
        generalize hZ : (Act.mk _ _) = Z
        refine hK Z ?_
        subst hZ
        clear hK K
        refine kAll_p (fun K hK => ?_)
        go_simp
        generalize hZ : (Act.mk _ _) = Z
        refine hK Z ?_
        subst hZ
        clear hK K
        refine kAll_p (fun K hK => ?_)
        go_simp
        generalize hZ : (Act.mk _ _) = Z
        refine hK Z ?_
        subst hZ
        clear hK K
        refine kAll_d _ (fun W hW hF => kStep_of fun K Q hK => ?_) ?_
        · have hcell := (HB5.out.drew.keep hW (fun h => h)).cell 3
          simp at hcell
          go_simp
          exact hK _ _ (Keep.refl _ _) rfl
        refine kAll_d _ (fun W hW hF => kStep_of fun K Q hK => ?_) ?_
        · have e0 := (HI5.out.drew.keep hW (fun h => h)).cell 0
          have e1 := (HI5.out.drew.keep hW (fun h => h)).cell 1
          simp at e0 e1
          go_simp
          exact hK _ _ (Keep.refl _ _) rfl
        refine kAll_nil (fun W6 hW hF => ?_)
        have hk6 : Keep (fun _ => False) W5 W6 := keepD (Keep.refl _ _) hW
        have HG6 := Lib.hid (HG5.out.keep hk6 (fun h => h) (fun h => h))
        have HB6 := Lib.hid (HB5.out.keep hk6 (fun h => h))
        have HD6 := Lib.hid (HD5.out.keep0 hk6)
        have HKS6 := Lib.hid (keepS0' HKS5.out hk6)
        clear hF hW hk6 HG5 HB5 HD5 HKS5 HI5
        go_wp2_with (first | (at_delete; refine wpList_delete_I rfl _ _ rfl rfl HG6.out (a, i) HWx.out rfl ?_; intro w7 cnt7 HG7 HLe7 HK7) | fail)
        go_frame
        have e7 := dropM_out (m := m) (left := left) hin
        have HD7 := Lib.hid ((HD6.out.keepM HG6.out.map HK7.out).del (a, i))
        have HD8 := Lib.hid (e7 ▸ HD7.out)
        have HG8 := Lib.hid (strike2 left (a, i) ▸ HG7.out)
        have HB7 := Lib.hid (HB6.out.keep HK7.out (HG6.out.ne_blk HB6.out).2)
        have HKS7 := Lib.hid (HKS6.out.trans (HK7.out.mono fun q _ e => .inl (by subst e; exact HSm.out)))
        go_roundw
        case rel => exact ⟨_, _, cnt7, HG8, HB7, HD8, HKS7⟩
        case measure => rw [HG8.out.left_eq, HG.out.left_eq]; have := HLe7.out; have := HLt.out; omega
end Go.Proofs.Ytenphdgnaknbeaa
