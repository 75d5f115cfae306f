/-
  A node made new: its boxes, its holder.
-/
import Derived.Test.YtlfpefnlgiohbaaGreatNewB
import Derived.Test.YtlfpefnlgiohbaaGreatKeepC
namespace Go.Proofs.YtlfpefnlgiohbaaGreat
open Go.RowKit Go
set_option maxRecDepth 100000
attribute [local irreducible] kAll kAllP
attribute [local go_sem] kQuiet kQuietUpon

theorem holdNew_ok (me : ID) (hold retry : Int) (w : World) (hm : mayID me = true) (h1 : 1 ≤ hold) (h2 : hold ≤ 4096) (h3 : 1 ≤ retry) (h4 : retry ≤ 4096) :
    Calls Tryz.prog 125 #[.agg #[.int .i64 me.1, .int .i64 me.2], .int .i64 hold, .int .i64 retry] w
      (MadeE 208 #[.int .i64 me.1, .int .i64 me.2, .int .i64 hold, .int .i64 retry, .int .i64 0, .int .i64 0, .bool false, .int .u8 0, .int .i64 0, .int .i64 0, .bool false] w) := by
  have HM := Lib.hid hm
  clear hm
  obtain ⟨a, i⟩ := me
  simp only at HM ⊢
  go_enter Tryz.func125, Tryz.ntmps125
  obtain ⟨W0, hW0⟩ : ∃ V, w.alloc (.cells #[.int .i64 a, .int .i64 i] 30) = V := ⟨_, rfl⟩
  have hb := Blk.new w 30 #[.int .i64 a, .int .i64 i]
  have hk : Keep (fun _ => False) w W0 := by rw [← hW0]; exact (Keep.refl _ _).alloc _
  rw [hW0] at hb
  have HB := Lib.hid hb
  have HK := Lib.hid hk
  clear hb hk
  have c0 := HB.out.cell 0
  have c1 := HB.out.cell 1
  simp at c0 c1
  go_wp2_with fail
  refine (may_any (a, i) _).mono ?_
  rintro e W2 ⟨rfl, hk2⟩
  rw [HM.out]
  replace HB := Lib.hid (HB.out.keep hk2 (fun h => h))
  replace HK := Lib.hid (keep0_trans _ _ _ HK.out hk2)
  clear hk2 c0 c1
  have c0 := HB.out.cell 0
  have c1 := HB.out.cell 1
  simp at c0 c1
  go_wp2
  go_ret2
  have hs := HK.out.size
  exact ⟨W2.heap.size, rfl, Blk.new _ _ _, hs, HK.out.alloc _⟩
/-- the boxes' places, the first k of them filled -/
def setB (cs : Array Value) (bx : Nat → Nat) : Nat → Array Value
  | 0 => cs
  | k + 1 => (setB cs bx k).setIfInBounds (26 + k) (.pointer (some ⟨bx k, 0, none⟩))
theorem setB_size (cs : Array Value) (bx : Nat → Nat) : ∀ k, (setB cs bx k).size = cs.size
  | 0 => rfl
  | k + 1 => by rw [setB, Array.size_setIfInBounds, setB_size]
theorem setB_far (cs : Array Value) (bx : Nat → Nat) {j : Nat} (hj : j < 26 ∨ 39 ≤ j) : ∀ k, k ≤ 13 → (setB cs bx k)[j]? = cs[j]?
  | 0, _ => rfl
  | k + 1, hk => by rw [setB, Array.getElem?_setIfInBounds_ne (by omega), setB_far cs bx hj k (by omega)]
theorem setB_eq (cs : Array Value) (bx bx' : Nat → Nat) : ∀ k, (∀ i, i < k → bx i = bx' i) → setB cs bx k = setB cs bx' k
  | 0, _ => rfl
  | k + 1, h => by rw [setB, setB, setB_eq cs bx bx' k (fun i hi => h i (by omega)), h k (by omega)]
theorem setB_at (cs : Array Value) (bx : Nat → Nat) {k j : Nat} (hk : k ≤ 13) (hj : k ≤ j) : (setB cs bx k)[26 + j]? = cs[26 + j]? := by
  induction k with
  | zero => rfl
  | succ k ih => rw [setB, Array.getElem?_setIfInBounds_ne (by omega), ih (by omega) (by omega)]
/-- boxes 0 to k-1, each a block of its own, made since base -/
structure Boxes (w : World) (base : Nat) (q : Int) (bx : Nat → Nat) (k : Nat) : Prop where
  blk : ∀ i, i < k → Blk w (bx i) 211 #[.int .i64 q, .slice none 0 0]
  low : ∀ i, i < k → base ≤ bx i
  ne : ∀ i j, i < k → j < k → bx i = bx j → i = j
theorem Boxes.keep {w w' : World} {S : Nat → Prop} {base : Nat} {q : Int} {bx : Nat → Nat} {k : Nat} (h : Boxes w base q bx k) (hk : Keep S w w') (hn : ∀ i, i < k → ¬ S (bx i)) : Boxes w' base q bx k :=
  ⟨fun i hi => (h.blk i hi).keep hk (hn i hi), h.low, h.ne⟩
theorem Boxes.snoc {w : World} {base : Nat} {q : Int} {bx : Nat → Nat} {k b : Nat} (h : Boxes w base q bx k) (hb : Blk w b 211 #[.int .i64 q, .slice none 0 0]) (hl : base ≤ b) (hne : ∀ i, i < k → bx i ≠ b) : Boxes w base q (fun i => if i = k then b else bx i) (k + 1) := by
  refine ⟨fun i hi => ?_, fun i hi => ?_, fun i j hi hj e => ?_⟩
  · by_cases hik : i = k
    · simp only [hik, if_true]; exact hb
    · simp only [hik, if_false]; exact h.blk i (by omega)
  · by_cases hik : i = k
    · simp only [hik, if_true]; exact hl
    · simp only [hik, if_false]; exact h.low i (by omega)
  · by_cases hik : i = k <;> by_cases hjk : j = k
    · omega
    · simp only [hik, hjk, if_true, if_false] at e; exact absurd e.symm (hne j (by omega))
    · simp only [hik, hjk, if_true, if_false] at e; exact absurd e (hne i (by omega))
    · simp only [hik, hjk, if_false] at e; exact h.ne i j (by omega) (by omega) e
set_option maxHeartbeats 2000000 in
theorem makeBoxes_ok (b : Nat) (cs : Array Value) (q : Int) (w : World) (hb : Blk w b 115 cs) (hz : cs.size = 55) (hq : cs[15]? = some (.int .i64 q)) (h1 : 1 ≤ q) (h2 : q ≤ 4096) (hcb : ∀ j, j < 13 → ∃ v, cs[26 + j]? = some v) :
    Calls Tryz.prog 77 #[.pointer (some ⟨b, 0, none⟩)] w fun e w' => e = .returned (.int .i64 0) ∧ ∃ bx, Blk w' b 115 (setB cs bx 13) ∧ Boxes w' w.heap.size q bx 13 ∧ Keep (fun g => g = b) w w' := by
  have HB := Lib.hid hb
  have HZ := Lib.hid hz
  have HQ := Lib.hid hq
  have HC := Lib.hid hcb
  clear hb hz hq hcb
  go_enter Tryz.func77, Tryz.ntmps77
  go_wp2
  go_loopw [4] (fun iv wr => ∃ k : Nat, k ≤ 13 ∧ iv = .int .i64 (k : Int) ∧ Hid (∃ bx, Blk wr b 115 (setB cs bx k) ∧ Boxes wr w.heap.size q bx k ∧ Keep (fun g => g = b) w wr)) (fun iv _ => 13 - (intOf iv).toNat)
  case atStart => exact ⟨0, by omega, rfl, Lib.hid ⟨fun _ => 0, HB.out, ⟨fun i hi => by omega, fun i hi => by omega, fun i j hi => by omega⟩, Keep.refl _ _⟩⟩
  case round =>
    obtain ⟨k, hk, rfl, HR⟩ := hrel
    by_cases hlt : k < 13
    · obtain ⟨bx, hb, hbs, hkk⟩ := HR.out
      have HBr := Lib.hid hb
      have HBs := Lib.hid hbs
      have HK := Lib.hid hkk
      clear hb hbs hkk HR
      have q1 : (k : Int) < 13 := by omega
      have q2 : (0 : Int) ≤ (k : Int) := by omega
      go_upto_region 4 with (fail)
      obtain ⟨vk, hvk⟩ := HC.out k hlt
      have HO : Hid (∀ j v, (setB cs bx k)[j]? = some v → wr.cell? ⟨b, j, none⟩ = some v) := Lib.hid fun j v hj => by rw [HBr.out.cell]; exact hj
      have HQ2 : Hid ((setB cs bx k)[15]? = some (.int .i64 q)) := Lib.hid ((setB_far cs bx (by omega) k hk).trans HQ.out)
      have HV : Hid ((setB cs bx k)[26 + k]? = some vk) := Lib.hid ((setB_at cs bx hk (Nat.le_refl k)).trans hvk)
      have hlb := HBr.out.lt
      have HLB := Lib.hid hlb
      clear hvk hlb
      refine wp_region_kpiv (KeepC b (26 + k)) (Keep (fun _ => False)) 14 (KeepC.refl _ _) (KeepC.trans _ _) (Keep.refl _) keep0_trans (KeepC.of0 _ _) 15 (by kernel_rfl) (by kernel_rfl) (Ts := [none, none, none, none, none, none, some (.inl (.int .i64 q)), some (.inr (fun v W => ∃ g_0, v = .tuple #[.pointer (some ⟨g_0, 0, none⟩), .int .i64 0] ∧ Blk W g_0 211 #[.int .i64 q, .slice none 0 0] ∧ wr.heap.size ≤ g_0 ∧ ¬ g_0 = b)), some (.inr (fun v W => ∃ g_0, v = .tuple #[.pointer (some ⟨g_0, 0, none⟩), .int .i64 0] ∧ Blk W g_0 211 #[.int .i64 q, .slice none 0 0] ∧ wr.heap.size ≤ g_0 ∧ ¬ g_0 = b)), some (.inr (fun v W => ∃ g_0, v = .pointer (some ⟨g_0, 0, none⟩) ∧ Blk W g_0 211 #[.int .i64 q, .slice none 0 0] ∧ wr.heap.size ≤ g_0 ∧ ¬ g_0 = b)), some (.inl (.int .i64 0)), none, none, none, some (.inr (fun v W => ∃ g_0, v = undef ∧ Blk W b 115 ((setB cs bx k).setIfInBounds (26 + k) (.pointer (some ⟨g_0, 0, none⟩))) ∧ Blk W g_0 211 #[.int .i64 q, .slice none 0 0] ∧ wr.heap.size ≤ g_0 ∧ ¬ g_0 = b))]) ?_
      simp only [List.take, List.drop]
      refine kAllP_p (fun K hK => ?_)
      go_simp
      generalize hZ : (Act.mk _ _) = Z
      refine hK Z ?_
      subst hZ
      clear hK K
      refine kAllP_p (fun K hK => ?_)
      go_simp
      generalize hZ : (Act.mk _ _) = Z
      refine hK Z ?_
      subst hZ
      clear hK K
      refine kAllP_p (fun K hK => ?_)
      go_simp
      generalize hZ : (Act.mk _ _) = Z
      refine hK Z ?_
      subst hZ
      clear hK K
      refine kAllP_p (fun K hK => ?_)
      go_simp
      generalize hZ : (Act.mk _ _) = Z
      refine hK Z ?_
      subst hZ
      clear hK K
      refine kAllP_p (fun K hK => ?_)
      go_simp
      generalize hZ : (Act.mk _ _) = Z
      refine hK Z ?_
      subst hZ
      clear hK K
      refine kAllP_p (fun K hK => ?_)
      go_simp
      generalize hZ : (Act.mk _ _) = Z
      refine hK Z ?_
      subst hZ
      clear hK K
      refine kAllP_dn _ (by decide) (fun W hW hF => kStep_of fun K Q hK => ?_) (fun K hK => ?_)
      · have c0 := (KeepC.d hW).cell (by omega) (HO.out _ _ HQ2.out)
        go_simp
        exact hK _ _ (Keep.refl _ _) rfl
      go_simp
      generalize hZ : (Act.mk _ _) = Z
      refine hK Z ?_
      subst hZ
      clear hK K
      refine kAllP_un _ (by decide) (fun v W W' hk h => by obtain ⟨g_0, e, h0, h1, h2⟩ := h; exact ⟨_, e, (h0.keep hk.1 h2), (h1), (h2)⟩) (fun W hW hF => kStep_of fun K Q hK => ?_) (fun u0 K hK => ?_)
      · go_simp
        refine (outboxNew_ok q W (by omega) (by omega)).mono ?_
        rintro e w' ⟨g, rfl, hb, hl, hk⟩
        exact hK _ _ hk ⟨g, rfl, hb, Nat.le_trans (KeepC.d hW).1.size hl, by have := (KeepC.d hW).1.size; have := HLB.out; omega⟩
      go_simp
      generalize hZ : (Act.mk _ _) = Z
      refine hK Z ?_
      subst hZ
      clear hK K
      refine kAllP_un _ (by decide) (fun v W W' hk h => by obtain ⟨g_0, e, h0, h1, h2⟩ := h; exact ⟨_, e, (h0.keep hk.1 h2), (h1), (h2)⟩) (fun W hW hF => kStep_of fun K Q hK => ?_) (fun u1 K hK => ?_)
      · obtain ⟨g_0, rfl, k0_0, k0_1, k0_2⟩ := (kHas_at hF 0 rfl (by kernel_rfl) : (fun v W => ∃ g_0, v = .tuple #[.pointer (some ⟨g_0, 0, none⟩), .int .i64 0] ∧ Blk W g_0 211 #[.int .i64 q, .slice none 0 0] ∧ wr.heap.size ≤ g_0 ∧ ¬ g_0 = b) u0 W)
        go_simp
        exact hK _ _ (Keep.refl _ _) ⟨_, rfl, k0_0, k0_1, k0_2⟩
      go_simp
      generalize hZ : (Act.mk _ _) = Z
      refine hK Z ?_
      subst hZ
      clear hK K
      refine kAllP_un _ (by decide) (fun v W W' hk h => by obtain ⟨g_0, e, h0, h1, h2⟩ := h; exact ⟨_, e, (h0.keep hk.1 h2), (h1), (h2)⟩) (fun W hW hF => kStep_of fun K Q hK => ?_) (fun u2 K hK => ?_)
      · obtain ⟨g_0, rfl, k1_0, k1_1, k1_2⟩ := (kHas_at hF 0 rfl (by kernel_rfl) : (fun v W => ∃ g_0, v = .tuple #[.pointer (some ⟨g_0, 0, none⟩), .int .i64 0] ∧ Blk W g_0 211 #[.int .i64 q, .slice none 0 0] ∧ wr.heap.size ≤ g_0 ∧ ¬ g_0 = b) u1 W)
        go_simp
        exact hK _ _ (Keep.refl _ _) ⟨_, rfl, k1_0, k1_1, k1_2⟩
      go_simp
      generalize hZ : (Act.mk _ _) = Z
      refine hK Z ?_
      subst hZ
      clear hK K
      refine kAllP_dn _ (by decide) (fun W hW hF => kStep_of fun K Q hK => ?_) (fun K hK => ?_)
      · obtain ⟨g_0, rfl, k1_0, k1_1, k1_2⟩ := (kHas_at hF 1 rfl (by kernel_rfl) : (fun v W => ∃ g_0, v = .tuple #[.pointer (some ⟨g_0, 0, none⟩), .int .i64 0] ∧ Blk W g_0 211 #[.int .i64 q, .slice none 0 0] ∧ wr.heap.size ≤ g_0 ∧ ¬ g_0 = b) u1 W)
        go_simp
        exact hK _ _ (Keep.refl _ _) rfl
      go_simp
      generalize hZ : (Act.mk _ _) = Z
      refine hK Z ?_
      subst hZ
      clear hK K
      refine kAllP_p (fun K hK => ?_)
      go_simp
      generalize hZ : (Act.mk _ _) = Z
      refine hK Z ?_
      subst hZ
      clear hK K
      refine kAllP_p (fun K hK => ?_)
      go_simp
      generalize hZ : (Act.mk _ _) = Z
      refine hK Z ?_
      subst hZ
      clear hK K
      refine kAllP_p (fun K hK => ?_)
      go_simp
      generalize hZ : (Act.mk _ _) = Z
      refine hK Z ?_
      subst hZ
      clear hK K
      refine kAllP_tn _ rfl (fun v W W' hk h =>  by obtain ⟨g_0, e, h0, h1, h2, h3⟩ := h; exact ⟨_, e, (h0.keep hk (fun h => h)), (h1.keep hk (fun h => h)), (h2), (h3)⟩) (fun W hW hF => kStep_of fun K Q hK => ?_) (fun u3 K hK => ?_)
      · obtain ⟨g_0, rfl, k2_0, k2_1, k2_2⟩ := (kHas_at hF 0 rfl (by kernel_rfl) : (fun v W => ∃ g_0, v = .pointer (some ⟨g_0, 0, none⟩) ∧ Blk W g_0 211 #[.int .i64 q, .slice none 0 0] ∧ wr.heap.size ≤ g_0 ∧ ¬ g_0 = b) u2 W)
        have hbW := HBr.out.keep (keepD (Keep.refl _ _) hW) (fun h => h)
        have c0 := (keepD (Keep.refl (fun _ => False) _) hW).cell (HO.out _ _ HV.out) (fun h => h)
        have f0 := hbW.frozen (26 + k)
        go_simp
        exact hK undef _ (KeepC.set b (26 + k) W _) ⟨_, rfl, hbW.set_ _ _, k2_0.far (p := ⟨b, 26 + k, none⟩) k2_2 _, k2_1, k2_2⟩
      go_simp
      generalize hZ : (Act.mk _ _) = Z
      refine hK Z ?_
      subst hZ
      clear hK K
      refine kAllP_nil (fun W hW hF => ?_)
      obtain ⟨g, _, h1, h2, h3, h4⟩ := (kAllHas_at hF 0 rfl : (fun v W => ∃ g_0, v = undef ∧ Blk W b 115 ((setB cs bx k).setIfInBounds (26 + k) (.pointer (some ⟨g_0, 0, none⟩))) ∧ Blk W g_0 211 #[.int .i64 q, .slice none 0 0] ∧ wr.heap.size ≤ g_0 ∧ ¬ g_0 = b) _ W)
      have HS : Hid (∃ bx', Blk W b 115 (setB cs bx' (k + 1)) ∧ Boxes W w.heap.size q bx' (k + 1) ∧ Keep (fun g => g = b) w W) := Lib.hid ⟨fun i => if i = k then g else bx i, by
        rw [setB, setB_eq cs (fun i => if i = k then g else bx i) bx k (fun i hi => if_neg (by omega))]
        simp only [if_true]
        exact h1, Boxes.snoc (HBs.out.keep (KeepC.d hW).1 (fun i hi e => (Blk.ne_ (HBs.out.blk i hi) HBr.out (by decide)) e)) h2 (by have := HK.out.size; omega) (fun i hi e => (by have := (HBs.out.blk i hi).lt; omega)), HK.out.trans ((KeepC.d hW).1.mono fun _ _ e => .inl e)⟩
      clear hF hW h1 h2 h3 h4 HO HQ2 HV HLB HBr HBs HK
      go_wp2
      go_roundw
      case rel => exact ⟨k + 1, by omega, by go_num, HS⟩
      case measure => simp [intOf]; omega
    · obtain rfl : k = 13 := by omega
      go_wp2
      go_ret
      obtain ⟨bx, hb, hbs, hkk⟩ := HR.out
      exact ⟨rfl, bx, hb, hbs, hkk⟩
end Go.Proofs.YtlfpefnlgiohbaaGreat
