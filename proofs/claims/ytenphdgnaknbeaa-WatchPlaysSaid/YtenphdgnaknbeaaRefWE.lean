/-
  The reference's watch: Look. Written by gen_re.py.
-/
import Derived.Test.YtenphdgnaknbeaaRefWD
namespace Go.Proofs.Ytenphdgnaknbeaa
open Go.RowKit
attribute [local irreducible] kAll
attribute [local go_sem] kQuiet kQuietUpon
set_option maxRecDepth 100000

def newR (mn mx wd : Int) : R := ⟨mn, mx, wd, false, 0, []⟩
theorem newR_ok {mn mx wd : Int} (h : MayNew mn mx wd) : (newR mn mx wd).Ok := by
  obtain ⟨h1, h2, h3, h4, h5⟩ := h
  constructor <;> simp [newR] <;> omega
/-- r is x's detector behind a look -/
def LookR (L : List Ent) (md : Nat → R) (nd : R) (x : ID) (r : R) : Prop := (∃ e ∈ L, e.1 = x ∧ r = md e.2) ∨ ((∀ e ∈ L, e.1 ≠ x) ∧ r = nd)
/-- old detectors and new ones -/
def mix (B : Nat) (md mdN : Nat → R) (g : Nat) : R := if g < B then md g else mdN g
def lateR (La : List Ent) (md : Nat → R) (now : Int) : List ID := (La.filter (fun e => (md e.2).late now)).map Prod.fst
theorem lateR_add (La : List Ent) (md : Nat → R) (now : Int) (e : Ent) : lateR (La ++ [e]) md now = lateR La md now ++ if (md e.2).late now then [e.1] else [] := by
  unfold lateR
  rw [List.filter_append, List.map_append]
  congr 1
  cases h : (md e.2).late now <;> simp [h]
theorem lateR_congr {La : List Ent} {md md' : Nat → R} (now : Int) (h : ∀ e ∈ La, md e.2 = md' e.2) : lateR La md now = lateR La md' now := by
  unfold lateR
  rw [List.filter_congr (fun e he => by rw [h e he])]
theorem lateR_len (La : List Ent) (md : Nat → R) (now : Int) : (lateR La md now).length ≤ La.length := by
  unfold lateR
  rw [List.length_map]; exact List.length_filter_le _ _
theorem RDets.keepI {w w' : World} {S : Nat → Prop} {L : List Ent} {ρ : Nat → Option Nat} {md : Nat → R} (h : RDets w S L ρ md) {row : Option Nat} {A : Option Addr} {n c : Nat} {xs : List Value} (hs : SlK w 33 2 row A n c xs) (hk : Keep (fun y => row = some y) w w') : RDets w' S L ρ md :=
  ⟨fun e he => by
    obtain ⟨h1, h2, h3, h4⟩ := h.has e he
    refine ⟨h1.keepS hk (fun hr => ?_) (fun q hq hr => ?_), h2, h3, h4⟩
    · obtain ⟨cs, hb⟩ := hs.row_at _ hr
      exact (h1.ne_blk hb (by decide) (by decide)).1 rfl
    · obtain ⟨cs, hb⟩ := hs.row_at _ hr
      exact (h1.ne_blk hb (by decide) (by decide)).2 hq, h.ap, h.one, fun g hg => Nat.lt_of_lt_of_le (h.lt g hg) hk.size⟩
theorem RDets.kp0 {w w' : World} {B : Nat} {L : List Ent} {ρ : Nat → Option Nat} {md : Nat → R} (h : RDets w (fun g => B ≤ g ∧ g < w.heap.size) L ρ md) (hk : Keep (fun _ => False) w w') : RDets w' (fun g => B ≤ g ∧ g < w'.heap.size) L ρ md :=
  (h.keep hk (fun _ _ h => h)).more (fun _ hg => ⟨hg.1, Nat.lt_of_lt_of_le hg.2 hk.size⟩) (fun _ hg => hg.2)
set_option maxHeartbeats 8000000 in
theorem rwlook_any {w : World} {b : Nat} {S : Nat → Prop} {mn mx wd : Int} {L : List Ent} {md : Nat → R} (h : RWt w b S mn mx wd L md) (hmay : MayNew mn mx wd) (hL : L.length ≤ 1000) (hg : ∀ e ∈ L, (md e.2).gaps.length ≤ 4000) (A : Option Addr) (k c : Nat) (ids : List ID) (hI : RdI w A k ids) (hn : k ≤ 1000) (hnd : ids.Nodup) (now : Int) :
    Calls Try.prog 21 #[.pointer (some ⟨b, 0, none⟩), .slice A k c, .int .i64 now] w fun e w' => ∃ (S1 : Nat → Prop) (L' : List Ent) (md' : Nat → R) (row : Option Nat) (A1 : Option Addr) (c1 : Nat),
      e = .returned (.slice A1 (lateR L' md' now).length c1) ∧ SlK w' 33 2 row A1 (lateR L' md' now).length c1 ((lateR L' md' now).flatMap cID) ∧ (∀ g, row = some g → w.heap.size ≤ g ∧ ¬ S1 g) ∧
      RWt w' b S1 mn mx wd L' md' ∧ L'.map Prod.fst = ids ∧ (∀ f ∈ L', LookR L md ((newR mn mx wd).begin_ now) f.1 (md' f.2)) ∧ (∀ g, S1 g → S g ∨ w.heap.size ≤ g) ∧ Keep S w w' := by
  generalize hndd : (newR mn mx wd).begin_ now = nd
  have HNd := Lib.hid hndd
  have HMay := Lib.hid hmay
  have HW := Lib.hid h
  have HG := Lib.hid hg
  have HIds := Lib.hid hI
  have HNo := Lib.hid hnd
  obtain ⟨i0, hi, hz0, hz1, hz2⟩ := info_parts infoO
  have HI0 := Lib.hid hi
  have HZ0 := Lib.hid hz0
  have HZ1 := Lib.hid hz1
  have HZ2 := Lib.hid hz2
  clear hi hz0 hz1 hz2
  obtain ⟨j0, hi, hz0, hz1, hz2⟩ := info_parts infoR
  have HJ0 := Lib.hid hi
  have HY0 := Lib.hid hz0
  have HY1 := Lib.hid hz1
  have HY2 := Lib.hid hz2
  have HLen := Lib.hid hI.1
  clear hi hz0 hz1 hz2 hndd h hmay hg hI hnd
  go_enter Try.func21, Try.ntmps21
  go_wp2
  go_loopw [7, 8, 9] (fun v7 v8 j wr => ∃ (q : Nat) (La N : List Ent) (mdN : Nat → R) (ρN : Nat → Option Nat) (row3 : Option Nat) (A3 : Option Addr) (c3 : Nat) (row4 : Option Nat) (A4 : Option Addr) (c4 : Nat), q ≤ k ∧ v7 = .slice A3 q c3 ∧ v8 = .slice A4 (lateR La (mix w.heap.size md mdN) now).length c4 ∧ j = .int .i64 (q : Int) ∧
      Hid (SlK wr 69 3 row3 A3 q c3 (La.flatMap cO)) ∧ Hid (∀ g, row3 = some g → w.heap.size ≤ g) ∧ Hid (SlK wr 33 2 row4 A4 (lateR La (mix w.heap.size md mdN) now).length c4 ((lateR La (mix w.heap.size md mdN) now).flatMap cID)) ∧ Hid (∀ g, row4 = some g → w.heap.size ≤ g) ∧
      Hid (RDets wr (fun g => w.heap.size ≤ g ∧ g < wr.heap.size) N ρN mdN) ∧ Hid (∀ e ∈ La, e ∈ L ∨ e ∈ N) ∧ Hid (La.map Prod.fst = ids.take q) ∧ Hid (∀ e ∈ La, LookR L md nd e.1 (mix w.heap.size md mdN e.2)) ∧ Hid (∀ e ∈ N, (mdN e.2).gaps.length ≤ 4000) ∧ Hid (Keep (fun _ => False) w wr)) (fun _ _ j _ => k - (intOf j).toNat)
  case atStart => exact ⟨0, [], [], md, fun _ => none, none, none, 0, none, none, 0, Nat.zero_le _, rfl, rfl, rfl, Lib.hid (SlK.nil_ _ _ _), Lib.hid (fun g hg => by cases hg), Lib.hid (SlK.nil_ _ _ _), Lib.hid (fun g hg => by cases hg), Lib.hid (RDets.nil_ _ _ (fun g hg => hg.2) _ _), Lib.hid (fun e he => by cases he), Lib.hid (by simp), Lib.hid (fun e he => by cases he), Lib.hid (fun e he => by cases he), Lib.hid (Keep.refl _ _)⟩
  case round =>
    obtain ⟨q, La, N, mdN, ρN, row3, A3, c3, row4, A4, c4, hq, rfl, rfl, rfl, HS3, HR3, HS4, HR4, HDN, HSub, HFst, HLk, HGN, HK⟩ := hrel
    have e2 : IntKind.i64.wrap ((q : Int) + 1) = (q : Int) + 1 := IntWalk.i64_in _ (by omega)
    by_cases hlt : q < k
    · obtain ⟨g0, off, hA0, p0, p1⟩ := (HIds.out.keep0 HK.out).at_ hlt
      obtain ⟨x, hx⟩ : ∃ x, ids.getD q (0, 0) = x := ⟨_, rfl⟩
      rw [hx] at p0 p1
      have HTk := Lib.hid (show ids.take (q + 1) = ids.take q ++ [x] from by
        have hl : q < ids.length := by rw [HLen.out]; exact hlt
        have : ids.getD q (0, 0) = ids[q] := by simp [List.getD, hl]
        rw [← hx, this, List.take_succ_eq_append_getElem hl])
      obtain ⟨a, i⟩ := x
      simp only at p0 p1
      subst hA0
      have q1 : (q : Int) < (k : Int) := by omega
      have q2 : (0 : Int) ≤ (q : Int) := by omega
      clear hx
      go_wp2_with fail
      refine (rfind_any (HW.out.keep0 HK.out) (by omega) (a, i)).mono ?_
      rintro e W1 ⟨j, rfl, hf, hk⟩
      have HK1 := Lib.hid (keep0_trans _ _ _ HK.out hk)
      have HS31 := Lib.hid (HS3.out.keep hk (fun _ _ h => h))
      have HS41 := Lib.hid (HS4.out.keep hk (fun _ _ h => h))
      have HDN1 := Lib.hid (HDN.out.kp0 hk)
      have HP := Lib.hid (fun W (hW : Keep (fun _ => False) W1 W) => (⟨(keep0_trans _ _ _ hk hW).cell p0 (fun h => h), (keep0_trans _ _ _ hk hW).cell p1 (fun h => h)⟩ : W.cell? ⟨g0, off + q * 2, none⟩ = some (.int .i64 a) ∧ W.cell? ⟨g0, off + q * 2 + 1, none⟩ = some (.int .i64 i)))
      clear hk HS3 HS4 HDN HK p0 p1
      rcases hf with ⟨rfl, hno⟩ | ⟨kk, rfl, hkl, hkx⟩
      · have HNoF := Lib.hid hno
        clear hno
        obtain ⟨row, A, c, ρ, h1, _⟩ := HW.out.keep0 HK1.out
        have HB1 := Lib.hid h1
        clear h1
        go_upto_region 9 with (fail)
        refine wp_region_krip (Keep (fun _ => False)) (Keep.refl _) keep0_trans 18 (by kernel_rfl) (by kernel_rfl) (Ts := [none, none, none, some (.inl (.int .i64 mn)), none, none, none, some (.inl (.int .i64 mx)), none, none, none, some (.inl (.int .i64 wd)), some (.inr (fun v W => ∃ g : Nat, v = .tuple #[.pointer (some ⟨g, 0, none⟩), .int .i64 0] ∧ RHas W g none (newR mn mx wd) ∧ W1.heap.size ≤ g)), some (.inr (fun v W => ∃ g : Nat, v = .tuple #[.pointer (some ⟨g, 0, none⟩), .int .i64 0] ∧ RHas W g none (newR mn mx wd) ∧ W1.heap.size ≤ g)), some (.inr (fun v W => ∃ g : Nat, v = .pointer (some ⟨g, 0, none⟩) ∧ RHas W g none (newR mn mx wd) ∧ W1.heap.size ≤ g)), some (.inl (.int .i64 0)), some (.inr (fun v W => ∃ g : Nat, v = .pointer (some ⟨g, 0, none⟩) ∧ RHas W g none (newR mn mx wd) ∧ W1.heap.size ≤ g)), some (.inl (.int .i64 0))]) ?_
        simp only [List.take, List.drop]
        refine kAll_p (fun K hK => ?_)
        go_simp
        generalize hZ : (Act.mk _ _) = Z
        refine hK Z ?_
        subst hZ
        clear hK K
        refine kAll_p (fun K hK => ?_)
        go_simp
        generalize hZ : (Act.mk _ _) = Z
        refine hK Z ?_
        subst hZ
        clear hK K
        refine kAll_p (fun K hK => ?_)
        go_simp
        generalize hZ : (Act.mk _ _) = Z
        refine hK Z ?_
        subst hZ
        clear hK K
        refine kAll_d _ (fun W hW hF => kStep_of fun K Q hK => ?_) ?_
        · have hcell := (HB1.out.keep (keepD (Keep.refl _ _) hW) (fun h => h)).cell 0
          simp at hcell
          go_simp
          exact hK _ _ (Keep.refl _ _) rfl
        refine kAll_p (fun K hK => ?_)
        go_simp
        generalize hZ : (Act.mk _ _) = Z
        refine hK Z ?_
        subst hZ
        clear hK K
        refine kAll_p (fun K hK => ?_)
        go_simp
        generalize hZ : (Act.mk _ _) = Z
        refine hK Z ?_
        subst hZ
        clear hK K
        refine kAll_p (fun K hK => ?_)
        go_simp
        generalize hZ : (Act.mk _ _) = Z
        refine hK Z ?_
        subst hZ
        clear hK K
        refine kAll_d _ (fun W hW hF => kStep_of fun K Q hK => ?_) ?_
        · have hcell := (HB1.out.keep (keepD (Keep.refl _ _) hW) (fun h => h)).cell 1
          simp at hcell
          go_simp
          exact hK _ _ (Keep.refl _ _) rfl
        refine kAll_p (fun K hK => ?_)
        go_simp
        generalize hZ : (Act.mk _ _) = Z
        refine hK Z ?_
        subst hZ
        clear hK K
        refine kAll_p (fun K hK => ?_)
        go_simp
        generalize hZ : (Act.mk _ _) = Z
        refine hK Z ?_
        subst hZ
        clear hK K
        refine kAll_p (fun K hK => ?_)
        go_simp
        generalize hZ : (Act.mk _ _) = Z
        refine hK Z ?_
        subst hZ
        clear hK K
        refine kAll_d _ (fun W hW hF => kStep_of fun K Q hK => ?_) ?_
        · have hcell := (HB1.out.keep (keepD (Keep.refl _ _) hW) (fun h => h)).cell 2
          simp at hcell
          go_simp
          exact hK _ _ (Keep.refl _ _) rfl
        refine kAll_t _ (fun _ _ _ hk h => by obtain ⟨g, e, h1, h2⟩ := h; exact ⟨g, e, h1.keepS hk (fun h => h) (fun _ _ h => h), h2⟩) (fun W hW hF => kStep_of fun K Q hK => ?_) (fun u0 => ?_)
        · go_simp
          refine (rnew_ok mn mx wd W HMay.out.1 HMay.out.2.1 HMay.out.2.2.1 HMay.out.2.2.2.1 HMay.out.2.2.2.2).mono ?_
          rintro e w' ⟨rfl, rfl⟩
          have hs := (keepD (Keep.refl _ W1) hW).size
          exact hK _ _ ((Keep.refl _ _).alloc _) ⟨_, rfl, ⟨_, _, _, Blk.new _ _ _, SlK.nil_ _ _ _⟩, hs⟩
        refine kAll_t _ (fun _ _ _ hk h => by obtain ⟨g, e, h1, h2⟩ := h; exact ⟨g, e, h1.keepS hk (fun h => h) (fun _ _ h => h), h2⟩) (fun W hW hF => kStep_of fun K Q hK => ?_) (fun u1 => ?_)
        · obtain ⟨g, rfl, h1, h2⟩ := kHas_at hF 0 rfl (by kernel_rfl)
          go_simp
          exact hK _ _ (Keep.refl _ _) ⟨g, rfl, h1, h2⟩
        refine kAll_t _ (fun _ _ _ hk h => by obtain ⟨g, e, h1, h2⟩ := h; exact ⟨g, e, h1.keepS hk (fun h => h) (fun _ _ h => h), h2⟩) (fun W hW hF => kStep_of fun K Q hK => ?_) (fun u2 => ?_)
        · obtain ⟨g, rfl, h1, h2⟩ := kHas_at hF 0 rfl (by kernel_rfl)
          go_simp
          exact hK _ _ (Keep.refl _ _) ⟨g, rfl, h1, h2⟩
        refine kAll_d _ (fun W hW hF => kStep_of fun K Q hK => ?_) ?_
        · obtain ⟨g, rfl, h1, h2⟩ := kHas_at hF 1 rfl (by kernel_rfl)
          go_simp
          exact hK _ _ (Keep.refl _ _) rfl
        refine kAll_t _ (fun _ _ _ hk h => by obtain ⟨g, e, h1, h2⟩ := h; exact ⟨g, e, h1.keepS hk (fun h => h) (fun _ _ h => h), h2⟩) (fun W hW hF => kStep_of fun K Q hK => ?_) (fun u3 => ?_)
        · obtain ⟨g, rfl, h1, h2⟩ := kHas_at hF 0 rfl (by kernel_rfl)
          go_simp
          exact hK _ _ (Keep.refl _ _) ⟨g, rfl, h1, h2⟩
        refine kAll_d _ (fun W hW hF => kStep_of fun K Q hK => ?_) ?_
        · go_simp
          exact hK _ _ (Keep.refl _ _) rfl
        refine kAll_nil (fun W2 hW hF => ?_)
        obtain ⟨g, rfl, hh, hg2⟩ : ∃ g : Nat, u3 = .pointer (some ⟨g, 0, none⟩) ∧ RHas W2 g none (newR mn mx wd) ∧ W1.heap.size ≤ g := kAllHas_at hF 0 rfl
        have hk2 : Keep (fun _ => False) W1 W2 := keepD (Keep.refl _ _) hW
        have HH2 := Lib.hid hh
        have HG2 := Lib.hid hg2
        have HK12 := Lib.hid hk2
        clear hF hW hh hg2 hk2
        go_wp2_with fail
        refine (rbegin_any g none (newR mn mx wd) now W2 HH2.out).mono ?_
        rintro e W3 ⟨rfl, rowf, hh3, hk3, hr3⟩
        rw [HNd.out] at hh3
        have hk13 : Keep (fun _ => False) W1 W3 := HK12.out.trans (hk3.mono fun y _ e => .inr (by subst e; exact HG2.out))
        have HH3 := Lib.hid hh3
        have HRf := Lib.hid (show ∀ y, rowf = some y → W1.heap.size ≤ y from fun y hy => by
          rcases hr3 with e | e
          · rw [hy] at e; cases e
          · exact Nat.le_trans HK12.out.size (e y hy))
        have HK13 := Lib.hid hk13
        obtain ⟨pp0, pp1⟩ := HP.out W3 hk13
        clear hh3 hk3 hr3 hk13
        go_upto_region 12 with (at_builtin; refine wpList_append_slK rfl _ _ _ rfl i0 _ 24 Try.underlying64 HI0.out HZ0.out HZ1.out HZ2.out rfl (by omega) ((HS31.out.keep HK13.out (fun _ _ h => h)).keep ((Keep.refl (fun _ => False) _).alloc _) (fun _ _ h => h)) rfl rfl (RdK.of_blk (Blk.new _ _ _) 1 3 rfl) (one_flatO [((a, i), g)]) (by unfold maxLen; omega) (by omega) ?_; intro row5 A5 c5 V hs5 hr5
                                obtain ⟨hk5, hw5⟩ := grew_new hr5 ((keep0_trans _ _ _ HK1.out HK13.out).alloc _) HR3.out
                                have HS5 := Lib.hid hs5
                                have HKv := Lib.hid hk5
                                have HR5 := Lib.hid hw5
                                have HGr := Lib.hid hr5
                                clear hs5 hr5 hk5 hw5)
        have hgr : Grew row3 A3 c3 (W3.alloc (.cells #[.int .i64 a, .int .i64 i, .pointer (some ⟨g, 0, none⟩)] 69)) row5 A5 c5 V := HGr.out.resolve_left (fun h => by have := h.1; omega)
        have hkr : Keep (fun y => row3 = some y) W3 V := keepS0 ((Keep.refl _ W3).alloc _) hgr.keep
        have hs3 := HS31.out.keep HK13.out (fun _ _ h => h)
        have hlt3 : ∀ y, row3 = some y → y < W1.heap.size := HS31.out.lt
        have hG1 : W1.heap.size ≤ g := HG2.out
        have hB1 : w.heap.size ≤ W1.heap.size := HK1.out.size
        have hhv : RHas V g rowf nd := HH3.out.keepS hkr (fun e => by have := hlt3 g e; omega) (fun y hy e => by have := hlt3 y e; have := HRf.out y hy; omega)
        have hdv := ((HDN1.out.kp0 HK13.out).keepB hs3 hkr).more (T := fun y => w.heap.size ≤ y ∧ y < V.heap.size) (fun y hy => ⟨hy.1, Nat.lt_of_lt_of_le hy.2 hkr.size⟩) (fun y hy => hy.2)
        have hfr : ∀ f ∈ N, f.2 ≠ g := fun f hf e => by have := (HDN1.out.has f hf).1.blk_lt; omega
        have hadd := hdv.add (x := (a, i)) hhv (show nd.Ok from HNd.out ▸ (newR_ok HMay.out).begin_ now) ⟨by omega, hhv.blk_lt⟩ (fun y hy => ⟨by have := HRf.out y hy; omega, hhv.row_lt y hy⟩) hfr (fun f hf y hy hy2 => by
          have := (HDN1.out.has f hf).1.row_lt y hy2; have := HRf.out y hy; omega)
        have hold : ∀ e ∈ La, ¬ e.2 = g := fun e he e1 => by
          rcases HSub.out e he with h | h
          · obtain ⟨_, _, _, _, _, _, _, _, hd⟩ := HW.out
            have := (hd.has e h).1.blk_lt; omega
          · exact hfr e h e1
        have hmx : ∀ e ∈ La, mix w.heap.size md mdN e.2 = mix w.heap.size md (fun y => if y = g then nd else mdN y) e.2 := fun e he => by
          unfold mix
          show _ = if e.2 < w.heap.size then md e.2 else (if e.2 = g then nd else mdN e.2)
          rw [if_neg (hold e he)]
        have hmf : mix w.heap.size md (fun y => if y = g then nd else mdN y) g = nd := by
          unfold mix
          rw [if_neg (by omega)]
          exact if_pos rfl
        have HDv := Lib.hid hadd
        have HHv := Lib.hid hhv
        have HOkv := Lib.hid (show nd.Ok from HNd.out ▸ (newR_ok HMay.out).begin_ now)
        have HGlv := Lib.hid (show nd.gaps.length ≤ 4000 from by rw [← HNd.out]; simp [newR, R.begin_])
        have HMf := Lib.hid hmf
        have HLo := Lib.hid (show lateR La (mix w.heap.size md (fun y => if y = g then nd else mdN y)) now = lateR La (mix w.heap.size md mdN) now from (lateR_congr now hmx).symm)
        have HSubv := Lib.hid (show ∀ e ∈ La ++ [((a, i), g)], e ∈ L ∨ e ∈ N ++ [((a, i), g)] from fun e he => by
          rcases List.mem_append.1 he with he | he
          · exact (HSub.out e he).imp id fun h => List.mem_append.2 (.inl h)
          · exact .inr (List.mem_append.2 (.inr he)))
        have HLkv := Lib.hid (show ∀ e ∈ La ++ [((a, i), g)], LookR L md nd e.1 (mix w.heap.size md (fun y => if y = g then nd else mdN y) e.2) from fun e he => by
          rcases List.mem_append.1 he with he | he
          · rw [← hmx e he]; exact HLk.out e he
          · rw [List.mem_singleton.1 he, hmf]; exact .inr ⟨HNoF.out, rfl⟩)
        have HGNv := Lib.hid (show ∀ e ∈ N ++ [((a, i), g)], ((fun y => if y = g then nd else mdN y) e.2).gaps.length ≤ 4000 from fun e he => by
          rcases List.mem_append.1 he with he | he
          · simp only [if_neg (hfr e he)]; exact HGN.out e he
          · rw [List.mem_singleton.1 he]; simp only [if_true]; exact HGlv.out)
        have HS5v := Lib.hid (show SlK V 69 3 row5 A5 (q + 1) c5 ((La ++ [((a, i), g)]).flatMap cO) from by rw [List.flatMap_append]; exact HS5.out)
        have HS4v := Lib.hid ((HS41.out.keep HK13.out (fun _ _ h => h)).keep hkr (fun y hy e => by
          obtain ⟨cs, h1⟩ := hs3.row_at y e
          obtain ⟨cs', h2⟩ := (HS41.out.keep HK13.out (fun _ _ h => h)).row_at y hy
          exact h1.ne_ h2 (by decide) rfl))
        clear hgr hkr hs3 hlt3 hG1 hB1 hhv hdv hfr hadd hold hmx hmf HS5 HGr HH3 HRf HK13 HS31 HS41 HDN1 HB1 pp0 pp1 HG2 HH2 HK12
        have hlaq : La.length = q := by have h1 := congrArg List.length HFst.out; have h2 := HLen.out; simp at h1; omega
        have HLq := Lib.hid hlaq
        obtain ⟨g5, off5, hA5, _, _, u5⟩ := HS5v.out.ent (by simp [hlaq]) (show q < q + 1 by omega)
        rw [show (La ++ [((a, i), g)]).getD q ent0 = ((a, i), g) by simp [List.getD, ← hlaq]] at u5
        have e8 : IntKind.i64.wrap ((q : Int) + 1 - 1) = (q : Int) := by rw [show (q : Int) + 1 - 1 = (q : Int) by omega]; exact IntWalk.i64_in _ (by omega)
        have q3 : (q : Int) < (q : Int) + 1 := by omega
        subst hA5
        clear hlaq
        go_wp2_with fail
        refine (rlate_any ((a, i), g).2 rowf nd now V HHv.out HOkv.out HGlv.out).mono ?_
        rintro e W6 ⟨rfl, k6, hw6⟩
        have hk6 : Keep (fun _ => False) V W6 := by rw [hw6]; exact (Keep.refl _ _).drewN _
        have HS56 := Lib.hid (HS5v.out.keep hk6 (fun _ _ h => h))
        have HS46 := Lib.hid (HS4v.out.keep hk6 (fun _ _ h => h))
        have HD6 := Lib.hid (HDv.out.kp0 hk6)
        have HK6 := Lib.hid (keep0_trans _ _ _ HKv.out hk6)
        have HF6 := Lib.hid (show (La ++ [((a, i), g)]).map Prod.fst = ids.take (q + 1) from by rw [List.map_append, HFst.out, HTk.out]; rfl)
        have HLl := Lib.hid (show (lateR La (mix w.heap.size md mdN) now).length ≤ 1000 from Nat.le_trans (lateR_len _ _ _) (by have := HLq.out; omega))
        clear hw6 hk6 HS5v HS4v HDv HKv u5
        rcases Bool.eq_false_or_eq_true (nd.late now) with hl | hl
        · have HE := Lib.hid (show lateR (La ++ [((a, i), g)]) (mix w.heap.size md (fun y => if y = g then nd else mdN y)) now = lateR La (mix w.heap.size md mdN) now ++ [(a, i)] from by rw [lateR_add, HLo.out, HMf.out, hl]; rfl)
          rw [hl]
          clear hl
          obtain ⟨gi, offi, hAi, z0, z1⟩ := (HIds.out.keep0 HK6.out).at_ hlt
          have hx : ids.getD q (0, 0) = (a, i) := by
            have hl1 : q < ids.length := by rw [HLen.out]; exact hlt
            have h1 := HTk.out
            rw [List.take_succ_eq_append_getElem hl1] at h1
            have h2 := List.append_cancel_left h1
            simp only [List.cons.injEq, and_true] at h2
            simp [List.getD, hl1, h2]
          rw [hx] at z0 z1
          simp only at z0 z1
          have hai := hAi
          injection hai with hai
          injection hai with hai1 hai2
          subst hai1 hai2
          have hll := HLl.out
          clear hx hAi
          go_wp2_with (at_builtin; refine wpList_append_slK rfl _ _ _ rfl j0 _ 16 Try.underlying30 HJ0.out HY0.out HY1.out HY2.out rfl (by omega) (HS46.out.keep ((Keep.refl (fun _ => False) _).alloc _) (fun _ _ h => h)) rfl rfl (RdI.one_ (x := (a, i)) (Blk.new _ _ _)).2 (one_flat' _) (by unfold maxLen; omega) (by omega) ?_; intro row6 A6 c6 W7 hs7 hr7
                       have HS7 := Lib.hid hs7
                       have HR7 := Lib.hid hr7
                       clear hs7 hr7)
          have hgr7 := HR7.out.resolve_left (fun h => by have := h.1; omega)
          have hk7 : Keep (fun y => row4 = some y) W6 W7 := keepS0 ((Keep.refl _ W6).alloc _) (Grew.keep hgr7)
          have HD7 := Lib.hid ((HD6.out.keepI HS46.out hk7).more (T := fun y => w.heap.size ≤ y ∧ y < W7.heap.size) (fun y hy => ⟨hy.1, Nat.lt_of_lt_of_le hy.2 hk7.size⟩) (fun y hy => hy.2))
          have HS57 := Lib.hid (HS56.out.keep hk7 (fun y hy e => by
            obtain ⟨cs, h1⟩ := HS46.out.row_at y e
            obtain ⟨cs', h2⟩ := HS56.out.row_at y hy
            exact h1.ne_ h2 (by decide) rfl))
          have HK7 := Lib.hid (HK6.out.trans (hk7.mono fun y _ e => .inr (HR4.out y e)))
          have HR6 := Lib.hid (show ∀ y, row6 = some y → w.heap.size ≤ y from fun y hy => by
            rcases hgr7 with ⟨e, _⟩ | ⟨_, z, e, hz⟩
            · exact HR4.out y (by rw [← e, hy])
            · rw [hy] at e; injection e with e; have := HK6.out.size; simp at hz; omega)
          have HS8 := Lib.hid (show SlK W7 33 2 row6 A6 (lateR La (mix w.heap.size md mdN) now ++ [(a, i)]).length c6 ((lateR La (mix w.heap.size md mdN) now ++ [(a, i)]).flatMap cID) from by rw [List.length_append, List.flatMap_append]; exact HS7.out)
          clear hgr7 hk7 HS7 HR7
          go_roundw
          case rel => exact ⟨q + 1, La ++ [((a, i), g)], (N ++ [((a, i), g)]), (fun y => if y = g then nd else mdN y), _, row5, _, c5, row6, A6, c6, by omega, rfl, by rw [HE.out, List.length_append]; rfl, by go_num, HS57, HR5, Lib.hid (by rw [HE.out]; exact HS8.out), HR6, HD7, HSubv, HF6, HLkv, HGNv, HK7⟩
          case measure => simp [intOf]; omega
        · have HE := Lib.hid (show lateR (La ++ [((a, i), g)]) (mix w.heap.size md (fun y => if y = g then nd else mdN y)) now = lateR La (mix w.heap.size md mdN) now from by rw [lateR_add, HLo.out, HMf.out, hl]; simp)
          rw [hl]
          clear hl
          go_wp2
          go_roundw
          case rel => exact ⟨q + 1, La ++ [((a, i), g)], (N ++ [((a, i), g)]), (fun y => if y = g then nd else mdN y), _, row5, _, c5, row4, A4, c4, by omega, rfl, by rw [HE.out], by go_num, HS56, HR5, Lib.hid (by rw [HE.out]; exact HS46.out), HR4, HD6, HSubv, HF6, HLkv, HGNv, HK6⟩
          case measure => simp [intOf]; omega
      · obtain ⟨row, A, c, ρ, h1, h2, h3, h4, h5⟩ := HW.out
        have hmem := ent_mem hkl
        obtain ⟨m1, m2, m3, m4⟩ := h5.has _ hmem
        have hgl := HG.out _ hmem
        obtain ⟨gA, offA, hAA, r0, r1, r2⟩ := (h2.keep HK1.out (fun _ _ h => h)).ent rfl hkl
        have c3' := (h1.keep HK1.out (fun h => h)).cell 3
        simp at c3'
        subst hAA
        have HSf := Lib.hid hmem
        generalize L.getD kk ent0 = f at hkx hmem m1 m2 m3 m4 hgl r0 r1 r2 HSf
        obtain ⟨x, g⟩ := f
        simp only at hkx
        subst hkx
        simp only at m1 m2 m3 m4 hgl r0 r1 r2
        have HM1 := Lib.hid m1
        have HOkv := Lib.hid m2
        have HGlv := Lib.hid hgl
        have k1 : ¬ (kk : Int) < 0 := by omega
        have k2 : (0 : Int) ≤ (kk : Int) := by omega
        have k3 : (kk : Int) < (L.length : Int) := by omega
        clear h1 h2 h3 h4 h5 hmem m1 m2 m3 m4 hgl
        go_upto_region 12 with (at_builtin; refine wpList_append_slK rfl _ _ _ rfl i0 _ 24 Try.underlying64 HI0.out HZ0.out HZ1.out HZ2.out rfl (by omega) (HS31.out.keep ((Keep.refl (fun _ => False) _).alloc _) (fun _ _ h => h)) rfl rfl (RdK.of_blk (Blk.new _ _ _) 1 3 rfl) (one_flatO [((a, i), g)]) (by unfold maxLen; omega) (by omega) ?_; intro row5 A5 c5 V hs5 hr5
                                obtain ⟨hk5, hw5⟩ := grew_new hr5 (HK1.out.alloc _) HR3.out
                                have HS5 := Lib.hid hs5
                                have HKv := Lib.hid hk5
                                have HR5 := Lib.hid hw5
                                have HGr := Lib.hid hr5
                                clear hs5 hr5 hk5 hw5)
        have hgr : Grew row3 A3 c3 (W1.alloc (.cells #[.int .i64 a, .int .i64 i, .pointer (some ⟨g, 0, none⟩)] 69)) row5 A5 c5 V := HGr.out.resolve_left (fun h => by have := h.1; omega)
        have hkr : Keep (fun y => row3 = some y) W1 V := keepS0 ((Keep.refl _ W1).alloc _) hgr.keep
        have hgw : g < w.heap.size := HM1.out.blk_lt
        have hmf : mix w.heap.size md mdN g = md g := if_pos hgw
        have HDv := Lib.hid ((HDN1.out.keepB HS31.out hkr).more (T := fun y => w.heap.size ≤ y ∧ y < V.heap.size) (fun y hy => ⟨hy.1, Nat.lt_of_lt_of_le hy.2 hkr.size⟩) (fun y hy => hy.2))
        have HHv := Lib.hid (show RHas V g (ρ g) (md g) from HM1.out.keepS HKv.out (fun h => h) (fun _ _ h => h))
        have HMf := Lib.hid hmf
        have HSubv := Lib.hid (show ∀ e ∈ La ++ [((a, i), g)], e ∈ L ∨ e ∈ N from fun e he => by
          rcases List.mem_append.1 he with he | he
          · exact HSub.out e he
          · rw [List.mem_singleton.1 he]; exact .inl HSf.out)
        have HLkv := Lib.hid (show ∀ e ∈ La ++ [((a, i), g)], LookR L md nd e.1 (mix w.heap.size md mdN e.2) from fun e he => by
          rcases List.mem_append.1 he with he | he
          · exact HLk.out e he
          · rw [List.mem_singleton.1 he, hmf]; exact .inl ⟨_, HSf.out, rfl, rfl⟩)
        have HGNv := HGN
        have HS5v := Lib.hid (show SlK V 69 3 row5 A5 (q + 1) c5 ((La ++ [((a, i), g)]).flatMap cO) from by rw [List.flatMap_append]; exact HS5.out)
        have HS4v := Lib.hid (HS41.out.keep hkr (fun y hy e => by
          obtain ⟨cs, h1⟩ := HS31.out.row_at y e
          obtain ⟨cs', h2⟩ := HS41.out.row_at y hy
          exact h1.ne_ h2 (by decide) rfl))
        clear hgr hkr hgw hmf HS5 HGr HS31 HS41 HDN1 r0 r1 r2 c3' HM1
        have hlaq : La.length = q := by have h1 := congrArg List.length HFst.out; have h2 := HLen.out; simp at h1; omega
        have HLq := Lib.hid hlaq
        obtain ⟨g5, off5, hA5, _, _, u5⟩ := HS5v.out.ent (by simp [hlaq]) (show q < q + 1 by omega)
        rw [show (La ++ [((a, i), g)]).getD q ent0 = ((a, i), g) by simp [List.getD, ← hlaq]] at u5
        have e8 : IntKind.i64.wrap ((q : Int) + 1 - 1) = (q : Int) := by rw [show (q : Int) + 1 - 1 = (q : Int) by omega]; exact IntWalk.i64_in _ (by omega)
        have q3 : (q : Int) < (q : Int) + 1 := by omega
        subst hA5
        clear hlaq
        go_wp2_with fail
        refine (rlate_any ((a, i), g).2 (ρ g) (md g) now V HHv.out HOkv.out HGlv.out).mono ?_
        rintro e W6 ⟨rfl, k6, hw6⟩
        have hk6 : Keep (fun _ => False) V W6 := by rw [hw6]; exact (Keep.refl _ _).drewN _
        have HS56 := Lib.hid (HS5v.out.keep hk6 (fun _ _ h => h))
        have HS46 := Lib.hid (HS4v.out.keep hk6 (fun _ _ h => h))
        have HD6 := Lib.hid (HDv.out.kp0 hk6)
        have HK6 := Lib.hid (keep0_trans _ _ _ HKv.out hk6)
        have HF6 := Lib.hid (show (La ++ [((a, i), g)]).map Prod.fst = ids.take (q + 1) from by rw [List.map_append, HFst.out, HTk.out]; rfl)
        have HLl := Lib.hid (show (lateR La (mix w.heap.size md mdN) now).length ≤ 1000 from Nat.le_trans (lateR_len _ _ _) (by have := HLq.out; omega))
        clear hw6 hk6 HS5v HS4v HDv HKv u5
        rcases Bool.eq_false_or_eq_true ((md g).late now) with hl | hl
        · have HE := Lib.hid (show lateR (La ++ [((a, i), g)]) (mix w.heap.size md mdN) now = lateR La (mix w.heap.size md mdN) now ++ [(a, i)] from by rw [lateR_add, HMf.out, hl]; rfl)
          rw [hl]
          clear hl
          obtain ⟨gi, offi, hAi, z0, z1⟩ := (HIds.out.keep0 HK6.out).at_ hlt
          have hx : ids.getD q (0, 0) = (a, i) := by
            have hl1 : q < ids.length := by rw [HLen.out]; exact hlt
            have h1 := HTk.out
            rw [List.take_succ_eq_append_getElem hl1] at h1
            have h2 := List.append_cancel_left h1
            simp only [List.cons.injEq, and_true] at h2
            simp [List.getD, hl1, h2]
          rw [hx] at z0 z1
          simp only at z0 z1
          have hai := hAi
          injection hai with hai
          injection hai with hai1 hai2
          subst hai1 hai2
          have hll := HLl.out
          clear hx hAi
          go_wp2_with (at_builtin; refine wpList_append_slK rfl _ _ _ rfl j0 _ 16 Try.underlying30 HJ0.out HY0.out HY1.out HY2.out rfl (by omega) (HS46.out.keep ((Keep.refl (fun _ => False) _).alloc _) (fun _ _ h => h)) rfl rfl (RdI.one_ (x := (a, i)) (Blk.new _ _ _)).2 (one_flat' _) (by unfold maxLen; omega) (by omega) ?_; intro row6 A6 c6 W7 hs7 hr7
                       have HS7 := Lib.hid hs7
                       have HR7 := Lib.hid hr7
                       clear hs7 hr7)
          have hgr7 := HR7.out.resolve_left (fun h => by have := h.1; omega)
          have hk7 : Keep (fun y => row4 = some y) W6 W7 := keepS0 ((Keep.refl _ W6).alloc _) (Grew.keep hgr7)
          have HD7 := Lib.hid ((HD6.out.keepI HS46.out hk7).more (T := fun y => w.heap.size ≤ y ∧ y < W7.heap.size) (fun y hy => ⟨hy.1, Nat.lt_of_lt_of_le hy.2 hk7.size⟩) (fun y hy => hy.2))
          have HS57 := Lib.hid (HS56.out.keep hk7 (fun y hy e => by
            obtain ⟨cs, h1⟩ := HS46.out.row_at y e
            obtain ⟨cs', h2⟩ := HS56.out.row_at y hy
            exact h1.ne_ h2 (by decide) rfl))
          have HK7 := Lib.hid (HK6.out.trans (hk7.mono fun y _ e => .inr (HR4.out y e)))
          have HR6 := Lib.hid (show ∀ y, row6 = some y → w.heap.size ≤ y from fun y hy => by
            rcases hgr7 with ⟨e, _⟩ | ⟨_, z, e, hz⟩
            · exact HR4.out y (by rw [← e, hy])
            · rw [hy] at e; injection e with e; have := HK6.out.size; simp at hz; omega)
          have HS8 := Lib.hid (show SlK W7 33 2 row6 A6 (lateR La (mix w.heap.size md mdN) now ++ [(a, i)]).length c6 ((lateR La (mix w.heap.size md mdN) now ++ [(a, i)]).flatMap cID) from by rw [List.length_append, List.flatMap_append]; exact HS7.out)
          clear hgr7 hk7 HS7 HR7
          go_roundw
          case rel => exact ⟨q + 1, La ++ [((a, i), g)], N, mdN, ρN, row5, _, c5, row6, A6, c6, by omega, rfl, by rw [HE.out, List.length_append]; rfl, by go_num, HS57, HR5, Lib.hid (by rw [HE.out]; exact HS8.out), HR6, HD7, HSubv, HF6, HLkv, HGNv, HK7⟩
          case measure => simp [intOf]; omega
        · have HE := Lib.hid (show lateR (La ++ [((a, i), g)]) (mix w.heap.size md mdN) now = lateR La (mix w.heap.size md mdN) now from by rw [lateR_add, HMf.out, hl]; simp)
          rw [hl]
          clear hl
          go_wp2
          go_roundw
          case rel => exact ⟨q + 1, La ++ [((a, i), g)], N, mdN, ρN, row5, _, c5, row4, A4, c4, by omega, rfl, by rw [HE.out], by go_num, HS56, HR5, Lib.hid (by rw [HE.out]; exact HS46.out), HR4, HD6, HSubv, HF6, HLkv, HGNv, HK6⟩
          case measure => simp [intOf]; omega
    · obtain rfl : q = k := by omega
      obtain ⟨row, A, c, ρ, h1, h2, h3, h4, h5⟩ := HW.out
      have hbr := h1.keep HK.out (fun h => h)
      have c3' := hbr.cell 3
      have f3' := hbr.frozen 3
      simp at c3'
      have HBr := Lib.hid hbr
      have H1 := Lib.hid h1
      have H3 := Lib.hid h3
      have H5 := Lib.hid h5
      clear h1 h2 h3 h4 h5 hbr
      go_wp2
      go_ret
      have hkk : Keep (fun y => y = b) wr (wr.setCell ⟨b, 3, none⟩ (.slice A3 q c3)) := (Keep.refl (fun y => y = b) wr).setCell (fun _ => rfl) _
      have hbw : b < w.heap.size := H1.out.lt
      have hids : ids.take q = ids := List.take_of_length_le (Nat.le_of_eq HLen.out)
      have hfst := HFst.out
      rw [hids] at hfst
      have hlq : La.length = q := by have h1 := congrArg List.length hfst; have h2 := HLen.out; simp at h1; omega
      have hold : ∀ e ∈ L, e.2 < w.heap.size := fun e he => (H5.out.has e he).1.blk_lt
      have hnew : ∀ e ∈ N, w.heap.size ≤ e.2 := fun e he => ((HDN.out.has e he).2.2.1).1
      have h43 : ∀ y, row4 = some y → ¬ row3 = some y := fun y hy e => by
        obtain ⟨cs, z1⟩ := HS4.out.row_at y hy
        obtain ⟨cs', z2⟩ := HS3.out.row_at y e
        exact z1.ne_ z2 (by decide) rfl
      refine ⟨fun y => (S y ∨ (w.heap.size ≤ y ∧ y < wr.heap.size)) ∧ ¬ row4 = some y, La, mix w.heap.size md mdN, row4, A4, c4, rfl, HS4.out.keep hkk (fun y hy e => by have := HR4.out y hy; omega), fun y hy => ⟨HR4.out y hy, fun h => h.2 hy⟩,
        ⟨row3, A3, c3, fun y => if y < w.heap.size then ρ y else ρN y, by simpa [hlq] using HBr.out.set_ 3 (.slice A3 q c3), by rw [hlq]; exact HS3.out.keep hkk (fun y hy e => by have := HR3.out y hy; omega), ⟨.inl H3.out, fun e => by have := HR4.out b e; omega⟩, fun y hy => ⟨.inr ⟨HR3.out y hy, HS3.out.lt y hy⟩, fun e => h43 y e hy⟩, ?_⟩, hfst, HLk.out, fun y hy => hy.1.imp id fun h => h.1, (HK.out.mono fun _ _ h => h.elim).trans (hkk.mono fun y _ e => .inl (by rw [e]; exact H3.out))⟩
      refine ⟨fun e he => ?_, fun e he f hf y hy hy2 => ?_, ?_, fun y hy => ?_⟩
      · rcases HSub.out e he with h | h
        · obtain ⟨z1, z2, z3, z4⟩ := H5.out.has e h
          have hl := hold e h
          rw [if_pos hl, show mix w.heap.size md mdN e.2 = md e.2 from if_pos hl]
          refine ⟨(z1.keepS HK.out (fun h => h) (fun _ _ h => h)).keepS hkk (fun h => (z1.ne_blk H1.out (by decide) (by decide)).1 h.symm) (fun y hy h => (z1.ne_blk H1.out (by decide) (by decide)).2 (h ▸ hy)), z2, ⟨.inl z3, fun h => by have := HR4.out _ h; omega⟩, fun y hy => ⟨.inl (z4 y hy), fun h => by have := HR4.out _ h; have := z1.row_lt y hy; omega⟩⟩
        · obtain ⟨z1, z2, z3, z4⟩ := HDN.out.has e h
          have hl : ¬ e.2 < w.heap.size := by have := hnew e h; omega
          rw [if_neg hl, show mix w.heap.size md mdN e.2 = mdN e.2 from if_neg hl]
          refine ⟨z1.keepS hkk (fun h => (z1.ne_blk HBr.out (by decide) (by decide)).1 h.symm) (fun y hy h => (z1.ne_blk HBr.out (by decide) (by decide)).2 (h ▸ hy)), z2, ⟨.inr z3, fun h => ?_⟩, fun y hy => ⟨.inr (z4 y hy), fun h => ?_⟩⟩
          · obtain ⟨cs, q1⟩ := HS4.out.row_at _ h
            exact (z1.ne_blk q1 (by decide) (by decide)).1 rfl
          · obtain ⟨cs, q1⟩ := HS4.out.row_at _ h
            exact (z1.ne_blk q1 (by decide) (by decide)).2 hy
      · rcases HSub.out e he with h | h <;> rcases HSub.out f hf with h' | h'
        · rw [if_pos (hold e h)] at hy; rw [if_pos (hold f h')] at hy2
          exact H5.out.ap e h f h' y hy hy2
        · have hl : ¬ f.2 < w.heap.size := by have := hnew f h'; omega
          rw [if_pos (hold e h)] at hy; rw [if_neg hl] at hy2
          have := (H5.out.has e h).1.row_lt y hy
          have := ((HDN.out.has f h').2.2.2 y hy2).1; omega
        · have hl : ¬ e.2 < w.heap.size := by have := hnew e h; omega
          rw [if_neg hl] at hy; rw [if_pos (hold f h')] at hy2
          have := (H5.out.has f h').1.row_lt y hy2
          have := ((HDN.out.has e h).2.2.2 y hy).1; omega
        · have hl : ¬ e.2 < w.heap.size := by have := hnew e h; omega
          have hl' : ¬ f.2 < w.heap.size := by have := hnew f h'; omega
          rw [if_neg hl] at hy; rw [if_neg hl'] at hy2
          exact HDN.out.ap e h f h' y hy hy2
      · have hnd2 : (La.map Prod.fst).Nodup := by rw [hfst]; exact HNo.out
        unfold List.Nodup at hnd2 ⊢
        rw [List.pairwise_map] at hnd2 ⊢
        refine hnd2.imp_of_mem fun {e f} he hf hne e2 => hne ?_
        have inj : ∀ {M : List Ent}, (M.map Prod.snd).Nodup → ∀ {e f : Ent}, e ∈ M → f ∈ M → e.2 = f.2 → e.1 = f.1 := fun {M} hM {e f} he hf h2 => by
          induction M with
          | nil => cases he
          | cons z M ih =>
            rw [List.map_cons, List.nodup_cons] at hM
            rcases List.mem_cons.1 he with he1 | he1 <;> rcases List.mem_cons.1 hf with hf1 | hf1
            · rw [he1, hf1]
            · exact absurd (List.mem_map.2 ⟨f, hf1, by rw [← h2, he1]⟩) hM.1
            · exact absurd (List.mem_map.2 ⟨e, he1, by rw [h2, hf1]⟩) hM.1
            · exact ih hM.2 he1 hf1
        rcases HSub.out e he with h | h <;> rcases HSub.out f hf with h' | h'
        · exact inj H5.out.one h h' e2
        · have := hold e h; have := hnew f h'; omega
        · have := hnew e h; have := hold f h'; omega
        · exact inj HDN.out.one h h' e2
      · have hz := hkk.size
        rcases hy.1 with h | h
        · have := H5.out.lt y h; have := HK.out.size; omega
        · omega
end Go.Proofs.Ytenphdgnaknbeaa
