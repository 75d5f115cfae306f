/-
  The statement WatchPlays. Written by gen_plays.py.
-/
import Derived.Test.YtenphdgnaknbeaaRefWF
import Derived.Test.YtenphdgnaknbeaaWatJ
import Derived.Test.YtenphdgnaknbeaaKpiv
import Derived.Test.YtenphdgnaknbeaaKrip2
namespace Go.Proofs.Ytenphdgnaknbeaa
open Go.RowKit
attribute [local irreducible] kAll kAllP
attribute [local go_sem] kQuiet kQuietUpon
set_option maxRecDepth 100000

theorem Own.kk {w0 w W : World} {S : Nat → Nat → Prop} (h : Own w0 w S) (i : Nat) (hW : Keep (S i) w.drew W) : Keep (fun _ => False) w0 W := (h.keepN (keepDT hW) (h.lo i)).k
theorem SlK.row_of {w : World} {e : TypeId} {k : Nat} {row : Option Nat} {A : Option Addr} {n c : Nat} {xs : List Value} (h : SlK w e k row A n c xs) : ∀ g off, A = some ⟨g, off, none⟩ → row = some g := by
  intro g off e
  rcases h.2.2.2 with ⟨_, e2, _⟩ | ⟨g', off', _, e1, e2, _⟩
  · rw [e] at e2; cases e2
  · rw [e] at e2; injection e2 with e2; injection e2 with e2 _; rw [e1, e2]
theorem Tied.len_le {K : Nat} {m : M} {L : List Ent} {md : Nat → R} (h : Tied K m L md) {l : List ID} (hr : Ris l) (hm : ∀ x, x ∈ l ↔ (m x).isSome = true) : l.length ≤ L.length := by
  have e : l = setM (L.map Prod.fst) := by
    rw [← setM_of_ris hr]
    exact setM_ext fun x => by rw [hm x, h.dom x]
  have := setM_len (L.map Prod.fst)
  rw [← e, List.length_map] at this
  exact this
theorem lateL_le (nd : D) (m : M) (now : Int) (ids : List ID) : (lateL nd m now ids).length ≤ ids.length := List.length_filter_le _ _

set_option maxHeartbeats 8000000 in
theorem watchPlays_tell (mn mx wd : Int) (A : Option Addr) (n c : Nat) (l : List Stp) (w : World) (hl : RdS w A n l) :
    Calls Try.prog 5 #[.int .i64 mn, .int .i64 mx, .int .i64 wd, .slice A n c] w (Tell (.bool true) w) := by
  have HLs := Lib.hid hl
  have HLen := Lib.hid hl.1
  clear hl
  go_enter Try.func5, Try.ntmps5
  go_wp2_with fail
  refine (long_any A n c l _ HLs.out).mono ?_
  rintro e w1 ⟨rfl, hk⟩
  have HK1 := Lib.hid hk
  clear hk
  rcases Bool.eq_false_or_eq_true (longM l) with hlong | hlong
  · rw [hlong]
    go_wp2_with fail
    refine (awake_any _).mono ?_
    rintro e w2 ⟨rfl, hk⟩
    have HK2 := Lib.hid (keep0_trans _ _ _ HK1.out hk)
    clear hk
    go_wp2
    go_ret
    exact ⟨rfl, HK2.out⟩
  · rw [hlong]
    have HLo := Lib.hid (long_no hlong).2
    have hn100 : n ≤ 100 := by have := (long_no hlong).1; have := HLen.out; omega
    clear hlong
    by_cases hmay : MayNew mn mx wd
    · go_wp2_with fail
      refine (wnew_ok mn mx wd w1 hmay).mono ?_
      rintro e w2 ⟨a, T, rfl, ha, hT, hk⟩
      have HA := Lib.hid (show ∃ T, Wt w2 a (30 * 0) T mn mx wd (fun _ => none) ∧ ∀ g, T g → w1.heap.size ≤ g from ⟨T, ha, hT⟩)
      have HK2 := Lib.hid hk
      clear ha hT hk
      go_wp2_with fail
      refine (rwnew_ok mn mx wd w2 hmay).mono ?_
      rintro e w3 ⟨b, T', md0, rfl, hb, hT, hk⟩
      obtain ⟨S0, h0⟩ := Two.first HA.out HK2.out ⟨T', hb, hT⟩ hk
      have HT0 := Lib.hid h0
      have HMay := Lib.hid hmay
      clear hb hT hk h0 hmay HA HK2
      go_wp2_with fail
      go_loopw [13] (fun j wr => ∃ (q : Nat) (S : Nat → Nat → Prop) (m : M) (L : List Ent) (md : Nat → R), q ≤ n ∧ j = .int .i64 (q : Int) ∧ Hid (Two w1 wr S mn mx wd a (30 * q) m b L md) ∧ Hid (Tied q m L md) ∧ Hid (L.length ≤ 30)) (fun j _ => n - (intOf j).toNat)
      case atStart => exact ⟨0, S0, _, [], md0, Nat.zero_le _, rfl, HT0, Lib.hid (tied_nil _ _), Lib.hid (Nat.zero_le _)⟩
      case round =>
        obtain ⟨q, S, m, L, md, hq, rfl, HT, HTi, HLl⟩ := hrel
        have e2 : IntKind.i64.wrap ((q : Int) + 1) = (q : Int) + 1 := IntWalk.i64_in _ (by omega)
        by_cases hlt : q < n
        · obtain ⟨s, hs⟩ : ∃ s, l.getD q stp0 = s := ⟨_, rfl⟩
          have hno := HLo.out s (hs ▸ getD_memS (by rw [HLen.out]; exact hlt))
          obtain ⟨g, off, hA, p0, p1, p2, p3, p4, ok⟩ := (HLs.out.keep0 HK1.out).at_ hlt
          rw [hs] at p0 p1 p2 p3 p4 ok
          clear hs
          obtain ⟨he, ⟨xa, xi⟩, B, k, cB, ids, now⟩ := s
          obtain ⟨okr, _, _, okx, oki, _⟩ := ok
          simp only at p0 p1 p2 p3 p4 okr okx oki hno
          subst hA
          have HRd := Lib.hid okr
          have HWx := Lib.hid okx
          have HWi := Lib.hid oki
          have HRis := Lib.hid hno.2
          have hk30 : k ≤ 30 := by have := okr.1; omega
          have HG := Lib.hid (World.block_lt_of_cell? _ _ p0)
          have HP0 := Lib.hid p0
          have HP1 := Lib.hid p1
          have HP2 := Lib.hid p2
          have HP3 := Lib.hid p3
          have HP4 := Lib.hid p4
          have q1 : (q : Int) < (n : Int) := by omega
          have q2 : (0 : Int) ≤ (q : Int) := by omega
          clear p0 p1 p2 p3 p4 okr okx oki hno
          go_wp2_with fail
          refine (wcopy_any HT.out.A (by omega)).mono ?_
          rintro e w4 ⟨c2, T, rfl, hc, hT, hk⟩
          have HC := Lib.hid (show ∃ T, Wt w4 c2 (30 * q) T mn mx wd m ∧ ∀ g, T g → wr.heap.size ≤ g from ⟨T, hc, hT⟩)
          have HK4 := Lib.hid hk
          clear hc hT hk
          go_wp2_with fail
          refine (pr_copy (HT.out.B.keep0 HK4.out) HTi.out (by have := HLl.out; omega) (by omega)).mono ?_
          rintro e w5 ⟨d2, T', L2, md2, rfl, hd, ht, hl, hT, hk⟩
          obtain ⟨S5, hf⟩ := HT.out.copies HC.out HK4.out ⟨T', hd, hT⟩ hk
          have HF := Lib.hid hf
          have HTd := Lib.hid ht
          have HLd := Lib.hid (show L2.length ≤ 30 by have := HLl.out; omega)
          clear hd ht hl hT hk hf HC HK4 HT
          have p0 := HF.out.own.k.cell HP0.out (fun h => h)
          rcases he with _ | _
          · have hhe : true = true := rfl
            clear hhe
            go_upto_region 16 with (fail)
            refine wp_region_krip (Keep (fun _ => False)) (Keep.refl _) keep0_trans 11 (by kernel_rfl) (by kernel_rfl) (Ts := [none, none, none, none, none, some (.inl (.slice B k cB)), none, none, none, none, some (.inl (.int .i64 now))]) ?_
            simp only [List.take, List.drop]
            refine kAll_p (fun K hK => ?_)
            go_simp
            generalize hZ : (Act.mk _ _) = Z
            refine hK Z ?_
            subst hZ
            clear hK K
            refine kAll_p (fun K hK => ?_)
            go_simp
            generalize hZ : (Act.mk _ _) = Z
            refine hK Z ?_
            subst hZ
            clear hK K
            refine kAll_p (fun K hK => ?_)
            go_simp
            generalize hZ : (Act.mk _ _) = Z
            refine hK Z ?_
            subst hZ
            clear hK K
            refine kAll_p (fun K hK => ?_)
            go_simp
            generalize hZ : (Act.mk _ _) = Z
            refine hK Z ?_
            subst hZ
            clear hK K
            refine kAll_p (fun K hK => ?_)
            go_simp
            generalize hZ : (Act.mk _ _) = Z
            refine hK Z ?_
            subst hZ
            clear hK K
            refine kAll_d _ (fun W hW hF => kStep_of fun K Q hK => ?_) ?_
            · have e3 := (keep0_trans _ _ _ HF.out.own.k (keepDT hW)).cell HP3.out (fun h => h)
              go_simp
              exact hK _ _ (Keep.refl _ _) rfl
            refine kAll_p (fun K hK => ?_)
            go_simp
            generalize hZ : (Act.mk _ _) = Z
            refine hK Z ?_
            subst hZ
            clear hK K
            refine kAll_p (fun K hK => ?_)
            go_simp
            generalize hZ : (Act.mk _ _) = Z
            refine hK Z ?_
            subst hZ
            clear hK K
            refine kAll_p (fun K hK => ?_)
            go_simp
            generalize hZ : (Act.mk _ _) = Z
            refine hK Z ?_
            subst hZ
            clear hK K
            refine kAll_p (fun K hK => ?_)
            go_simp
            generalize hZ : (Act.mk _ _) = Z
            refine hK Z ?_
            subst hZ
            clear hK K
            refine kAll_d _ (fun W hW hF => kStep_of fun K Q hK => ?_) ?_
            · have e4 := (keep0_trans _ _ _ HF.out.own.k (keepDT hW)).cell HP4.out (fun h => h)
              go_simp
              exact hK _ _ (Keep.refl _ _) rfl
            refine kAll_nil (fun W5 hW hF => ?_)
            have HF5 := Lib.hid (HF.out.keep0 (keepDT hW))
            clear hF hW HF p0
            obtain ⟨lt, hlt0⟩ : ∃ lt, lateL ((newD mn mx wd).begin_ now) m now ids = lt := ⟨_, rfl⟩
            obtain ⟨m7, hm7⟩ : ∃ m7, lookM ((newD mn mx wd).begin_ now) m ids = m7 := ⟨_, rfl⟩
            have HLt := Lib.hid hlt0
            have HM7 := Lib.hid hm7
            have HLtl := Lib.hid (show lt.length ≤ 30 by rw [← hlt0]; have := lateL_le ((newD mn mx wd).begin_ now) m now ids; have := HRd.out.1; omega)
            clear hlt0 hm7
            go_wp2_with fail
            refine (look_any HF5.out.A HMay.out B k cB ids (HRd.out.keep0 HF5.out.own.k) HWi.out (by omega) (fun y off2 hy e hs => by have h1 := rd_low HRd.out y off2 hy e; have h2 := HF5.out.own.lo 0 y hs; omega) now).mono ?_
            rintro e W6 ⟨T, row, A1, c1, rfl, hs, hr, ha, hT, hk⟩
            rw [HLt.out] at hs ⊢
            rw [HM7.out] at ha
            obtain ⟨S6, h6, e6, x6⟩ := HF5.out.turnA hk (n2 := 30 * (q + 1)) (by omega) (ha.mono (by omega)) hT
            have HRow := Lib.hid (show ∀ i y, row = some y → ¬ S6 i y from fun i y hy hs => by
              by_cases e : i = 0
              · subst e; rw [e6] at hs; exact (hr y hy).2 hs
              · rw [x6 i e] at hs; have := HF5.out.own.hi i y hs; have := (hr y hy).1; omega)
            have HRlo := Lib.hid (show ∀ y, row = some y → w1.heap.size ≤ y from fun y hy => by have := (hr y hy).1; have := HF5.out.own.k.size; omega)
            have HS6 := Lib.hid hs
            have HF6 := Lib.hid h6
            clear hs hr ha hT hk h6 e6 x6 HF5
            go_upto_region 17 with (fail)
            refine wp_region_kpiv (Keep (S6 1)) (Keep (fun _ => False)) 12 (Keep.refl _) (keepT_trans _) (Keep.refl _) keep0_trans (fun _ _ h => h.mono fun _ _ e => e.elim) 13 (by kernel_rfl) (by kernel_rfl) (Ts := [none, none, none, none, none, none, some (.inl (.slice B k cB)), none, none, none, none, some (.inl (.int .i64 now)), some (.inr (fun v W => ∃ (A2 : Option Addr) (k2 c3 : Nat) (T : Nat → Prop) (L7 : List Ent) (md7 : Nat → R), v = .slice A2 k2 c3 ∧ RdI W A2 k2 lt ∧ k2 ≤ 1000000 ∧ RWt W b T mn mx wd L7 md7 ∧ Tied q m7 L7 md7 ∧ L7.length = k ∧ ∀ y, T y → S6 1 y ∨ W6.heap.size ≤ y))]) ?_
            simp only [List.take, List.drop]
            refine kAllP_p (fun K hK => ?_)
            go_simp
            generalize hZ : (Act.mk _ _) = Z
            refine hK Z ?_
            subst hZ
            clear hK K
            refine kAllP_p (fun K hK => ?_)
            go_simp
            generalize hZ : (Act.mk _ _) = Z
            refine hK Z ?_
            subst hZ
            clear hK K
            refine kAllP_p (fun K hK => ?_)
            go_simp
            generalize hZ : (Act.mk _ _) = Z
            refine hK Z ?_
            subst hZ
            clear hK K
            refine kAllP_p (fun K hK => ?_)
            go_simp
            generalize hZ : (Act.mk _ _) = Z
            refine hK Z ?_
            subst hZ
            clear hK K
            refine kAllP_p (fun K hK => ?_)
            go_simp
            generalize hZ : (Act.mk _ _) = Z
            refine hK Z ?_
            subst hZ
            clear hK K
            refine kAllP_p (fun K hK => ?_)
            go_simp
            generalize hZ : (Act.mk _ _) = Z
            refine hK Z ?_
            subst hZ
            clear hK K
            refine kAllP_d _ (by decide) (fun W hW hF => kStep_of fun K Q hK => ?_) ?_
            · have e3 := (HF6.out.own.kk 1 hW).cell HP3.out (fun h => h)
              go_simp
              exact hK _ _ (Keep.refl _ _) rfl
            refine kAllP_p (fun K hK => ?_)
            go_simp
            generalize hZ : (Act.mk _ _) = Z
            refine hK Z ?_
            subst hZ
            clear hK K
            refine kAllP_p (fun K hK => ?_)
            go_simp
            generalize hZ : (Act.mk _ _) = Z
            refine hK Z ?_
            subst hZ
            clear hK K
            refine kAllP_p (fun K hK => ?_)
            go_simp
            generalize hZ : (Act.mk _ _) = Z
            refine hK Z ?_
            subst hZ
            clear hK K
            refine kAllP_p (fun K hK => ?_)
            go_simp
            generalize hZ : (Act.mk _ _) = Z
            refine hK Z ?_
            subst hZ
            clear hK K
            refine kAllP_d _ (by decide) (fun W hW hF => kStep_of fun K Q hK => ?_) ?_
            · have e4 := (HF6.out.own.kk 1 hW).cell HP4.out (fun h => h)
              go_simp
              exact hK _ _ (Keep.refl _ _) rfl
            refine kAllP_t _ rfl (fun _ _ _ hk h => by obtain ⟨A2, k2, c3, T, L7, md7, e, h1, h2, h3, h4⟩ := h; exact ⟨A2, k2, c3, T, L7, md7, e, h1.keep0 hk, h2, h3.keep0 hk, h4⟩) (fun W hW hF => kStep_of fun K Q hK => ?_) (fun u0 => ?_)
            · go_simp
              refine (pr_look (HF6.out.B.keep0 (keepDT hW)) HTi.out (by have := HLl.out; omega) (by omega) HMay.out B k cB ids (HRd.out.keep0 (keep0_trans _ _ _ HF6.out.own.k (keepDT hW))) (by omega) HRis.out now).mono ?_
              rintro e w' ⟨T, L7, md7, A2, k2, c3, rfl, h1, h2, h3, h4, h5, h6, hk⟩
              rw [HLt.out] at h1
              rw [HM7.out] at h4
              exact hK _ _ hk ⟨A2, k2, c3, T, L7, md7, rfl, h1, h2, h3, h4, h5, fun y hy => (h6 y hy).imp id (fun h => Nat.le_trans (keepDT hW).size h)⟩
            refine kAllP_nil (fun W7 hW hF => ?_)
            obtain ⟨A2, k2, c3, T, L7, md7, rfl, h1, h2, h3, h4, h5, h8⟩ : ∃ (A2 : Option Addr) (k2 c3 : Nat) (T : Nat → Prop) (L7 : List Ent) (md7 : Nat → R), u0 = .slice A2 k2 c3 ∧ RdI W7 A2 k2 lt ∧ k2 ≤ 1000000 ∧ RWt W7 b T mn mx wd L7 md7 ∧ Tied q m7 L7 md7 ∧ L7.length = k ∧ ∀ y, T y → S6 1 y ∨ W6.heap.size ≤ y := kAllHas_at hF 0 rfl
            obtain ⟨S7, h7, e7, x7⟩ := HF6.out.turnB (keepDT hW) h3 h8
            have HS7 := Lib.hid (HS6.out.keep (keepDT hW) (fun y hy => HRow.out 1 y hy))
            have HRow7 := Lib.hid (show ∀ i y, row = some y → ¬ S7 i y from fun i y hy hs => by
              by_cases e : i = 1
              · subst e; rw [e7] at hs
                rcases h8 y hs with h | h
                · exact HRow.out 1 y hy h
                · have := HS6.out.lt y hy; omega
              · rw [x7 i e] at hs; exact HRow.out i y hy hs)
            have HF7 := Lib.hid h7
            have HT7 := Lib.hid (h4.mono (Nat.le_succ q))
            have HL7 := Lib.hid (show L7.length ≤ 30 by omega)
            have HR2 := Lib.hid h1
            have HK2 := Lib.hid h2
            clear hF hW h1 h2 h3 h4 h5 h8 h7 e7 x7 HF6 HS6 HRow HTi HLl
            go_wp2_with fail
            refine (sameR_any A1 A2 lt.length k2 c1 c3 lt lt W7 ⟨rfl, HS7.out.rd⟩ HR2.out (by have := HLtl.out; omega) HK2.out).mono ?_
            rintro e W8 ⟨rfl, hk⟩
            rw [decide_eq_true (rfl : setM lt = setM lt)]
            have HF8 := Lib.hid (HF7.out.keep0 hk)
            have HS8 := Lib.hid (HS7.out.keep hk (fun _ _ h => h))
            obtain ⟨nl, hnl⟩ : ∃ nl, lt.length = nl := ⟨_, rfl⟩
            rw [hnl] at HS8 HLtl ⊢
            have HNl := Lib.hid hnl
            clear hk HF7 HS7 HR2 HK2 hnl
            go_wp2_with fail
            go_loopw [17] (fun j wr => ∃ (z : Nat) (l1 : List ID), z ≤ nl ∧ j = .int .i64 (z : Int) ∧ l1.length = nl ∧ Hid (SlK wr 33 2 row A1 nl c1 (l1.flatMap cID)) ∧ Hid (Keep (fun y => row = some y) W8 wr)) (fun j _ => nl - (intOf j).toNat)
            case atStart => exact ⟨0, lt, Nat.zero_le _, rfl, HNl.out, HS8, Lib.hid (Keep.refl _ _)⟩
            case round =>
              obtain ⟨z, l1, hz, rfl, hl1, HSz, HKz⟩ := hrel
              have e3 : IntKind.i64.wrap ((z : Int) + 1) = (z : Int) + 1 := IntWalk.i64_in _ (by have := HLtl.out; omega)
              by_cases hzl : z < nl
              · obtain ⟨g2, off2, hA2, hrow2, hg2, ⟨v2, hv2⟩, hfz, l3, hl3, hst⟩ := HSz.out.storeI hl1 hzl (-7)
                subst hA2
                have HSt := Lib.hid hst
                have HKz2 := HKz
                have q3 : (z : Int) < (nl : Int) := by omega
                have q4 : (0 : Int) ≤ (z : Int) := by omega
                clear hst
                go_wp2
                go_roundw
                case rel => exact ⟨z + 1, l3, by omega, by go_num, hl3, Lib.hid (HSt.out 0).1, Lib.hid (HKz2.out.trans ((HSt.out 0).2.mono fun y _ e => .inl e))⟩
                case measure => simp [intOf]; omega
              · obtain rfl : z = nl := by omega
                have HF7 := Lib.hid (HF8.out.keepN HKz.out HRlo.out (fun i y hy => HRow7.out i y hy))
                clear HF8 HS8 HSz HKz HRow7 HRlo
                go_wp2_with fail
                refine (watched_any HF7.out.A (by omega)).mono ?_
                rintro e W9 ⟨lw, hrw, hmw, _, row7, A7, c7, rfl, hs7, hr7, hk⟩
                have HWl := Lib.hid (show lw.length ≤ 30 from Nat.le_trans (HT7.out.len_le hrw hmw) HL7.out)
                have HMw := Lib.hid hmw
                have HF9 := Lib.hid (HF7.out.keep0 hk)
                have HS9 := Lib.hid hs7
                have HRow9 := Lib.hid (show ∀ i y, row7 = some y → ¬ S7 i y from fun i y hy hs => by have := HF7.out.own.hi i y hs; have := hr7 y hy; omega)
                have HRlo9 := Lib.hid (show ∀ y, row7 = some y → w1.heap.size ≤ y from fun y hy => by have := hr7 y hy; have := HF7.out.own.k.size; omega)
                clear hs7 hr7 hk hrw hmw HF7
                go_wp2_with fail
                refine (pr_watched HF9.out.B HT7.out (by have := HL7.out; omega)).mono ?_
                rintro e W10 ⟨A8, k8, c8, l8, rfl, h8, hk8, hm8, hk⟩
                have HF10 := Lib.hid (HF9.out.keep0 hk)
                have HS10 := Lib.hid (HS9.out.keep hk (fun _ _ h => h))
                have HR8 := Lib.hid h8
                have HM8 := Lib.hid hm8
                clear h8 hm8 hk HF9 HS9
                go_wp2_with fail
                refine (sameR_any A7 A8 lw.length k8 c7 c8 lw l8 W10 ⟨rfl, HS10.out.rd⟩ HR8.out (by have := HWl.out; omega) hk8).mono ?_
                rintro e W11 ⟨rfl, hk⟩
                rw [decide_eq_true (setM_ext fun x => by rw [HMw.out x, HM8.out x])]
                have HF11 := Lib.hid (HF10.out.keep0 hk)
                have HS11 := Lib.hid (HS10.out.keep hk (fun _ _ h => h))
                clear hk HF10 HS10 HR8 HM8 HMw hk8
                go_wp2_with fail
                refine (watched_any HF11.out.C (by omega)).mono ?_
                rintro e W12 ⟨lc, hrc, hmc, _, rowc, Ac, cc, rfl, hsc, _, hk⟩
                have HCl := Lib.hid (show lc.length ≤ 30 from Nat.le_trans (HTd.out.len_le hrc hmc) HLd.out)
                have HMc := Lib.hid hmc
                have HF12 := Lib.hid (HF11.out.keep0 hk)
                have HS12 := Lib.hid (HS11.out.keep hk (fun _ _ h => h))
                have HSc := Lib.hid hsc
                clear hsc hk hrc hmc HF11 HS11
                go_wp2_with fail
                refine (pr_watched HF12.out.D HTd.out (by have := HLd.out; omega)).mono ?_
                rintro e W13 ⟨A9, k9, c9, l9, rfl, h9, hk9, hm9, hk⟩
                have HF13 := Lib.hid (HF12.out.keep0 hk)
                have HS13 := Lib.hid (HS12.out.keep hk (fun _ _ h => h))
                have HSc13 := Lib.hid (HSc.out.keep hk (fun _ _ h => h))
                have HR9 := Lib.hid h9
                have HM9 := Lib.hid hm9
                clear h9 hm9 hk HF12 HS12 HSc
                go_wp2_with fail
                refine (sameR_any Ac A9 lc.length k9 cc c9 lc l9 W13 ⟨rfl, HSc13.out.rd⟩ HR9.out (by have := HCl.out; omega) hk9).mono ?_
                rintro e W14 ⟨rfl, hk⟩
                rw [decide_eq_true (setM_ext fun x => by rw [HMc.out x, HM9.out x])]
                have HF14 := Lib.hid (HF13.out.keep0 hk)
                have HS14 := Lib.hid (HS13.out.keep hk (fun _ _ h => h))
                obtain ⟨nw, hnw⟩ : ∃ nw, lw.length = nw := ⟨_, rfl⟩
                rw [hnw] at HS14 HWl ⊢
                have HNw := Lib.hid hnw
                clear hk HF13 HS13 HSc13 HR9 HM9 HMc hk9 hnw
                go_wp2_with fail
                go_loopw [20] (fun j wr => ∃ (z : Nat) (l1 : List ID), z ≤ nw ∧ j = .int .i64 (z : Int) ∧ l1.length = nw ∧ Hid (SlK wr 33 2 row7 A7 nw c7 (l1.flatMap cID)) ∧ Hid (Keep (fun y => row7 = some y) W14 wr)) (fun j _ => nw - (intOf j).toNat)
                case atStart => exact ⟨0, lw, Nat.zero_le _, rfl, HNw.out, HS14, Lib.hid (Keep.refl _ _)⟩
                case round =>
                  obtain ⟨z, l1, hz, rfl, hl1, HSz, HKz⟩ := hrel
                  have e3 : IntKind.i64.wrap ((z : Int) + 1) = (z : Int) + 1 := IntWalk.i64_in _ (by have := HWl.out; omega)
                  by_cases hzl : z < nw
                  · obtain ⟨g2, off2, hA2, hrow2, hg2, ⟨v2, hv2⟩, hfz, l3, hl3, hst⟩ := HSz.out.storeI hl1 hzl (-7)
                    subst hA2
                    have HSt := Lib.hid hst
                    have HKz2 := HKz
                    have q3 : (z : Int) < (nw : Int) := by omega
                    have q4 : (0 : Int) ≤ (z : Int) := by omega
                    clear hst
                    go_wp2
                    go_roundw
                    case rel => exact ⟨z + 1, l3, by omega, by go_num, hl3, Lib.hid (HSt.out 0).1, Lib.hid (HKz2.out.trans ((HSt.out 0).2.mono fun y _ e => .inl e))⟩
                    case measure => simp [intOf]; omega
                  · obtain rfl : z = nw := by omega
                    have HF15 := Lib.hid (HF14.out.keepN HKz.out HRlo9.out (fun i y hy => HRow9.out i y hy))
                    clear HF14 HS14 HSz HKz HRow9 HRlo9
                    go_wp2_with fail
                    refine (watched_any HF15.out.C (by omega)).mono ?_
                    rintro e W16 ⟨ly, hry, hmy, _, rowy, Ay, cy, rfl, hsy, hroy, hk⟩
                    have HYl := Lib.hid (show ly.length ≤ 30 from Nat.le_trans (HTd.out.len_le hry hmy) HLd.out)
                    have HYr := Lib.hid hry
                    have HMy := Lib.hid hmy
                    have HF16 := Lib.hid (HF15.out.keep0 hk)
                    have HSy := Lib.hid hsy
                    have HRowy := Lib.hid (show ∀ i y, rowy = some y → ¬ S7 i y from fun i y hy hs => by have := HF15.out.own.hi i y hs; have := hroy y hy; omega)
                    have HWy := Lib.hid (show ∀ x ∈ ly, wfI x from fun x hx => HF15.out.C.wf (by
                      have := (hmy x).1 hx
                      intro e; rw [e] at this; cases this))
                    obtain ⟨lz, hlz⟩ : ∃ lz, lateL ((newD mn mx wd).begin_ now) m now ly = lz := ⟨_, rfl⟩
                    have HLz := Lib.hid hlz
                    have HLzl := Lib.hid (show lz.length ≤ 30 by rw [← hlz]; have := lateL_le ((newD mn mx wd).begin_ now) m now ly; have := HYl.out; omega)
                    obtain ⟨ny, hny⟩ : ∃ ny, ly.length = ny := ⟨_, rfl⟩
                    rw [hny] at HSy HYl ⊢
                    have HNy := Lib.hid hny
                    clear hk hsy hroy hry hmy HF15 hlz hny
                    go_upto_region 30 with (fail)
                    refine wp_region_kpiv (Keep (S7 2)) (Keep (fun _ => False)) 10 (Keep.refl _) (keepT_trans _) (Keep.refl _) keep0_trans (fun _ _ h => h.mono fun _ _ e => e.elim) 18 (by kernel_rfl) (by kernel_rfl) (Ts := [none, none, none, none, none, none, none, none, none, some (.inl (.int .i64 now)), some (.inr (fun v W => ∃ (row2 : Option Nat) (A2 : Option Addr) (c3 : Nat), v = .slice A2 lz.length c3 ∧ SlK W 33 2 row2 A2 lz.length c3 (lz.flatMap cID) ∧ ∀ y, row2 = some y → W16.heap.size ≤ y)), none, none, none, none, none, none, some (.inl (.int .i64 now))]) ?_
                    simp only [List.take, List.drop]
                    refine kAllP_p (fun K hK => ?_)
                    go_simp
                    generalize hZ : (Act.mk _ _) = Z
                    refine hK Z ?_
                    subst hZ
                    clear hK K
                    refine kAllP_p (fun K hK => ?_)
                    go_simp
                    generalize hZ : (Act.mk _ _) = Z
                    refine hK Z ?_
                    subst hZ
                    clear hK K
                    refine kAllP_p (fun K hK => ?_)
                    go_simp
                    generalize hZ : (Act.mk _ _) = Z
                    refine hK Z ?_
                    subst hZ
                    clear hK K
                    refine kAllP_pw (by kernel_rfl) (fun K hK => ?_)
                    go_simp
                    generalize hZ : (Act.mk _ _) = Z
                    refine hK Z ?_
                    subst hZ
                    clear hK K
                    refine kAllP_pw (by kernel_rfl) (fun K hK => ?_)
                    go_simp
                    generalize hZ : (Act.mk _ _) = Z
                    refine hK Z ?_
                    subst hZ
                    clear hK K
                    refine kAllP_pw (by kernel_rfl) (fun K hK => ?_)
                    go_simp
                    generalize hZ : (Act.mk _ _) = Z
                    refine hK Z ?_
                    subst hZ
                    clear hK K
                    refine kAllP_pw (by kernel_rfl) (fun K hK => ?_)
                    go_simp
                    generalize hZ : (Act.mk _ _) = Z
                    refine hK Z ?_
                    subst hZ
                    clear hK K
                    refine kAllP_pw (by kernel_rfl) (fun K hK => ?_)
                    go_simp
                    generalize hZ : (Act.mk _ _) = Z
                    refine hK Z ?_
                    subst hZ
                    clear hK K
                    refine kAllP_pw (by kernel_rfl) (fun K hK => ?_)
                    go_simp
                    generalize hZ : (Act.mk _ _) = Z
                    refine hK Z ?_
                    subst hZ
                    clear hK K
                    refine kAllP_d _ (by decide) (fun W hW hF => kStep_w (by kernel_rfl) fun K Q hK => ?_) ?_
                    · have e4 := (HF16.out.own.kk 2 hW).cell HP4.out (fun h => h)
                      go_simp
                      exact hK _ _ (Keep.refl _ _) rfl
                    refine kAllP_t _ rfl (fun _ _ _ hk h => by obtain ⟨row2, A2, c3, e, h1, h2⟩ := h; exact ⟨row2, A2, c3, e, h1.keep hk (fun _ _ h => h), h2⟩) (fun W hW hF => kStep_w (by kernel_rfl) fun K Q hK => ?_) (fun u0 => ?_)
                    · go_simp
                      refine (look_any (HF16.out.C.keep0 (keepDT hW)) HMay.out Ay ny cy ly ⟨HNy.out, (HSy.out.keep (keepDT hW) (fun _ _ h => h)).rd⟩ HWy.out (by have := HYl.out; omega) (fun y off2 _ e hs => HRowy.out 2 y (HSy.out.row_of y off2 e) hs) now).mono ?_
                      rintro e w' ⟨T, row2, A2, c3, rfl, hs, hr, _, _, hk⟩
                      rw [HLz.out] at hs ⊢
                      exact hK _ _ hk ⟨row2, A2, c3, rfl, hs, fun y hy => Nat.le_trans (keepDT hW).size (hr y hy).1⟩
                    refine kAllP_pw (by kernel_rfl) (fun K hK => ?_)
                    go_simp
                    generalize hZ : (Act.mk _ _) = Z
                    refine hK Z ?_
                    subst hZ
                    clear hK K
                    refine kAllP_pw (by kernel_rfl) (fun K hK => ?_)
                    go_simp
                    generalize hZ : (Act.mk _ _) = Z
                    refine hK Z ?_
                    subst hZ
                    clear hK K
                    refine kAllP_pw (by kernel_rfl) (fun K hK => ?_)
                    go_simp
                    generalize hZ : (Act.mk _ _) = Z
                    refine hK Z ?_
                    subst hZ
                    clear hK K
                    refine kAllP_pw (by kernel_rfl) (fun K hK => ?_)
                    go_simp
                    generalize hZ : (Act.mk _ _) = Z
                    refine hK Z ?_
                    subst hZ
                    clear hK K
                    refine kAllP_pw (by kernel_rfl) (fun K hK => ?_)
                    go_simp
                    generalize hZ : (Act.mk _ _) = Z
                    refine hK Z ?_
                    subst hZ
                    clear hK K
                    refine kAllP_pw (by kernel_rfl) (fun K hK => ?_)
                    go_simp
                    generalize hZ : (Act.mk _ _) = Z
                    refine hK Z ?_
                    subst hZ
                    clear hK K
                    refine kAllP_d _ (by decide) (fun W hW hF => kStep_w (by kernel_rfl) fun K Q hK => ?_) ?_
                    · have e4 := (HF16.out.own.kk 2 hW).cell HP4.out (fun h => h)
                      go_simp
                      exact hK _ _ (Keep.refl _ _) rfl
                    refine kAllP_nil (fun W17 hW hF => ?_)
                    obtain ⟨row2, A2, c3, rfl, h1, hr2⟩ : ∃ (row2 : Option Nat) (A2 : Option Addr) (c3 : Nat), u0 = .slice A2 lz.length c3 ∧ SlK W17 33 2 row2 A2 lz.length c3 (lz.flatMap cID) ∧ ∀ y, row2 = some y → W16.heap.size ≤ y := kAllHas_at hF 0 rfl
                    obtain ⟨h2, h3⟩ := HF16.out.afterC (keepDT hW)
                    have HTw := Lib.hid h2
                    have HD17 := Lib.hid h3
                    have HRz := Lib.hid h1
                    have HRz2 := Lib.hid (show ∀ y, row2 = some y → ¬ S7 3 y from fun y hy hs => by have := hr2 y hy; have := HF16.out.own.hi 3 y hs; omega)
                    have HSy17 := Lib.hid (HSy.out.keep (keepDT hW) (fun y hy => HRowy.out 2 y hy))
                    clear hF hW h1 h2 h3 hr2 HF16 HSy HRowy HWy
                    go_wp2_with fail
                    refine (pr_look HD17.out HTd.out (by have := HLd.out; omega) (by omega) HMay.out Ay ny cy ly ⟨HNy.out, HSy17.out.rd⟩ (by have := HYl.out; omega) HYr.out now).mono ?_
                    rintro e W18 ⟨T, L8, md8, A3, k3, c4, rfl, h1, h2, _, _, _, _, hk⟩
                    rw [HLz.out] at h1
                    have HTw18 := Lib.hid (HTw.out.afterD hk)
                    have HRz18 := Lib.hid (HRz.out.keep hk (fun y hy => HRz2.out y hy))
                    have HR3 := Lib.hid h1
                    clear hk h1 HTw HRz HD17 HSy17
                    go_wp2_with fail
                    refine (sameR_any A2 A3 lz.length k3 c3 c4 lz lz W18 ⟨rfl, HRz18.out.rd⟩ HR3.out (by have := HLzl.out; omega) h2).mono ?_
                    rintro e W19 ⟨rfl, hk⟩
                    rw [decide_eq_true (rfl : setM lz = setM lz)]
                    have HTw19 := Lib.hid (HTw18.out.keep0 hk)
                    clear hk h2 HTw18 HRz18 HR3
                    go_wp2
                    go_roundw
                    case rel => exact ⟨q + 1, S7, m7, L7, md7, by omega, by go_num, HTw19, HT7, HL7⟩
                    case measure => simp [intOf]; omega
          · have hhe : true = true := rfl
            clear hhe
            go_upto_region 14 with (fail)
            refine wp_region_kpiv (Keep (S5 0)) (Keep (fun _ => False)) 11 (Keep.refl _) (keepT_trans _) (Keep.refl _) keep0_trans (fun _ _ h => h.mono fun _ _ e => e.elim) 23 (by kernel_rfl) (by kernel_rfl) (Ts := [none, none, none, none, none, some (.inl (.agg #[.int .i64 xa, .int .i64 xi])), none, none, none, none, some (.inl (.int .i64 now)), some (.inr (fun v W => v = .bool (m (xa, xi)).isSome ∧ ∃ T, Wt W a (30 * (q + 1)) T mn mx wd (heardM m (xa, xi) now) ∧ ∀ g, T g → S5 0 g ∨ w5.heap.size ≤ g)), none, none, none, none, none, some (.inl (.agg #[.int .i64 xa, .int .i64 xi])), none, none, none, none, some (.inl (.int .i64 now))]) ?_
            simp only [List.take, List.drop]
            refine kAllP_p (fun K hK => ?_)
            go_simp
            generalize hZ : (Act.mk _ _) = Z
            refine hK Z ?_
            subst hZ
            clear hK K
            refine kAllP_p (fun K hK => ?_)
            go_simp
            generalize hZ : (Act.mk _ _) = Z
            refine hK Z ?_
            subst hZ
            clear hK K
            refine kAllP_p (fun K hK => ?_)
            go_simp
            generalize hZ : (Act.mk _ _) = Z
            refine hK Z ?_
            subst hZ
            clear hK K
            refine kAllP_p (fun K hK => ?_)
            go_simp
            generalize hZ : (Act.mk _ _) = Z
            refine hK Z ?_
            subst hZ
            clear hK K
            refine kAllP_p (fun K hK => ?_)
            go_simp
            generalize hZ : (Act.mk _ _) = Z
            refine hK Z ?_
            subst hZ
            clear hK K
            refine kAllP_d _ (by decide) (fun W hW hF => kStep_of fun K Q hK => ?_) ?_
            · have e1 := (HF.out.own.kk 0 hW).cell HP1.out (fun h => h)
              have e2 := (HF.out.own.kk 0 hW).cell HP2.out (fun h => h)
              have e2' := e2
              have e9 : W.cell? ⟨g, off + q * 5 + 1 + 1, none⟩ = some (.int .i64 xi) := e2
              go_simp
              exact hK _ _ (Keep.refl _ _) rfl
            refine kAllP_p (fun K hK => ?_)
            go_simp
            generalize hZ : (Act.mk _ _) = Z
            refine hK Z ?_
            subst hZ
            clear hK K
            refine kAllP_p (fun K hK => ?_)
            go_simp
            generalize hZ : (Act.mk _ _) = Z
            refine hK Z ?_
            subst hZ
            clear hK K
            refine kAllP_p (fun K hK => ?_)
            go_simp
            generalize hZ : (Act.mk _ _) = Z
            refine hK Z ?_
            subst hZ
            clear hK K
            refine kAllP_p (fun K hK => ?_)
            go_simp
            generalize hZ : (Act.mk _ _) = Z
            refine hK Z ?_
            subst hZ
            clear hK K
            refine kAllP_d _ (by decide) (fun W hW hF => kStep_of fun K Q hK => ?_) ?_
            · have e4 := (HF.out.own.kk 0 hW).cell HP4.out (fun h => h)
              go_simp
              exact hK _ _ (Keep.refl _ _) rfl
            refine kAllP_t _ rfl (fun _ _ _ hk h => by obtain ⟨e, T, h1, h2⟩ := h; exact ⟨e, T, h1.keep0 hk, h2⟩) (fun W hW hF => kStep_of fun K Q hK => ?_) (fun u0 => ?_)
            · go_simp
              refine (pw_heard (HF.out.A.keep0 (keepDT hW)) HWx.out now).mono ?_
              rintro e w' ⟨rfl, hk, T, h1, h2⟩
              exact hK _ _ hk ⟨rfl, T, h1.mono (by omega), fun g hg => (h2 g hg).imp id (fun h => Nat.le_trans (keepDT hW).size h)⟩
            refine kAllP_p (fun K hK => ?_)
            go_simp
            generalize hZ : (Act.mk _ _) = Z
            refine hK Z ?_
            subst hZ
            clear hK K
            refine kAllP_p (fun K hK => ?_)
            go_simp
            generalize hZ : (Act.mk _ _) = Z
            refine hK Z ?_
            subst hZ
            clear hK K
            refine kAllP_p (fun K hK => ?_)
            go_simp
            generalize hZ : (Act.mk _ _) = Z
            refine hK Z ?_
            subst hZ
            clear hK K
            refine kAllP_p (fun K hK => ?_)
            go_simp
            generalize hZ : (Act.mk _ _) = Z
            refine hK Z ?_
            subst hZ
            clear hK K
            refine kAllP_p (fun K hK => ?_)
            go_simp
            generalize hZ : (Act.mk _ _) = Z
            refine hK Z ?_
            subst hZ
            clear hK K
            refine kAllP_d _ (by decide) (fun W hW hF => kStep_of fun K Q hK => ?_) ?_
            · have e1 := (HF.out.own.kk 0 hW).cell HP1.out (fun h => h)
              have e2 := (HF.out.own.kk 0 hW).cell HP2.out (fun h => h)
              have e2' := e2
              have e9 : W.cell? ⟨g, off + q * 5 + 1 + 1, none⟩ = some (.int .i64 xi) := e2
              go_simp
              exact hK _ _ (Keep.refl _ _) rfl
            refine kAllP_p (fun K hK => ?_)
            go_simp
            generalize hZ : (Act.mk _ _) = Z
            refine hK Z ?_
            subst hZ
            clear hK K
            refine kAllP_p (fun K hK => ?_)
            go_simp
            generalize hZ : (Act.mk _ _) = Z
            refine hK Z ?_
            subst hZ
            clear hK K
            refine kAllP_p (fun K hK => ?_)
            go_simp
            generalize hZ : (Act.mk _ _) = Z
            refine hK Z ?_
            subst hZ
            clear hK K
            refine kAllP_p (fun K hK => ?_)
            go_simp
            generalize hZ : (Act.mk _ _) = Z
            refine hK Z ?_
            subst hZ
            clear hK K
            refine kAllP_d _ (by decide) (fun W hW hF => kStep_of fun K Q hK => ?_) ?_
            · have e4 := (HF.out.own.kk 0 hW).cell HP4.out (fun h => h)
              go_simp
              exact hK _ _ (Keep.refl _ _) rfl
            refine kAllP_nil (fun W5 hW hF => ?_)
            obtain ⟨rfl, T, hA, hT⟩ : u0 = .bool (m (xa, xi)).isSome ∧ ∃ T, Wt W5 a (30 * (q + 1)) T mn mx wd (heardM m (xa, xi) now) ∧ ∀ g, T g → S5 0 g ∨ w5.heap.size ≤ g := kAllHas_at hF 0 rfl
            obtain ⟨S6, h6, _, _⟩ := HF.out.turnA (keepDT hW) (by omega) hA hT
            have HF6 := Lib.hid h6
            clear hF hW hA hT h6 HF p0
            go_wp2_with fail
            refine (pr_heard HF6.out.B HF6.out.B.one HTi.out (by have := HLl.out; omega) (by omega) (xa, xi) now).mono ?_
            rintro e W6 ⟨rfl, hk, T, md6, hb, ht, hT⟩
            obtain ⟨S7, h7, _, _⟩ := HF6.out.turnB hk hb hT
            have HF7 := Lib.hid h7
            have HT7 := Lib.hid ht
            clear hk hb ht hT h7 HF6 HTi
            obtain ⟨m7, hm7⟩ : ∃ m7, heardM m (xa, xi) now = m7 := ⟨_, rfl⟩
            rw [hm7] at HF7 HT7
            clear hm7
            generalize (m (xa, xi)).isSome = hso
            go_wp2_with fail
            refine (watched_any HF7.out.A (by omega)).mono ?_
            rintro e W9 ⟨lw, hrw, hmw, _, row7, A7, c7, rfl, hs7, hr7, hk⟩
            have HWl := Lib.hid (show lw.length ≤ 30 from Nat.le_trans (HT7.out.len_le hrw hmw) HLl.out)
            have HMw := Lib.hid hmw
            have HF9 := Lib.hid (HF7.out.keep0 hk)
            have HS9 := Lib.hid hs7
            have HRow9 := Lib.hid (show ∀ i y, row7 = some y → ¬ S7 i y from fun i y hy hs => by have := HF7.out.own.hi i y hs; have := hr7 y hy; omega)
            have HRlo9 := Lib.hid (show ∀ y, row7 = some y → w1.heap.size ≤ y from fun y hy => by have := hr7 y hy; have := HF7.out.own.k.size; omega)
            clear hs7 hr7 hk hrw hmw HF7
            go_wp2_with fail
            refine (pr_watched HF9.out.B HT7.out (by have := HLl.out; omega)).mono ?_
            rintro e W10 ⟨A8, k8, c8, l8, rfl, h8, hk8, hm8, hk⟩
            have HF10 := Lib.hid (HF9.out.keep0 hk)
            have HS10 := Lib.hid (HS9.out.keep hk (fun _ _ h => h))
            have HR8 := Lib.hid h8
            have HM8 := Lib.hid hm8
            clear h8 hm8 hk HF9 HS9
            go_wp2_with fail
            refine (sameR_any A7 A8 lw.length k8 c7 c8 lw l8 W10 ⟨rfl, HS10.out.rd⟩ HR8.out (by have := HWl.out; omega) hk8).mono ?_
            rintro e W11 ⟨rfl, hk⟩
            rw [decide_eq_true (setM_ext fun x => by rw [HMw.out x, HM8.out x])]
            have HF11 := Lib.hid (HF10.out.keep0 hk)
            have HS11 := Lib.hid (HS10.out.keep hk (fun _ _ h => h))
            clear hk HF10 HS10 HR8 HM8 HMw hk8
            go_wp2_with fail
            refine (watched_any HF11.out.C (by omega)).mono ?_
            rintro e W12 ⟨lc, hrc, hmc, _, rowc, Ac, cc, rfl, hsc, _, hk⟩
            have HCl := Lib.hid (show lc.length ≤ 30 from Nat.le_trans (HTd.out.len_le hrc hmc) HLd.out)
            have HMc := Lib.hid hmc
            have HF12 := Lib.hid (HF11.out.keep0 hk)
            have HS12 := Lib.hid (HS11.out.keep hk (fun _ _ h => h))
            have HSc := Lib.hid hsc
            clear hsc hk hrc hmc HF11 HS11
            go_wp2_with fail
            refine (pr_watched HF12.out.D HTd.out (by have := HLd.out; omega)).mono ?_
            rintro e W13 ⟨A9, k9, c9, l9, rfl, h9, hk9, hm9, hk⟩
            have HF13 := Lib.hid (HF12.out.keep0 hk)
            have HS13 := Lib.hid (HS12.out.keep hk (fun _ _ h => h))
            have HSc13 := Lib.hid (HSc.out.keep hk (fun _ _ h => h))
            have HR9 := Lib.hid h9
            have HM9 := Lib.hid hm9
            clear h9 hm9 hk HF12 HS12 HSc
            go_wp2_with fail
            refine (sameR_any Ac A9 lc.length k9 cc c9 lc l9 W13 ⟨rfl, HSc13.out.rd⟩ HR9.out (by have := HCl.out; omega) hk9).mono ?_
            rintro e W14 ⟨rfl, hk⟩
            rw [decide_eq_true (setM_ext fun x => by rw [HMc.out x, HM9.out x])]
            have HF14 := Lib.hid (HF13.out.keep0 hk)
            have HS14 := Lib.hid (HS13.out.keep hk (fun _ _ h => h))
            obtain ⟨nw, hnw⟩ : ∃ nw, lw.length = nw := ⟨_, rfl⟩
            rw [hnw] at HS14 HWl ⊢
            have HNw := Lib.hid hnw
            clear hk HF13 HS13 HSc13 HR9 HM9 HMc hk9 hnw
            go_wp2_with fail
            go_loopw [20] (fun j wr => ∃ (z : Nat) (l1 : List ID), z ≤ nw ∧ j = .int .i64 (z : Int) ∧ l1.length = nw ∧ Hid (SlK wr 33 2 row7 A7 nw c7 (l1.flatMap cID)) ∧ Hid (Keep (fun y => row7 = some y) W14 wr)) (fun j _ => nw - (intOf j).toNat)
            case atStart => exact ⟨0, lw, Nat.zero_le _, rfl, HNw.out, HS14, Lib.hid (Keep.refl _ _)⟩
            case round =>
              obtain ⟨z, l1, hz, rfl, hl1, HSz, HKz⟩ := hrel
              have e3 : IntKind.i64.wrap ((z : Int) + 1) = (z : Int) + 1 := IntWalk.i64_in _ (by have := HWl.out; omega)
              by_cases hzl : z < nw
              · obtain ⟨g2, off2, hA2, hrow2, hg2, ⟨v2, hv2⟩, hfz, l3, hl3, hst⟩ := HSz.out.storeI hl1 hzl (-7)
                subst hA2
                have HSt := Lib.hid hst
                have HKz2 := HKz
                have q3 : (z : Int) < (nw : Int) := by omega
                have q4 : (0 : Int) ≤ (z : Int) := by omega
                clear hst
                go_wp2
                go_roundw
                case rel => exact ⟨z + 1, l3, by omega, by go_num, hl3, Lib.hid (HSt.out 0).1, Lib.hid (HKz2.out.trans ((HSt.out 0).2.mono fun y _ e => .inl e))⟩
                case measure => simp [intOf]; omega
              · obtain rfl : z = nw := by omega
                have HF15 := Lib.hid (HF14.out.keepN HKz.out HRlo9.out (fun i y hy => HRow9.out i y hy))
                clear HF14 HS14 HSz HKz HRow9 HRlo9
                go_wp2_with fail
                refine (watched_any HF15.out.C (by omega)).mono ?_
                rintro e W16 ⟨ly, hry, hmy, _, rowy, Ay, cy, rfl, hsy, hroy, hk⟩
                have HYl := Lib.hid (show ly.length ≤ 30 from Nat.le_trans (HTd.out.len_le hry hmy) HLd.out)
                have HYr := Lib.hid hry
                have HMy := Lib.hid hmy
                have HF16 := Lib.hid (HF15.out.keep0 hk)
                have HSy := Lib.hid hsy
                have HRowy := Lib.hid (show ∀ i y, rowy = some y → ¬ S7 i y from fun i y hy hs => by have := HF15.out.own.hi i y hs; have := hroy y hy; omega)
                have HWy := Lib.hid (show ∀ x ∈ ly, wfI x from fun x hx => HF15.out.C.wf (by
                  have := (hmy x).1 hx
                  intro e; rw [e] at this; cases this))
                obtain ⟨lz, hlz⟩ : ∃ lz, lateL ((newD mn mx wd).begin_ now) m now ly = lz := ⟨_, rfl⟩
                have HLz := Lib.hid hlz
                have HLzl := Lib.hid (show lz.length ≤ 30 by rw [← hlz]; have := lateL_le ((newD mn mx wd).begin_ now) m now ly; have := HYl.out; omega)
                obtain ⟨ny, hny⟩ : ∃ ny, ly.length = ny := ⟨_, rfl⟩
                rw [hny] at HSy HYl ⊢
                have HNy := Lib.hid hny
                clear hk hsy hroy hry hmy HF15 hlz hny
                go_upto_region 30 with (fail)
                refine wp_region_kpiv (Keep (S7 2)) (Keep (fun _ => False)) 10 (Keep.refl _) (keepT_trans _) (Keep.refl _) keep0_trans (fun _ _ h => h.mono fun _ _ e => e.elim) 18 (by kernel_rfl) (by kernel_rfl) (Ts := [none, none, none, none, none, none, none, none, none, some (.inl (.int .i64 now)), some (.inr (fun v W => ∃ (row2 : Option Nat) (A2 : Option Addr) (c3 : Nat), v = .slice A2 lz.length c3 ∧ SlK W 33 2 row2 A2 lz.length c3 (lz.flatMap cID) ∧ ∀ y, row2 = some y → W16.heap.size ≤ y)), none, none, none, none, none, none, some (.inl (.int .i64 now))]) ?_
                simp only [List.take, List.drop]
                refine kAllP_p (fun K hK => ?_)
                go_simp
                generalize hZ : (Act.mk _ _) = Z
                refine hK Z ?_
                subst hZ
                clear hK K
                refine kAllP_p (fun K hK => ?_)
                go_simp
                generalize hZ : (Act.mk _ _) = Z
                refine hK Z ?_
                subst hZ
                clear hK K
                refine kAllP_p (fun K hK => ?_)
                go_simp
                generalize hZ : (Act.mk _ _) = Z
                refine hK Z ?_
                subst hZ
                clear hK K
                refine kAllP_pw (by kernel_rfl) (fun K hK => ?_)
                go_simp
                generalize hZ : (Act.mk _ _) = Z
                refine hK Z ?_
                subst hZ
                clear hK K
                refine kAllP_pw (by kernel_rfl) (fun K hK => ?_)
                go_simp
                generalize hZ : (Act.mk _ _) = Z
                refine hK Z ?_
                subst hZ
                clear hK K
                refine kAllP_pw (by kernel_rfl) (fun K hK => ?_)
                go_simp
                generalize hZ : (Act.mk _ _) = Z
                refine hK Z ?_
                subst hZ
                clear hK K
                refine kAllP_pw (by kernel_rfl) (fun K hK => ?_)
                go_simp
                generalize hZ : (Act.mk _ _) = Z
                refine hK Z ?_
                subst hZ
                clear hK K
                refine kAllP_pw (by kernel_rfl) (fun K hK => ?_)
                go_simp
                generalize hZ : (Act.mk _ _) = Z
                refine hK Z ?_
                subst hZ
                clear hK K
                refine kAllP_pw (by kernel_rfl) (fun K hK => ?_)
                go_simp
                generalize hZ : (Act.mk _ _) = Z
                refine hK Z ?_
                subst hZ
                clear hK K
                refine kAllP_d _ (by decide) (fun W hW hF => kStep_w (by kernel_rfl) fun K Q hK => ?_) ?_
                · have e4 := (HF16.out.own.kk 2 hW).cell HP4.out (fun h => h)
                  go_simp
                  exact hK _ _ (Keep.refl _ _) rfl
                refine kAllP_t _ rfl (fun _ _ _ hk h => by obtain ⟨row2, A2, c3, e, h1, h2⟩ := h; exact ⟨row2, A2, c3, e, h1.keep hk (fun _ _ h => h), h2⟩) (fun W hW hF => kStep_w (by kernel_rfl) fun K Q hK => ?_) (fun u0 => ?_)
                · go_simp
                  refine (look_any (HF16.out.C.keep0 (keepDT hW)) HMay.out Ay ny cy ly ⟨HNy.out, (HSy.out.keep (keepDT hW) (fun _ _ h => h)).rd⟩ HWy.out (by have := HYl.out; omega) (fun y off2 _ e hs => HRowy.out 2 y (HSy.out.row_of y off2 e) hs) now).mono ?_
                  rintro e w' ⟨T, row2, A2, c3, rfl, hs, hr, _, _, hk⟩
                  rw [HLz.out] at hs ⊢
                  exact hK _ _ hk ⟨row2, A2, c3, rfl, hs, fun y hy => Nat.le_trans (keepDT hW).size (hr y hy).1⟩
                refine kAllP_pw (by kernel_rfl) (fun K hK => ?_)
                go_simp
                generalize hZ : (Act.mk _ _) = Z
                refine hK Z ?_
                subst hZ
                clear hK K
                refine kAllP_pw (by kernel_rfl) (fun K hK => ?_)
                go_simp
                generalize hZ : (Act.mk _ _) = Z
                refine hK Z ?_
                subst hZ
                clear hK K
                refine kAllP_pw (by kernel_rfl) (fun K hK => ?_)
                go_simp
                generalize hZ : (Act.mk _ _) = Z
                refine hK Z ?_
                subst hZ
                clear hK K
                refine kAllP_pw (by kernel_rfl) (fun K hK => ?_)
                go_simp
                generalize hZ : (Act.mk _ _) = Z
                refine hK Z ?_
                subst hZ
                clear hK K
                refine kAllP_pw (by kernel_rfl) (fun K hK => ?_)
                go_simp
                generalize hZ : (Act.mk _ _) = Z
                refine hK Z ?_
                subst hZ
                clear hK K
                refine kAllP_pw (by kernel_rfl) (fun K hK => ?_)
                go_simp
                generalize hZ : (Act.mk _ _) = Z
                refine hK Z ?_
                subst hZ
                clear hK K
                refine kAllP_d _ (by decide) (fun W hW hF => kStep_w (by kernel_rfl) fun K Q hK => ?_) ?_
                · have e4 := (HF16.out.own.kk 2 hW).cell HP4.out (fun h => h)
                  go_simp
                  exact hK _ _ (Keep.refl _ _) rfl
                refine kAllP_nil (fun W17 hW hF => ?_)
                obtain ⟨row2, A2, c3, rfl, h1, hr2⟩ : ∃ (row2 : Option Nat) (A2 : Option Addr) (c3 : Nat), u0 = .slice A2 lz.length c3 ∧ SlK W17 33 2 row2 A2 lz.length c3 (lz.flatMap cID) ∧ ∀ y, row2 = some y → W16.heap.size ≤ y := kAllHas_at hF 0 rfl
                obtain ⟨h2, h3⟩ := HF16.out.afterC (keepDT hW)
                have HTw := Lib.hid h2
                have HD17 := Lib.hid h3
                have HRz := Lib.hid h1
                have HRz2 := Lib.hid (show ∀ y, row2 = some y → ¬ S7 3 y from fun y hy hs => by have := hr2 y hy; have := HF16.out.own.hi 3 y hs; omega)
                have HSy17 := Lib.hid (HSy.out.keep (keepDT hW) (fun y hy => HRowy.out 2 y hy))
                clear hF hW h1 h2 h3 hr2 HF16 HSy HRowy HWy
                go_wp2_with fail
                refine (pr_look HD17.out HTd.out (by have := HLd.out; omega) (by omega) HMay.out Ay ny cy ly ⟨HNy.out, HSy17.out.rd⟩ (by have := HYl.out; omega) HYr.out now).mono ?_
                rintro e W18 ⟨T, L8, md8, A3, k3, c4, rfl, h1, h2, _, _, _, _, hk⟩
                rw [HLz.out] at h1
                have HTw18 := Lib.hid (HTw.out.afterD hk)
                have HRz18 := Lib.hid (HRz.out.keep hk (fun y hy => HRz2.out y hy))
                have HR3 := Lib.hid h1
                clear hk h1 HTw HRz HD17 HSy17
                go_wp2_with fail
                refine (sameR_any A2 A3 lz.length k3 c3 c4 lz lz W18 ⟨rfl, HRz18.out.rd⟩ HR3.out (by have := HLzl.out; omega) h2).mono ?_
                rintro e W19 ⟨rfl, hk⟩
                rw [decide_eq_true (rfl : setM lz = setM lz)]
                have HTw19 := Lib.hid (HTw18.out.keep0 hk)
                clear hk h2 HTw18 HRz18 HR3
                go_wp2
                go_roundw
                case rel => exact ⟨q + 1, S7, m7, L, md6, by omega, by go_num, HTw19, HT7, HLl⟩
                case measure => simp [intOf]; omega
        · obtain rfl : q = n := by omega
          go_wp2_with fail
          refine (awake_any _).mono ?_
          rintro e w4 ⟨rfl, hk⟩
          have HK4 := Lib.hid (keep0_trans _ _ _ HK1.out (keep0_trans _ _ _ HT.out.own.k hk))
          clear hk
          go_wp2
          go_ret
          exact ⟨rfl, HK4.out⟩
    · go_wp2_with fail
      refine (wnew_bad mn mx wd _ hmay).mono ?_
      rintro e w3 ⟨rfl, rfl⟩
      go_wp2_with fail
      refine (rwnew_bad mn mx wd _ hmay).mono ?_
      rintro e w4 ⟨rfl, rfl⟩
      go_wp2_with fail
      refine (awake_any _).mono ?_
      rintro e w2 ⟨rfl, hk⟩
      have HK2 := Lib.hid (keep0_trans _ _ _ HK1.out hk)
      clear hk
      go_wp2
      go_ret
      exact ⟨rfl, HK2.out⟩
theorem walkWatchPlays {w : World} (a0 : Int) (_ : (Lit.int .i64 a0).wf = true) (a1 : Int) (_ : (Lit.int .i64 a1).wf = true) (a2 : Int) (_ : (Lit.int .i64 a2).wf = true) (v3 : Value) (w3 : InSteps w v3) :
    Calls Try.prog 5 #[.int .i64 a0, .int .i64 a1, .int .i64 a2, v3] w fun e w' => e = .returned (.bool true) ∧ Below w.heap.size w w' := by
  obtain ⟨A, n, c, l, rfl, _, _, hl⟩ := w3
  exact (watchPlays_tell a0 a1 a2 A n c l w hl).mono fun _ _ ⟨h, k⟩ => ⟨h, k.b⟩
end Go.Proofs.Ytenphdgnaknbeaa
