/-
  The statement WatchApart. Written by gen_new.py.
-/
import Derived.Test.YtenphdgnaknbeaaWatJ
namespace Go.Proofs.Ytenphdgnaknbeaa
open Go.RowKit
set_option maxRecDepth 100000

set_option maxHeartbeats 2000000 in
theorem watchApart_tell (mn mx wd : Int) (A : Option Addr) (n c : Nat) (l : List Stp) (p : ID) (hp : wfI p) (after : Int) (w : World) (hl : RdS w A n l) :
    Calls Try.prog 7 #[.int .i64 mn, .int .i64 mx, .int .i64 wd, .slice A n c, idV p, .int .i64 after] w (Tell (.bool true) w) := by
  obtain ⟨pa, pi⟩ := p
  have HP := Lib.hid hp
  have HLs := Lib.hid hl
  have HLen := Lib.hid hl.1
  have hk0 := (Keep.refl (fun _ => False) w).alloc (.cells #[.int .i64 pa, .int .i64 pi] 33)
  have hb0 := Blk.new w 33 #[.int .i64 pa, .int .i64 pi]
  have HK0 := Lib.hid hk0
  have HB0 := Lib.hid hb0
  clear hl hp hk0 hb0
  go_enter Try.func7, Try.ntmps7
  go_wp2_with fail
  refine (long_any A n c l _ (HLs.out.keep0 HK0.out)).mono ?_
  rintro e w1 ⟨rfl, hk⟩
  have HK1 := Lib.hid (keep0_trans _ _ _ HK0.out hk)
  have HB1 := Lib.hid (HB0.out.keep hk (fun h => h))
  clear hk HK0 HB0
  rcases Bool.eq_false_or_eq_true (longM l) with hlong | hlong
  · rw [hlong]
    go_wp2_with fail
    refine (awake_any _).mono ?_
    rintro e w2 ⟨rfl, hk⟩
    have HK2 := Lib.hid (keep0_trans _ _ _ HK1.out hk)
    clear hk
    go_wp2
    go_ret
    exact ⟨rfl, HK2.out⟩
  · rw [hlong]
    have HLo := Lib.hid hlong
    have hn100 : n ≤ 100 := by have := (long_no hlong).1; have := HLen.out; omega
    clear hlong
    go_wp2_with fail
    refine (awake_any _).mono ?_
    rintro e w2 ⟨rfl, hk⟩
    have HK2 := Lib.hid (keep0_trans _ _ _ HK1.out hk)
    have HB2 := Lib.hid (HB1.out.keep hk (fun h => h))
    clear hk HK1 HB1
    by_cases hmay : MayNew mn mx wd
    · go_wp2_with fail
      refine (lw_new mn mx wd hmay (Keep.refl _ w2)).mono ?_
      rintro e w3 ⟨b, rfl, hw, hk⟩
      have HW3 := Lib.hid hw
      have HK3 := Lib.hid (keep0_trans _ _ _ HK2.out hk)
      have HMay := Lib.hid hmay
      clear hw hk hmay
      go_wp2_with fail
      refine (rising_any A n c l _ (HLs.out.keep0 HK3.out) hn100).mono ?_
      rintro e w4 ⟨row, A1, c1, rfl, hs, hr, hk⟩
      have HW4 := Lib.hid (HW3.out.moreO hk (fun g hg => ⟨hr g hg, hs.lt g hg⟩))
      have HS4 := Lib.hid hs
      clear hs hr hk HW3 HK3
      obtain ⟨r, hr⟩ : ∃ r, risA l n = r := ⟨_, rfl⟩
      have HRl := Lib.hid (show r.length = n by rw [← hr]; exact risA_len l n)
      have HRok := Lib.hid (show ∀ s ∈ r, OkS w s by rw [← hr]; exact risA_ok HLen.out hn100 HLs.out.2.2)
      have HRno := Lib.hid (show ∀ s ∈ r, s.ids.length ≤ 30 ∧ Ris s.ids by rw [← hr]; exact risA_no HLo.out HLen.out)
      have HRnow := Lib.hid (show ∀ q, q < n → (r.getD q stp0).now = nwL l (q + 1) by rw [← hr]; exact fun q hq => risA_now hq)
      rw [hr] at HS4
      clear hr
      go_wp2_with fail
      go_loopw [15, 16] (fun a j wr => ∃ q : Nat, q ≤ n ∧ a = .int .i64 (nwL l q) ∧ j = .int .i64 (q : Int) ∧ Hid (LW w2 wr b (30 * q) (row.toList ++ []) mn mx wd (playM mn mx wd r q)) ∧ Hid (SlK wr 35 5 row A1 n c1 (r.flatMap cS))) (fun _ j _ => n - (intOf j).toNat)
      case atStart => exact ⟨0, Nat.zero_le _, by rw [nwL_zero], rfl, Lib.hid (by rw [playM_zero]; exact HW4.out), HS4⟩
      case round =>
        obtain ⟨q, hq, rfl, rfl, HW, HS⟩ := hrel
        have e2 : IntKind.i64.wrap ((q : Int) + 1) = (q : Int) + 1 := IntWalk.i64_in _ (by omega)
        by_cases hlt : q < n
        · have HKr := Lib.hid (keep0_trans _ _ _ HK2.out HW.out.k)
          obtain ⟨s, hs⟩ : ∃ s, r.getD q stp0 = s := ⟨_, rfl⟩
          have hsm : s ∈ r := hs ▸ getD_memS (by rw [HRl.out]; exact hlt)
          have HOk := Lib.hid (HRok.out s hsm)
          have HNo := Lib.hid (HRno.out s hsm)
          have HNx := Lib.hid (show playM mn mx wd r (q + 1) = stepM mn mx wd (playM mn mx wd r q) s by rw [← hs]; exact playM_next mn mx wd (by rw [HRl.out]; exact hlt))
          have HNow := Lib.hid (show s.now = nwL l (q + 1) by rw [← hs]; exact HRnow.out q hlt)
          obtain ⟨g, off, hA, p0, p1, p2, p3, p4, _⟩ := RdS.at_ (w := wr) (A := A1) (n := n) (l := r) ⟨HRl.out, HS.out.rd, fun s hs => (HRok.out s hs).keep0 HKr.out⟩ hlt
          rw [hs] at p0 p1 p2 p3 p4
          have p2' : wr.cell? ⟨g, off + q * 5 + 1 + 1, none⟩ = some (.int .i64 s.x.2) := p2
          subst hA
          have q1 : (q : Int) < (n : Int) := by omega
          have q2 : (0 : Int) ≤ (q : Int) := by omega
          clear hs hsm
          rcases Bool.eq_false_or_eq_true s.hear with hh | hh
          · rw [hh] at p0
            have HH := Lib.hid hh
            clear hh
            go_wp2_with fail
            refine (lw_heard HW.out (x := s.x) HOk.out.wx s.now).mono ?_
            rintro e w5 ⟨rfl, hw, hk⟩
            have HW5 := Lib.hid (hw.mono (n' := 30 * (q + 1)) (by omega))
            have HS5 := Lib.hid (HS.out.keep hk (fun y hy h => h.2 (by simp [hy])))
            clear hw hk p0 p1 p2 p2' p3 p4
            go_wp2
            go_roundw
            case rel => exact ⟨q + 1, by omega, by rw [HNow.out], by go_num, Lib.hid (by rw [HNx.out]; unfold stepM; rw [HH.out]; exact HW5.out), HS5⟩
            case measure => simp [intOf]; omega
          · rw [hh] at p0
            have HH := Lib.hid hh
            clear hh
            have hidl := HOk.out.rd.1
            have hno := HNo.out.1
            go_wp2_with fail
            refine (lw_look HW.out HMay.out s.A s.n s.c s.ids (HOk.out.rd.keep0 HKr.out) HOk.out.wi (by omega) (fun y off2 hy e => .inl (by have h1 := rd_low HOk.out.rd y off2 hy e; have h2 := HK2.out.size; omega)) s.now).mono ?_
            rintro e w5 ⟨row2, A2, c2, rfl, _, _, hw, hk⟩
            have HW5 := Lib.hid ((hw.less (L' := row.toList ++ []) (fun y hy => List.mem_append.2 (.inr hy))).mono (n' := 30 * (q + 1)) (by omega))
            have HS5 := Lib.hid (HS.out.keep hk (fun y hy h => h.2 (by simp [hy])))
            clear hw hk p0 p1 p2 p2' p3 p4
            go_wp2
            go_roundw
            case rel => exact ⟨q + 1, by omega, by rw [HNow.out], by go_num, Lib.hid (by rw [HNx.out]; unfold stepM; rw [HH.out]; exact HW5.out), HS5⟩
            case measure => simp [intOf]; omega
        · obtain rfl : q = n := by omega
          obtain ⟨nb0, nb1⟩ := nwL_bd l q
          generalize nwL l q = now at nb0 nb1 ⊢
          have HBr := Lib.hid (HB2.out.keep HW.out.k (fun h => h))
          have HWq := HW
          obtain ⟨m, hm⟩ : ∃ m, playM mn mx wd r q = m := ⟨_, rfl⟩
          rw [hm] at HWq
          clear hm HW HS HW4 HS4
          obtain ⟨gA, hgA, eA⟩ := mod_u64 after 1000 (by omega) (by omega)
          obtain ⟨t, ht⟩ : ∃ t, now + (gA : Int) = t := ⟨_, rfl⟩
          have eB : IntKind.i64.wrap (now + (gA : Int)) = t := by rw [← ht]; exact IntWalk.i64_in _ (by omega)
          clear ht
          go_wp2_with fail
          refine (lw_watched HWq.out (by omega)).mono ?_
          rintro e w7 ⟨ids, hris, hmem, hlen7, ⟨row7, A7, c7, rfl, hs7, hr7, hk⟩, _⟩
          have HW := Lib.hid (HWq.out.moreO hk (fun y hy => ⟨hr7 y hy, hs7.lt y hy⟩))
          have HIds := Lib.hid hs7
          have HMem := Lib.hid hmem
          have HLn := Lib.hid (show ids.length ≤ 3000 by omega)
          have HWfi := Lib.hid (show ∀ x ∈ ids, wfI x from fun x hx => HW.out.wf (by have := (hmem x).1 hx; intro e; rw [e] at this; cases this))
          clear hris hmem hlen7 hs7 hr7 hk HWq HBr
          go_wp2_with fail
          refine (lw_copy HW.out (by omega)).mono ?_
          rintro e wca ⟨bca, rfl, hcw, _⟩
          have HC := Lib.hid hcw
          clear hcw
          go_wp2_with fail
          refine (lw_look HC.out HMay.out A7 ids.length c7 ids ((HIds.out.keep HC.out.k (fun _ _ h => h)).rdI rfl) HWfi.out (by have := HLn.out; omega) (fun y off hy e => .inl (rd_low (HIds.out.rdI rfl) y off hy e)) t).mono ?_
          rintro e wa ⟨rowa, Aa, ca, rfl, hs, hr, hcw, _⟩
          have hk := hcw.k
          have HW_ := Lib.hid (HW.out.moreO hk (fun y hy => ⟨hr y hy, hs.lt y hy⟩))
          have Ha := Lib.hid hs
          have HIds_ := Lib.hid (HIds.out.keep hk (fun y hy h => h))
          clear HIds
          have HIds := HIds_
          clear HIds_
          clear hs hr hcw hk HW HC
          have HW := HW_
          clear HW_
          go_wp2_with fail
          refine (lw_copy HW.out (by omega)).mono ?_
          rintro e wcb ⟨bcb, rfl, hcw, _⟩
          have HC := Lib.hid hcw
          clear hcw
          go_wp2_with fail
          refine (lw_look HC.out HMay.out A7 ids.length c7 ids ((HIds.out.keep HC.out.k (fun _ _ h => h)).rdI rfl) HWfi.out (by have := HLn.out; omega) (fun y off hy e => .inl (rd_low (HIds.out.rdI rfl) y off hy e)) t).mono ?_
          rintro e wb ⟨rowb, Ab, cb, rfl, hs, hr, hcw, _⟩
          have hk := hcw.k
          have HW_ := Lib.hid (HW.out.moreO hk (fun y hy => ⟨hr y hy, hs.lt y hy⟩))
          have Hb := Lib.hid hs
          have HIds_ := Lib.hid (HIds.out.keep hk (fun y hy h => h))
          have Ha_ := Lib.hid (Ha.out.keep hk (fun y hy h => h))
          clear HIds Ha
          have HIds := HIds_
          have Ha := Ha_
          clear HIds_ Ha_
          clear hs hr hcw hk HW HC
          have HW := HW_
          clear HW_
          have hbi := HB2.out.keep HW.out.k (fun h => h)
          have i0 := hbi.cell 0
          have i1' := hbi.cell 1
          simp at i0 i1'
          clear hbi
          go_wp2_with fail
          refine (lw_heard HW.out (x := (pa, pi)) HP.out t).mono ?_
          rintro e wh ⟨rfl, hw, hk⟩
          have HIds_ := Lib.hid (HIds.out.keep hk (fun y hy h => h.2 (by simp [hy])))
          have Ha_ := Lib.hid (Ha.out.keep hk (fun y hy h => h.2 (by simp [hy])))
          have Hb_ := Lib.hid (Hb.out.keep hk (fun y hy h => h.2 (by simp [hy])))
          clear HIds Ha Hb
          have HIds := HIds_
          have Ha := Ha_
          have Hb := Hb_
          clear HIds_ Ha_ Hb_
          have HOk := Lib.hid (show ∀ d, m (pa, pi) = some d → d.Ok from fun d hd => HW.out.ok hd)
          clear HW i0 i1'
          have HW := Lib.hid hw
          clear hw hk
          go_wp2_with fail
          refine (lw_look HW.out HMay.out A7 ids.length c7 ids (HIds.out.rdI rfl) HWfi.out (by have := HLn.out; omega) (fun y off hy e => .inr (by
            have hrow : row7 = some y := by
              rcases HIds.out.2.2.2 with ⟨_, e2, _⟩ | ⟨g2, off2, cur, e1, e2, _⟩
              · rw [e] at e2; cases e2
              · rw [e] at e2; injection e2 with e2; injection e2 with e2 _; rw [e1, e2]
            simp [hrow])) t).mono ?_
          rintro e wl ⟨rowc, Ac, cc, rfl, hs, hr, hw, hk⟩
          have HIds_ := Lib.hid (HIds.out.keep hk (fun y hy h => h.2 (by simp [hy])))
          have Ha_ := Lib.hid (Ha.out.keep hk (fun y hy h => h.2 (by simp [hy])))
          have Hb_ := Lib.hid (Hb.out.keep hk (fun y hy h => h.2 (by simp [hy])))
          clear HIds Ha Hb
          have HIds := HIds_
          have Ha := Ha_
          have Hb := Hb_
          clear HIds_ Ha_ Hb_
          clear HW
          have HW := Lib.hid hw
          have Hc := Lib.hid hs
          clear hs hr hw hk
          have hla := List.length_filter_le (fun x => (lookD ((newD mn mx wd).begin_ t) m x).late t) ids
          have hlb : (lateL ((newD mn mx wd).begin_ t) m t ids).length ≤ 3000 := Nat.le_trans hla HLn.out
          have hlc : (lateL ((newD mn mx wd).begin_ t) (heardM m (pa, pi) t) t ids).length ≤ 3000 := Nat.le_trans (List.length_filter_le _ _) HLn.out
          have HLa := Lib.hid hlb
          have HLc := Lib.hid hlc
          clear hla hlb hlc
          rcases Bool.eq_false_or_eq_true (m (pa, pi)).isSome with his | his
          · have HE := Lib.hid (show lateL ((newD mn mx wd).begin_ t) (heardM m (pa, pi) t) t ids = (lateL ((newD mn mx wd).begin_ t) m t ids).filter (fun y => !decide (y = (pa, pi))) from late_heard his HOk.out)
            have HIs := Lib.hid (show decide ((pa, pi) ∈ ids) = true from decide_eq_true ((HMem.out _).2 his))
            rw [his]
            clear his
            go_wp2_with fail
            refine (sameR_any _ _ _ _ _ _ _ _ _ (Ha.out.rdI rfl) (Hb.out.rdI rfl) (by have := HLa.out; have := HLc.out; omega) (by have := HLa.out; have := HLc.out; omega)).mono ?_
            rintro e wk ⟨rfl, hk⟩
            have HIds_ := Lib.hid (HIds.out.keep hk (fun y hy h => h))
            have Ha_ := Lib.hid (Ha.out.keep hk (fun y hy h => h))
            have Hb_ := Lib.hid (Hb.out.keep hk (fun y hy h => h))
            have Hc_ := Lib.hid (Hc.out.keep hk (fun y hy h => h))
            clear HIds Ha Hb Hc
            have HIds := HIds_
            have Ha := Ha_
            have Hb := Hb_
            have Hc := Hc_
            clear HIds_ Ha_ Hb_ Hc_
            have HW_ := Lib.hid (HW.out.keep0 hk)
            clear hk HW
            have HW := HW_
            clear HW_
            have hbi := HB2.out.keep HW.out.k (fun h => h)
            have i0 := hbi.cell 0
            have i1' := hbi.cell 1
            simp at i0 i1'
            clear hbi
            go_wp2_with fail
            refine (hasR_any A7 ids.length c7 ids (pa, pi) _ (HIds.out.rdI rfl) (by have := HLn.out; omega)).mono ?_
            rintro e wk ⟨rfl, hk⟩
            rw [HIs.out]
            clear i0 i1'
            have HIds_ := Lib.hid (HIds.out.keep hk (fun y hy h => h))
            have Ha_ := Lib.hid (Ha.out.keep hk (fun y hy h => h))
            have Hb_ := Lib.hid (Hb.out.keep hk (fun y hy h => h))
            have Hc_ := Lib.hid (Hc.out.keep hk (fun y hy h => h))
            clear HIds Ha Hb Hc
            have HIds := HIds_
            have Ha := Ha_
            have Hb := Hb_
            have Hc := Hc_
            clear HIds_ Ha_ Hb_ Hc_
            have HW_ := Lib.hid (HW.out.keep0 hk)
            clear hk HW
            have HW := HW_
            clear HW_
            have hbi := HB2.out.keep HW.out.k (fun h => h)
            have i0 := hbi.cell 0
            have i1' := hbi.cell 1
            simp at i0 i1'
            clear hbi
            go_wp2_with fail
            refine (delR_any _ _ _ _ (pa, pi) _ (Ha.out.rdI rfl) (by have := HLa.out; omega)).mono ?_
            rintro e wk ⟨Ad, ndl, cd, rfl, hd, hk⟩
            have Hd := Lib.hid hd
            have HdL := Lib.hid (show ndl ≤ 3000 by have h1 := hd.1.1; have h2 := delM_len (lateL ((newD mn mx wd).begin_ t) m t ids) (pa, pi); have h4 := HLa.out; omega)
            clear hd i0 i1'
            have HIds_ := Lib.hid (HIds.out.keep hk (fun y hy h => h))
            have Ha_ := Lib.hid (Ha.out.keep hk (fun y hy h => h))
            have Hb_ := Lib.hid (Hb.out.keep hk (fun y hy h => h))
            have Hc_ := Lib.hid (Hc.out.keep hk (fun y hy h => h))
            clear HIds Ha Hb Hc
            have HIds := HIds_
            have Ha := Ha_
            have Hb := Hb_
            have Hc := Hc_
            clear HIds_ Ha_ Hb_ Hc_
            have HW_ := Lib.hid (HW.out.keep0 hk)
            clear hk HW
            have HW := HW_
            clear HW_
            go_wp2_with fail
            refine (sameR_any _ _ _ _ _ _ _ _ _ Hd.out.1 (Hc.out.rdI rfl) (by have := HdL.out; omega) (by have := HLc.out; omega)).mono ?_
            rintro e wk ⟨rfl, hk⟩
            rw [decide_eq_true (apart_set HE.out)]
            have HIds_ := Lib.hid (HIds.out.keep hk (fun y hy h => h))
            have Ha_ := Lib.hid (Ha.out.keep hk (fun y hy h => h))
            have Hb_ := Lib.hid (Hb.out.keep hk (fun y hy h => h))
            have Hc_ := Lib.hid (Hc.out.keep hk (fun y hy h => h))
            clear HIds Ha Hb Hc
            have HIds := HIds_
            have Ha := Ha_
            have Hb := Hb_
            have Hc := Hc_
            clear HIds_ Ha_ Hb_ Hc_
            have HW_ := Lib.hid (HW.out.keep0 hk)
            clear hk HW
            have HW := HW_
            clear HW_
            have hbi := HB2.out.keep HW.out.k (fun h => h)
            have i0 := hbi.cell 0
            have i1' := hbi.cell 1
            simp at i0 i1'
            clear hbi
            go_wp2_with fail
            refine (hasR_any _ _ _ _ (pa, pi) _ (Hc.out.rdI rfl) (by have := HLc.out; omega)).mono ?_
            rintro e wk ⟨rfl, hk⟩
            rw [decide_eq_false (fun h => by rw [HE.out] at h; have := (List.mem_filter.1 h).2; simp at this)]
            have HK := Lib.hid (keep0_trans _ _ _ HK2.out (keep0_trans _ _ _ HW.out.k hk))
            clear hk i0 i1'
            go_wp2
            go_ret
            exact ⟨rfl, HK.out⟩
          · have HE := Lib.hid (show lateL ((newD mn mx wd).begin_ t) (heardM m (pa, pi) t) t ids = (lateL ((newD mn mx wd).begin_ t) m t ids).filter (fun y => !decide (y = (pa, pi))) from by
                rw [heard_none_ (by cases hq : m (pa, pi) with | none => rfl | some d => rw [hq] at his; cases his)]
                exact (List.filter_eq_self.2 (fun x hx => by
                  have hx2 := (HMem.out x).1 (List.mem_filter.1 hx).1
                  have : x ≠ (pa, pi) := fun e => by rw [e, his] at hx2; cases hx2
                  simp [this])).symm)
            have HIs := Lib.hid (show decide ((pa, pi) ∈ ids) = false from decide_eq_false (fun h => by have := (HMem.out _).1 h; rw [his] at this; cases this))
            have HN := Lib.hid (heard_none_ (p := (pa, pi)) (show m (pa, pi) = none by cases hq : m (pa, pi) with | none => rfl | some d => rw [hq] at his; cases his) t)
            rw [his]
            clear his
            go_wp2_with fail
            refine (sameR_any _ _ _ _ _ _ _ _ _ (Ha.out.rdI rfl) (Hb.out.rdI rfl) (by have := HLa.out; have := HLc.out; omega) (by have := HLa.out; have := HLc.out; omega)).mono ?_
            rintro e wk ⟨rfl, hk⟩
            have HIds_ := Lib.hid (HIds.out.keep hk (fun y hy h => h))
            have Ha_ := Lib.hid (Ha.out.keep hk (fun y hy h => h))
            have Hb_ := Lib.hid (Hb.out.keep hk (fun y hy h => h))
            have Hc_ := Lib.hid (Hc.out.keep hk (fun y hy h => h))
            clear HIds Ha Hb Hc
            have HIds := HIds_
            have Ha := Ha_
            have Hb := Hb_
            have Hc := Hc_
            clear HIds_ Ha_ Hb_ Hc_
            have HW_ := Lib.hid (HW.out.keep0 hk)
            clear hk HW
            have HW := HW_
            clear HW_
            have hbi := HB2.out.keep HW.out.k (fun h => h)
            have i0 := hbi.cell 0
            have i1' := hbi.cell 1
            simp at i0 i1'
            clear hbi
            go_wp2_with fail
            refine (hasR_any A7 ids.length c7 ids (pa, pi) _ (HIds.out.rdI rfl) (by have := HLn.out; omega)).mono ?_
            rintro e wk ⟨rfl, hk⟩
            rw [HIs.out]
            clear i0 i1'
            have HIds_ := Lib.hid (HIds.out.keep hk (fun y hy h => h))
            have Ha_ := Lib.hid (Ha.out.keep hk (fun y hy h => h))
            have Hb_ := Lib.hid (Hb.out.keep hk (fun y hy h => h))
            have Hc_ := Lib.hid (Hc.out.keep hk (fun y hy h => h))
            clear HIds Ha Hb Hc
            have HIds := HIds_
            have Ha := Ha_
            have Hb := Hb_
            have Hc := Hc_
            clear HIds_ Ha_ Hb_ Hc_
            have HW_ := Lib.hid (HW.out.keep0 hk)
            clear hk HW
            have HW := HW_
            clear HW_
            have hbi := HB2.out.keep HW.out.k (fun h => h)
            have i0 := hbi.cell 0
            have i1' := hbi.cell 1
            simp at i0 i1'
            clear hbi
            go_wp2_with fail
            refine (delR_any _ _ _ _ (pa, pi) _ (Ha.out.rdI rfl) (by have := HLa.out; omega)).mono ?_
            rintro e wk ⟨Ad, ndl, cd, rfl, hd, hk⟩
            have Hd := Lib.hid hd
            have HdL := Lib.hid (show ndl ≤ 3000 by have h1 := hd.1.1; have h2 := delM_len (lateL ((newD mn mx wd).begin_ t) m t ids) (pa, pi); have h4 := HLa.out; omega)
            clear hd i0 i1'
            have HIds_ := Lib.hid (HIds.out.keep hk (fun y hy h => h))
            have Ha_ := Lib.hid (Ha.out.keep hk (fun y hy h => h))
            have Hb_ := Lib.hid (Hb.out.keep hk (fun y hy h => h))
            have Hc_ := Lib.hid (Hc.out.keep hk (fun y hy h => h))
            clear HIds Ha Hb Hc
            have HIds := HIds_
            have Ha := Ha_
            have Hb := Hb_
            have Hc := Hc_
            clear HIds_ Ha_ Hb_ Hc_
            have HW_ := Lib.hid (HW.out.keep0 hk)
            clear hk HW
            have HW := HW_
            clear HW_
            go_wp2_with fail
            refine (sameR_any _ _ _ _ _ _ _ _ _ Hd.out.1 (Hc.out.rdI rfl) (by have := HdL.out; omega) (by have := HLc.out; omega)).mono ?_
            rintro e wk ⟨rfl, hk⟩
            rw [decide_eq_true (apart_set HE.out)]
            have HIds_ := Lib.hid (HIds.out.keep hk (fun y hy h => h))
            have Ha_ := Lib.hid (Ha.out.keep hk (fun y hy h => h))
            have Hb_ := Lib.hid (Hb.out.keep hk (fun y hy h => h))
            have Hc_ := Lib.hid (Hc.out.keep hk (fun y hy h => h))
            clear HIds Ha Hb Hc
            have HIds := HIds_
            have Ha := Ha_
            have Hb := Hb_
            have Hc := Hc_
            clear HIds_ Ha_ Hb_ Hc_
            have HW_ := Lib.hid (HW.out.keep0 hk)
            clear hk HW
            have HW := HW_
            clear HW_
            go_wp2_with fail
            refine (sameR_any _ _ _ _ _ _ _ _ _ (Ha.out.rdI rfl) (Hc.out.rdI rfl) (by have := HLa.out; have := HLc.out; omega) (by have := HLa.out; have := HLc.out; omega)).mono ?_
            rintro e wk ⟨rfl, hk⟩
            rw [show decide (setM (lateL ((newD mn mx wd).begin_ t) m t ids) = setM (lateL ((newD mn mx wd).begin_ t) (heardM m (pa, pi) t) t ids)) = true from by rw [HN.out]; simp]
            have HIds_ := Lib.hid (HIds.out.keep hk (fun y hy h => h))
            have Ha_ := Lib.hid (Ha.out.keep hk (fun y hy h => h))
            have Hb_ := Lib.hid (Hb.out.keep hk (fun y hy h => h))
            have Hc_ := Lib.hid (Hc.out.keep hk (fun y hy h => h))
            clear HIds Ha Hb Hc
            have HIds := HIds_
            have Ha := Ha_
            have Hb := Hb_
            have Hc := Hc_
            clear HIds_ Ha_ Hb_ Hc_
            have HW_ := Lib.hid (HW.out.keep0 hk)
            clear hk HW
            have HW := HW_
            clear HW_
            have hbi := HB2.out.keep HW.out.k (fun h => h)
            have i0 := hbi.cell 0
            have i1' := hbi.cell 1
            simp at i0 i1'
            clear hbi
            go_wp2_with fail
            refine (hasR_any _ _ _ _ (pa, pi) _ (Hc.out.rdI rfl) (by have := HLc.out; omega)).mono ?_
            rintro e wk ⟨rfl, hk⟩
            rw [decide_eq_false (fun h => by rw [HE.out] at h; have := (List.mem_filter.1 h).2; simp at this)]
            have HK := Lib.hid (keep0_trans _ _ _ HK2.out (keep0_trans _ _ _ HW.out.k hk))
            clear hk i0 i1'
            go_wp2
            go_ret
            exact ⟨rfl, HK.out⟩
    · go_wp2_with fail
      refine (wnew_bad mn mx wd _ hmay).mono ?_
      rintro e w3 ⟨rfl, rfl⟩
      go_wp2
      go_ret
      exact ⟨rfl, HK2.out⟩
theorem walkWatchApart {w : World} (a0 : Int) (_ : (Lit.int .i64 a0).wf = true) (a1 : Int) (_ : (Lit.int .i64 a1).wf = true) (a2 : Int) (_ : (Lit.int .i64 a2).wf = true) (v3 : Value) (w3 : InSteps w v3) (v4 : Value) (w4 : InIdW w v4) (a5 : Int) (_ : (Lit.int .i64 a5).wf = true) :
    Calls Try.prog 7 #[.int .i64 a0, .int .i64 a1, .int .i64 a2, v3, v4, .int .i64 a5] w fun e w' => e = .returned (.bool true) ∧ Below w.heap.size w w' := by
  obtain ⟨A, n, c, l, rfl, _, _, hl⟩ := w3
  obtain ⟨p, hp, rfl⟩ := w4
  exact (watchApart_tell a0 a1 a2 A n c l p hp a5 w hl).mono fun _ _ ⟨h, k⟩ => ⟨h, k.b⟩
end Go.Proofs.Ytenphdgnaknbeaa
