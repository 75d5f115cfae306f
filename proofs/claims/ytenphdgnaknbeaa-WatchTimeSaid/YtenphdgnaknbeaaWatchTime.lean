/-
  The statement WatchTime. Written by gen_time.py.
-/
import Derived.Test.YtenphdgnaknbeaaWatT
import Derived.Test.YtenphdgnaknbeaaEq
import Derived.Test.YtenphdgnaknbeaaKrip2
namespace Go.Proofs.Ytenphdgnaknbeaa
open Go.RowKit
attribute [local irreducible] kAll
attribute [local go_sem] kQuiet kQuietUpon
set_option maxRecDepth 100000

theorem infoInt : (Try.prog.info? 3).map (fun i => (i.zero, i.size, i.bytes)) = some (some (.int .i64 0), 1, 8) := by kernel_rfl
theorem one_ints (l : List Int) : ∀ u ∈ l.map (Value.int .i64), u.oneCell' = true := by
  intro u hu
  obtain ⟨x, _, rfl⟩ := List.mem_map.1 hu
  rfl
theorem SlK.at1 {w : World} {e : TypeId} {row : Option Nat} {A : Option Addr} {n c : Nat} {l : List Int} (h : SlK w e 1 row A n c (l.map (Value.int .i64))) {j : Nat} (hj : j < n) : ∃ g off, A = some ⟨g, off, none⟩ ∧ w.cell? ⟨g, off + j, none⟩ = some (.int .i64 (l.getD j 0)) := by
  obtain ⟨g, off, v, e1, e2, e3⟩ := h.rd.2 j (by omega)
  have hl : j < l.length := by have := h.1; simp at this; omega
  refine ⟨g, off, e1, ?_⟩
  rw [List.getElem?_map, List.getElem?_eq_getElem hl] at e2
  have : l.getD j 0 = l[j] := by simp [List.getD, hl]
  rw [e3, this]
  simpa using e2.symm
theorem getD_map {who : List ID} {f : ID → Int} {k : Nat} (hk : k < who.length) : (who.map f).getD k 0 = f (who.getD k (0, 0)) := by
  simp [List.getD, hk]
theorem SlK.emptyI {w : World} {g : Nat} (h : Blk w g 33 #[]) : SlK w 33 2 (some g) (some ⟨g, 0, none⟩) 0 0 [] := SlK.empty2 h

set_option maxHeartbeats 3000000 in
theorem watchTime_tell (mn mx wd : Int) (A : Option Addr) (n c : Nat) (l : List Stp) (w : World) (hl : RdS w A n l) :
    Calls Try.prog 3 #[.int .i64 mn, .int .i64 mx, .int .i64 wd, .slice A n c] w (Tell (.bool true) w) := by
  have HLs := Lib.hid hl
  have HLen := Lib.hid hl.1
  clear hl
  obtain ⟨i0, hi, hz0, hz1, hz2⟩ := info_parts infoInt
  have HI0 := Lib.hid hi
  have HZ0 := Lib.hid hz0
  have HZ1 := Lib.hid hz1
  have HZ2 := Lib.hid hz2
  clear hi hz0 hz1 hz2
  obtain ⟨j0, hi, hz0, hz1, hz2⟩ := info_parts infoR
  have HJ0 := Lib.hid hi
  have HY0 := Lib.hid hz0
  have HY1 := Lib.hid hz1
  have HY2 := Lib.hid hz2
  clear hi hz0 hz1 hz2
  go_enter Try.func3, Try.ntmps3
  go_wp2_with fail
  refine (long_any A n c l _ HLs.out).mono ?_
  rintro e w1 ⟨rfl, hk⟩
  have HK1 := Lib.hid hk
  clear hk
  rcases Bool.eq_false_or_eq_true (longM l) with hlong | hlong
  · rw [hlong]
    go_wp2_with fail
    refine (awake_any _).mono ?_
    rintro e w2 ⟨rfl, hk⟩
    have HK2 := Lib.hid (keep0_trans _ _ _ HK1.out hk)
    clear hk
    go_wp2
    go_ret
    exact ⟨rfl, HK2.out⟩
  · rw [hlong]
    have HLo := Lib.hid hlong
    have hn100 : n ≤ 100 := by have := (long_no hlong).1; have := HLen.out; omega
    clear hlong
    go_wp2_with fail
    refine (awake_any _).mono ?_
    rintro e w2 ⟨rfl, hk⟩
    have HK2 := Lib.hid (keep0_trans _ _ _ HK1.out hk)
    clear hk HK1
    by_cases hmay : MayNew mn mx wd
    · go_wp2_with fail
      refine (lw_new mn mx wd hmay (Keep.refl _ w2)).mono ?_
      rintro e w3 ⟨b, rfl, hw, hk⟩
      have HW3 := Lib.hid hw
      have HK3 := Lib.hid (keep0_trans _ _ _ HK2.out hk)
      have HMay := Lib.hid hmay
      clear hw hk hmay
      go_wp2_with fail
      refine (rising_any A n c l _ (HLs.out.keep0 HK3.out) hn100).mono ?_
      rintro e w4 ⟨row, A1, c1, rfl, hs, hr, hk⟩
      have HW4 := Lib.hid (HW3.out.moreO hk (fun g hg => ⟨hr g hg, hs.lt g hg⟩))
      have HS4 := Lib.hid hs
      clear hs hr hk HW3 HK3
      obtain ⟨r, hr⟩ : ∃ r, risA l n = r := ⟨_, rfl⟩
      have HRl := Lib.hid (show r.length = n by rw [← hr]; exact risA_len l n)
      have HRok := Lib.hid (show ∀ s ∈ r, OkS w s by rw [← hr]; exact risA_ok HLen.out hn100 HLs.out.2.2)
      have HRno := Lib.hid (show ∀ s ∈ r, s.ids.length ≤ 30 ∧ Ris s.ids by rw [← hr]; exact risA_no HLo.out HLen.out)
      have HRnow := Lib.hid (show ∀ q, q < n → (r.getD q stp0).now = nwL l (q + 1) by rw [← hr]; exact fun q hq => risA_now hq)
      rw [hr] at HS4
      clear hr
      go_wp2_with fail
      go_loopw [11, 12, 13] (fun v1 v2 j wr => ∃ (q : Nat) (who : List ID) (row1 : Option Nat) (B1 : Option Addr) (d1 : Nat) (row2 : Option Nat) (B2 : Option Addr) (d2 : Nat), q ≤ n ∧ v1 = .slice B1 who.length d1 ∧ v2 = .slice B2 who.length d2 ∧ j = .int .i64 (q : Int) ∧
        Hid (LW w2 wr b (30 * q) (row2.toList ++ (row1.toList ++ (row.toList ++ []))) mn mx wd (playM mn mx wd r q)) ∧ Hid (SlK wr 35 5 row A1 n c1 (r.flatMap cS)) ∧ Hid (SlK wr 33 2 row1 B1 who.length d1 (who.flatMap cID)) ∧
        Hid (SlK wr 3 1 row2 B2 who.length d2 ((who.map (lastD (playM mn mx wd r q))).map (Value.int .i64))) ∧ Hid (∀ g, row2 = some g → w2.heap.size ≤ g) ∧ Hid (∀ x, (playM mn mx wd r q x).isSome = true ↔ x ∈ who) ∧ Hid (PInv mn mx (playM mn mx wd r q) (nwL l q)) ∧ Hid (who.length ≤ 30)) (fun _ _ j _ => n - (intOf j).toNat)
      case atStart => exact ⟨0, [], none, none, 0, none, none, 0, Nat.zero_le _, rfl, rfl, rfl, Lib.hid (by rw [playM_zero]; exact HW4.out), HS4, Lib.hid (SlK.nil_ _ _ _), Lib.hid (SlK.nil_ _ _ _), Lib.hid (fun g hg => by cases hg), Lib.hid (fun x => by rw [playM_zero]; simp), Lib.hid (by rw [playM_zero]; exact pinv_none _ _ _), Lib.hid (Nat.zero_le _)⟩
      case round =>
        obtain ⟨q, who, row1, B1, d1, row2, B2, d2, hq, rfl, rfl, rfl, HW, HS, HWho, HLst, HR2, HDom, HInv, HWl⟩ := hrel
        have e2 : IntKind.i64.wrap ((q : Int) + 1) = (q : Int) + 1 := IntWalk.i64_in _ (by omega)
        by_cases hlt : q < n
        · have HKr := Lib.hid (keep0_trans _ _ _ HK2.out HW.out.k)
          obtain ⟨s, hs⟩ : ∃ s, r.getD q stp0 = s := ⟨_, rfl⟩
          have hsm : s ∈ r := hs ▸ getD_memS (by rw [HRl.out]; exact hlt)
          have HOk := Lib.hid (HRok.out s hsm)
          have HNo := Lib.hid (HRno.out s hsm)
          have HNx := Lib.hid (show playM mn mx wd r (q + 1) = stepM mn mx wd (playM mn mx wd r q) s by rw [← hs]; exact playM_next mn mx wd (by rw [HRl.out]; exact hlt))
          have HNow := Lib.hid (show s.now = nwL l (q + 1) by rw [← hs]; exact HRnow.out q hlt)
          have HNb := Lib.hid (show 0 ≤ nwL l q ∧ nwL l q ≤ s.now ∧ s.now ≤ 1000000 by
            have h1 := nwL_bd l q; have h2 := nwL_bd l (q + 1); have h3 := nwL_le l (k := q) (by rw [HLen.out]; exact hlt); rw [HNow.out]; omega)
          obtain ⟨g, off, hA, p0, p1, p2, p3, p4, _⟩ := RdS.at_ (w := wr) (A := A1) (n := n) (l := r) ⟨HRl.out, HS.out.rd, fun s hs => (HRok.out s hs).keep0 HKr.out⟩ hlt
          rw [hs] at p0 p1 p2 p3 p4
          subst hA
          have q1 : (q : Int) < (n : Int) := by omega
          have q2 : (0 : Int) ≤ (q : Int) := by omega
          clear hs hsm
          obtain ⟨m, hm⟩ : ∃ m, playM mn mx wd r q = m := ⟨_, rfl⟩
          rw [hm] at HW HLst HDom HInv HNx
          clear hm
          go_upto_region 13 with (fail)
          have hb := Blk.new wr 35 #[.bool s.hear, .int .i64 s.x.1, .int .i64 s.x.2, .slice s.A s.n s.c, .int .i64 s.now]
          have hk : Keep (fun _ => False) wr (wr.alloc (.cells #[.bool s.hear, .int .i64 s.x.1, .int .i64 s.x.2, .slice s.A s.n s.c, .int .i64 s.now] 35)) := (Keep.refl _ wr).alloc _
          obtain ⟨gS, hgS⟩ : ∃ gS, wr.heap.size = gS := ⟨_, rfl⟩
          have hw' := HW.out.more hk (Nat.le_refl _) hb.lt
          rw [hgS] at hb hw' ⊢
          generalize hw : wr.alloc (.cells #[.bool s.hear, .int .i64 s.x.1, .int .i64 s.x.2, .slice s.A s.n s.c, .int .i64 s.now] 35) = V at *
          have HB := Lib.hid hb
          have HV := Lib.hid hw'
          have HSv := Lib.hid (HS.out.keep hk (fun _ _ h => h))
          have HWhv := Lib.hid (HWho.out.keep hk (fun _ _ h => h))
          have HLsv := Lib.hid (HLst.out.keep hk (fun _ _ h => h))
          have HKv := Lib.hid (keep0_trans _ _ _ HKr.out hk)
          have f0 := hb.cell 0
          have f1 := hb.cell 1
          have f2 := hb.cell 2
          have f3 := hb.cell 3
          have f4 := hb.cell 4
          simp at f0 f1 f2 f3 f4
          clear hw hb hk hw' hgS p0 p1 p2 p3 p4 HW HS HWho HLst HKr
          rcases Bool.eq_false_or_eq_true s.hear with hh | hh
          · rw [hh] at f0
            have HH := Lib.hid hh
            clear hh
            go_wp2_with fail
            refine (lw_heard HV.out (x := s.x) HOk.out.wx s.now).mono ?_
            rintro e V1 ⟨rfl, hw, hk⟩
            have HSv_ := Lib.hid (HSv.out.keep hk (fun y hy h => h.2 (by simp [hy])))
            have HWhv_ := Lib.hid (HWhv.out.keep hk (fun y hy h => h.2 (by simp [hy])))
            have HLsv_ := Lib.hid (HLsv.out.keep hk (fun y hy h => h.2 (by simp [hy])))
            clear HSv HWhv HLsv
            have HSv := HSv_
            have HWhv := HWhv_
            have HLsv := HLsv_
            clear HSv_ HWhv_ HLsv_
            have HB1 := Lib.hid (HB.out.keep hk (fun h => h.2 (by simp)))
            have HV1 := Lib.hid hw
            clear hw hk HV HB f0 f1 f2 f3 f4
            obtain ⟨m', hm'⟩ : ∃ m', heardM m s.x s.now = m' := ⟨_, rfl⟩
            have HM' := Lib.hid hm'
            rw [hm'] at HV1
            clear hm'
            go_wp2_with fail
            go_loopw [15] (fun j wr => ∃ k : Nat, k ≤ who.length ∧ j = .int .i64 (k : Int) ∧ Hid (SlK wr 3 1 row2 B2 who.length d2 ((mixL who m m' k).map (Value.int .i64))) ∧ Hid (Keep (fun y => row2 = some y) V1 wr)) (fun j _ => who.length - (intOf j).toNat)
            case atStart => exact ⟨0, Nat.zero_le _, rfl, Lib.hid (by rw [mixL_zero]; exact HLsv.out), Lib.hid (Keep.refl _ _)⟩
            case round =>
              obtain ⟨k, hk, rfl, HL, HK⟩ := hrel
              have e3 : IntKind.i64.wrap ((k : Int) + 1) = (k : Int) + 1 := IntWalk.i64_in _ (by have := HWl.out; omega)
              by_cases hkl : k < who.length
              · have hwho := HWhv.out.keep HK.out (fun y hy e => by
                  obtain ⟨cs, h1⟩ := HLsv.out.row_at y e
                  obtain ⟨cs', h2⟩ := HWhv.out.row_at y hy
                  exact h1.ne_ h2 (by decide) rfl)
                have hbS := HB1.out.keep HK.out (fun e => by
                  obtain ⟨cs, h1⟩ := HLsv.out.row_at gS e
                  exact h1.ne_ HB1.out (by decide) rfl)
                obtain ⟨g1, off1, hA1, c0, c1'⟩ := (hwho.rdI rfl).at_ hkl
                obtain ⟨x, hx⟩ : ∃ x, who.getD k (0, 0) = x := ⟨_, rfl⟩
                rw [hx] at c0 c1'
                have HX := Lib.hid hx
                subst hA1
                obtain ⟨g2, off2, hA2, hrow2, hg2, ⟨v2, _, hv2⟩, hfz, hst⟩ := HL.out.store hkl
                subst hA2
                have HSt := Lib.hid hst
                have f1 := hbS.cell 1
                have f2 := hbS.cell 2
                have f4 := hbS.cell 4
                simp at f1 f2 f4
                have q3 : (k : Int) < (who.length : Int) := by omega
                have q4 : (0 : Int) ≤ (k : Int) := by omega
                have G := gID
                have HHit := Lib.hid (fun (he : x = s.x) => (show lastD m' (who.getD k (0, 0)) = s.now from by
                  rw [HX.out, he, ← HM'.out]
                  exact lastD_same HInv.out HNb.out.2.1 HNb.out.2.2 ((HDom.out _).2 (he ▸ HX.out ▸ getD_mem hkl))))
                have HMiss := Lib.hid (fun (he : ¬ x = s.x) => (show mixL who m m' (k + 1) = mixL who m m' k from mixL_same hkl (by rw [HX.out, ← HM'.out]; exact lastD_other he)))
                obtain ⟨xa, xi⟩ := x
                simp only at c0 c1'
                clear hwho hbS hx hst
                by_cases he : ((xa, xi) : ID) = s.x
                · have E : ∀ W, (binOp .eql 33 (.agg #[.int .i64 xa, .int .i64 xi]) (.agg #[.int .i64 s.x.1, .int .i64 s.x.2])).run Try.prog W = .ok (.bool true) W := fun W => by
                    have := eql_ID (xa, xi) s.x W
                    rw [decide_eq_true he] at this
                    exact this
                  have HQ := Lib.hid (HHit.out he)
                  clear he HHit HMiss
                  go_wp2
                  go_quiet (fail)
                  go_wp2
                  go_roundw
                  case rel => exact ⟨k + 1, by omega, by go_num, Lib.hid (by rw [mixL_next hkl, HQ.out, List.map_set]; exact (HSt.out _ _).1), Lib.hid (HK.out.trans ((HSt.out _ _).2.mono fun y _ e => .inl e))⟩
                  case measure => simp [intOf]; omega
                · have E : ∀ W, (binOp .eql 33 (.agg #[.int .i64 xa, .int .i64 xi]) (.agg #[.int .i64 s.x.1, .int .i64 s.x.2])).run Try.prog W = .ok (.bool false) W := fun W => by
                    have := eql_ID (xa, xi) s.x W
                    rw [decide_eq_false he] at this
                    exact this
                  have HQ := Lib.hid (HMiss.out he)
                  clear he HHit HMiss
                  go_wp2
                  go_quiet (fail)
                  go_wp2
                  go_roundw
                  case rel => exact ⟨k + 1, by omega, by go_num, Lib.hid (by rw [HQ.out]; exact HL.out.keep ((Keep.refl (fun _ => False) _).drewN _) (fun _ _ h => h)), Lib.hid (HK.out.drewN _)⟩
                  case measure => simp [intOf]; omega
              · obtain rfl : k = who.length := by omega
                have HVe := Lib.hid (HV1.out.keepL HK.out (fun y _ e => ⟨HR2.out y e, by simp [e]⟩))
                have HSe := Lib.hid (HSv.out.keep HK.out (fun y hy e => by
                  obtain ⟨cs, h1⟩ := HLsv.out.row_at y e
                  obtain ⟨cs', h2⟩ := HSv.out.row_at y hy
                  exact h1.ne_ h2 (by decide) rfl))
                have HWe := Lib.hid (HWhv.out.keep HK.out (fun y hy e => by
                  obtain ⟨cs, h1⟩ := HLsv.out.row_at y e
                  obtain ⟨cs', h2⟩ := HWhv.out.row_at y hy
                  exact h1.ne_ h2 (by decide) rfl))
                have HP := Lib.hid (show playM mn mx wd r (q + 1) = m' by rw [HNx.out]; unfold stepM; rw [HH.out]; exact HM'.out)
                go_wp2
                go_roundw
                case rel => exact ⟨q + 1, who, row1, B1, d1, row2, B2, d2, by omega, rfl, rfl, by go_num, Lib.hid (by rw [HP.out]; exact (HVe.out.less (fun y hy => List.mem_cons.2 (.inr hy))).mono (by omega)), HSe, HWe, Lib.hid (by rw [HP.out, ← mixL_all who m m']; exact HL.out), HR2, Lib.hid (fun x => by rw [HP.out, ← HM'.out, heard_some]; exact HDom.out x), Lib.hid (by rw [HP.out, ← HM'.out, ← HNow.out]; exact pinv_heard HInv.out HNb.out.2.1 HNb.out.2.2 s.x), HWl⟩
                case measure => simp [intOf]; omega
          · rw [hh] at f0
            have HH := Lib.hid hh
            clear hh
            have hidl := HOk.out.rd.1
            have hno := HNo.out.1
            have HId := Lib.hid HOk.out.rd
            have HSn := Lib.hid (show s.n ≤ 30 by omega)
            have q5 : s.n ≤ 30 := by omega
            obtain ⟨nd, hnd⟩ : ∃ nd, (newD mn mx wd).begin_ s.now = nd := ⟨_, rfl⟩
            obtain ⟨m', hm'⟩ : ∃ m', lookM nd m s.ids = m' := ⟨_, rfl⟩
            have HNd := Lib.hid hnd
            have HM' := Lib.hid hm'
            have HIdl := Lib.hid hidl
            clear hnd hm' hidl hno f1 f2 f4
            go_wp2
            go_loopw [16, 17] (fun v j wr => ∃ (a : Nat) (row3 : Option Nat) (A3 : Option Addr) (c3 : Nat), a ≤ s.n ∧ v = .slice A3 a c3 ∧ j = .int .i64 (a : Int) ∧ Hid (SlK wr 3 1 row3 A3 a c3 (((s.ids.take a).map (lastD m')).map (Value.int .i64))) ∧ Hid (∀ g, row3 = some g → V.heap.size ≤ g) ∧ Hid (Keep (fun _ => False) V wr)) (fun _ j _ => s.n - (intOf j).toNat)
            case atStart => exact ⟨0, none, none, 0, Nat.zero_le _, rfl, rfl, Lib.hid (SlK.nil_ _ _ _), Lib.hid (fun g hg => by cases hg), Lib.hid (Keep.refl _ _)⟩
            case round =>
              obtain ⟨a, row3, A3, c3, ha, rfl, rfl, HL3, HR3, HK3⟩ := hrel
              have e3 : IntKind.i64.wrap ((a : Int) + 1) = (a : Int) + 1 := IntWalk.i64_in _ (by omega)
              have f3 := (HB.out.keep HK3.out (fun h => h)).cell 3
              have f4 := (HB.out.keep HK3.out (fun h => h)).cell 4
              simp at f3 f4
              by_cases hal : a < s.n
              · have q6 : (a : Int) < (s.n : Int) := by omega
                have q7 : (0 : Int) ≤ (a : Int) := by omega
                obtain ⟨x, hx⟩ : ∃ x, s.ids.getD a (0, 0) = x := ⟨_, rfl⟩
                have HX := Lib.hid hx
                have HXm := Lib.hid (show x ∈ s.ids from hx ▸ getD_mem (by rw [HIdl.out]; exact hal))
                clear hx
                go_wp2
                go_loopw [18, 19] (fun v j wr => ∃ k : Nat, k ≤ who.length ∧ v = .int .i64 (tkL who m s.now x k) ∧ j = .int .i64 (k : Int) ∧ Hid (SlK wr 3 1 row3 A3 a c3 (((s.ids.take a).map (lastD m')).map (Value.int .i64))) ∧ Hid (Keep (fun _ => False) V wr)) (fun _ j _ => who.length - (intOf j).toNat)
                case atStart => exact ⟨0, Nat.zero_le _, by rw [tkL_zero], rfl, HL3, HK3⟩
                case round =>
                  obtain ⟨k, hk, rfl, rfl, HL4, HK4⟩ := hrel
                  clear HL3 HK3 f3 f4
                  have e4 : IntKind.i64.wrap ((k : Int) + 1) = (k : Int) + 1 := IntWalk.i64_in _ (by have := HWl.out; omega)
                  by_cases hkl : k < who.length
                  · obtain ⟨g1, off1, hA1, c0, c1'⟩ := ((HWhv.out.keep HK4.out (fun _ _ h => h)).rdI rfl).at_ hkl
                    obtain ⟨y, hy⟩ : ∃ y, who.getD k (0, 0) = y := ⟨_, rfl⟩
                    rw [hy] at c0 c1'
                    have HY := Lib.hid hy
                    obtain ⟨g2, off2, hA2, u0⟩ := (HLsv.out.keep HK4.out (fun _ _ h => h)).at1 hkl
                    rw [getD_map hkl, hy] at u0
                    obtain ⟨g3, off3, hA3, b0, b1⟩ := (HId.out.keep0 (keep0_trans _ _ _ HKv.out HK4.out)).at_ hal
                    rw [HX.out] at b0 b1
                    have f3 := (HB.out.keep HK4.out (fun h => h)).cell 3
                    simp at f3
                    rw [hA3] at f3
                    subst hA1 hA2
                    have q3 : (k : Int) < (who.length : Int) := by omega
                    have q4 : (0 : Int) ≤ (k : Int) := by omega
                    have G := gID
                    have HHit := Lib.hid (fun (he : y = x) => tkL_hit (m := m) (t := s.now) (x := x) hkl (by rw [HY.out]; exact he))
                    have HMiss := Lib.hid (fun (he : ¬ y = x) => tkL_miss (m := m) (t := s.now) (x := x) hkl (by rw [HY.out]; exact he))
                    have HHe := Lib.hid (fun (he : y = x) => (show lastD m y = lastD m x by rw [he]))
                    obtain ⟨ya, yi⟩ := y
                    obtain ⟨xa, xi⟩ := x
                    simp only at c0 c1' b0 b1
                    clear hy hA3
                    by_cases he : ((ya, yi) : ID) = (xa, xi)
                    · have E : ∀ W, (binOp .eql 33 (.agg #[.int .i64 ya, .int .i64 yi]) (.agg #[.int .i64 xa, .int .i64 xi])).run Try.prog W = .ok (.bool true) W := fun W => by
                        have := eql_ID (ya, yi) (xa, xi) W
                        rw [decide_eq_true he] at this
                        exact this
                      have HQ := Lib.hid (HHit.out he)
                      have HQ2 := Lib.hid (HHe.out he)
                      clear he HHit HMiss HHe
                      go_wp2
                      go_quiet (fail)
                      go_wp2
                      go_roundw
                      case rel => exact ⟨k + 1, by omega, by rw [HQ.out, HQ2.out], by go_num, Lib.hid (HL4.out.keep ((Keep.refl (fun _ => False) _).drewN _) (fun _ _ h => h)), Lib.hid (HK4.out.drewN _)⟩
                      case measure => simp [intOf]; omega
                    · have E : ∀ W, (binOp .eql 33 (.agg #[.int .i64 ya, .int .i64 yi]) (.agg #[.int .i64 xa, .int .i64 xi])).run Try.prog W = .ok (.bool false) W := fun W => by
                        have := eql_ID (ya, yi) (xa, xi) W
                        rw [decide_eq_false he] at this
                        exact this
                      have HQ := Lib.hid (HMiss.out he)
                      clear he HHit HMiss HHe
                      go_wp2
                      go_quiet (fail)
                      go_wp2
                      go_roundw
                      case rel => exact ⟨k + 1, by omega, by rw [HQ.out], by go_num, Lib.hid (HL4.out.keep ((Keep.refl (fun _ => False) _).drewN _) (fun _ _ h => h)), Lib.hid (HK4.out.drewN _)⟩
                      case measure => simp [intOf]; omega
                  · obtain rfl : k = who.length := by omega
                    have HT := Lib.hid (show tkL who m s.now x who.length = lastD m' x by
                      rw [← HM'.out, ← HNd.out, lastD_look HMay.out (by have := HNb.out; omega) HNb.out.2.2 HXm.out]
                      unfold tkL
                      rw [List.take_length]
                      by_cases hx : x ∈ who
                      · rw [if_pos hx, if_pos ((HDom.out x).2 hx)]
                      · rw [if_neg hx, if_neg (fun h => hx ((HDom.out x).1 h))])
                    have HNext := Lib.hid (show (s.ids.take (a + 1)).map (lastD m') = (s.ids.take a).map (lastD m') ++ [lastD m' x] by
                      have hl : a < s.ids.length := by rw [HIdl.out]; exact hal
                      have : s.ids.getD a (0, 0) = s.ids[a] := by simp [List.getD, hl]
                      rw [← HX.out, this, List.take_succ_eq_append_getElem hl, List.map_append]; rfl)
                    rw [HT.out]
                    go_wp2_with (at_builtin; refine wpList_append_slK rfl _ _ _ rfl i0 _ 8 Try.underlying31 HI0.out HZ0.out HZ1.out HZ2.out rfl (by omega) (HL4.out.keep ((Keep.refl (fun _ => False) _).alloc _) (fun _ _ h => h)) rfl rfl (RdK.of_blk (Blk.new _ _ _) 1 1 rfl) (one_ints [lastD m' x]) (by unfold maxLen; omega) (by omega) ?_; intro row5 A5 c5 w5 hs5 hr5
                                 obtain ⟨hk5, hw5⟩ := grew_new hr5 (HK4.out.alloc _) HR3.out
                                 have HS5 := Lib.hid hs5
                                 have HK5 := Lib.hid hk5
                                 have HR5 := Lib.hid hw5
                                 clear hs5 hr5 hk5 hw5)
                    go_roundw
                    case rel => exact ⟨a + 1, row5, A5, c5, by omega, rfl, by go_num, Lib.hid (by rw [HNext.out, List.map_append]; exact HS5.out), HR5, HK5⟩
                    case measure => simp [intOf]; omega
              · obtain rfl : a = s.n := by omega
                have htk : s.ids.take s.n = s.ids := List.take_of_length_le (Nat.le_of_eq HIdl.out)
                rw [htk] at HL3
                have HV3 := Lib.hid (HV.out.moreO HK3.out (fun y hy => ⟨HR3.out y hy, HL3.out.lt y hy⟩))
                have HB3 := Lib.hid (HB.out.keep HK3.out (fun h => h))
                have HS3 := Lib.hid (HSv.out.keep HK3.out (fun _ _ h => h))
                have HI3 := Lib.hid (HId.out.keep0 (keep0_trans _ _ _ HKv.out HK3.out))
                have hgl := HB3.out.lt
                have HSz := Lib.hid (show w2.heap.size ≤ V.heap.size from HV.out.k.size)
                clear htk HV HB HSv HWhv HLsv
                go_upto_region 32 with (at_builtin; refine wpList_append_slK rfl _ _ _ rfl j0 _ 16 Try.underlying30 HJ0.out HY0.out HY1.out HY2.out rfl (by omega) (SlK.emptyI (Blk.new _ _ _)) rfl rfl (HI3.out.keep0 ((Keep.refl _ _).alloc _)).2 (one_flat' _) (by unfold maxLen; omega) (by omega) ?_; intro row4 A4 c4 w4' hs4 hr4
                                        have HS4' := Lib.hid hs4
                                        have HR4' := Lib.hid hr4
                                        clear hs4 hr4)
                obtain ⟨hk4, hrw4⟩ := grew_new HR4'.out ((Keep.refl (fun _ => False) wr).alloc _) (fun y hy => by injection hy with hy; omega)
                have HWh4 := Lib.hid (show SlK w4' 33 2 row4 A4 s.n c4 (s.ids.flatMap cID) from by have := HS4'.out; rwa [Nat.zero_add, List.nil_append] at this)
                have HV4 := Lib.hid (HV3.out.moreO hk4 (fun y hy => ⟨hrw4 y hy, HWh4.out.lt y hy⟩))
                have HB4 := Lib.hid (HB3.out.keep hk4 (fun h => h))
                have HSt4 := Lib.hid (HS3.out.keep hk4 (fun _ _ h => h))
                have HL4 := Lib.hid (HL3.out.keep hk4 (fun _ _ h => h))
                have HI4 := Lib.hid (HI3.out.keep0 hk4)
                have HRw4 := Lib.hid (show ∀ y, row4 = some y → w2.heap.size ≤ y from fun y hy => by have h1 := hrw4 y hy; have h2 := HK3.out.size; have h3 := HSz.out; omega)
                have HRw3 := Lib.hid (show ∀ y, row3 = some y → w2.heap.size ≤ y from fun y hy => by have h1 := HR3.out y hy; have h3 := HSz.out; omega)
                clear hk4 hrw4 HS4' HR4' HV3 HB3 HS3 HL3 HI3 HR3 HK3 f3 f4 hgl
                have f3 := HB4.out.cell 3
                have f4 := HB4.out.cell 4
                simp at f3 f4
                go_wp2_with fail
                refine (lw_look HV4.out HMay.out s.A s.n s.c s.ids HI4.out HOk.out.wi (by omega) (fun y off2 hy e => .inl (by have h1 := rd_low HOk.out.rd y off2 hy e; have h2 := HK2.out.size; omega)) s.now).mono ?_
                rintro e w5 ⟨row5, A5, c5, rfl, hs5, _, hw, hk⟩
                rw [HNd.out] at hs5 hw ⊢
                rw [HM'.out] at hw
                have HSt4_ := Lib.hid (HSt4.out.keep hk (fun y hy h => h.2 (by simp [hy])))
                have HWh4_ := Lib.hid (HWh4.out.keep hk (fun y hy h => h.2 (by simp [hy])))
                have HL4_ := Lib.hid (HL4.out.keep hk (fun y hy h => h.2 (by simp [hy])))
                clear HSt4 HWh4 HL4
                have HSt4 := HSt4_
                have HWh4 := HWh4_
                have HL4 := HL4_
                clear HSt4_ HWh4_ HL4_
                have HB5 := Lib.hid (HB4.out.keep hk (fun h => h.2 (by simp)))
                have HW5 := Lib.hid hw
                have HLt := Lib.hid hs5
                have HLl := Lib.hid (show (lateL nd m s.now s.ids).length ≤ 30 from Nat.le_trans (List.length_filter_le _ _) (by rw [HIdl.out]; exact q5))
                clear hs5 hw hk f3 f4 HB4 HV4 HI4
                go_wp2_with fail
                go_loopw [21] (fun j wr => ∃ k : Nat, k ≤ s.n ∧ j = .int .i64 (k : Int) ∧ Hid (Keep (fun _ => False) w5 wr)) (fun j _ => s.n - (intOf j).toNat)
                case atStart => exact ⟨0, Nat.zero_le _, rfl, Lib.hid (Keep.refl _ _)⟩
                case round =>
                  obtain ⟨k, hk, rfl, HK6⟩ := hrel
                  have e4 : IntKind.i64.wrap ((k : Int) + 1) = (k : Int) + 1 := IntWalk.i64_in _ (by omega)
                  by_cases hkl : k < s.n
                  · have hki : k < s.ids.length := by rw [HIdl.out]; exact hkl
                    obtain ⟨g1, off1, hA1, c0, c1'⟩ := ((HWh4.out.keep HK6.out (fun _ _ h => h)).rdI HIdl.out).at_ hkl
                    obtain ⟨x, hx⟩ : ∃ x, s.ids.getD k (0, 0) = x := ⟨_, rfl⟩
                    rw [hx] at c0 c1'
                    have hxm : x ∈ s.ids := hx ▸ getD_mem hki
                    have HGm := Lib.hid (show ((s.ids.map (lastD m')).getD k 0) = lastD m' x from by rw [getD_map hki, hx])
                    have HDec := Lib.hid (show decide (x ∈ lateL nd m s.now s.ids) = (lookD nd m x).late s.now from by
                      unfold lateL
                      rw [Bool.eq_iff_iff, decide_eq_true_iff, List.mem_filter]
                      exact ⟨fun h => h.2, fun h => ⟨hxm, h⟩⟩)
                    have hno := late_no HInv.out HMay.out HNb.out.1 HNb.out.2.1 HNb.out.2.2 hxm
                    rw [HNd.out, HM'.out] at hno
                    have HNo2 := Lib.hid hno
                    have hpv := pinv_look HInv.out HMay.out HNb.out.1 HNb.out.2.1 HNb.out.2.2 s.ids
                    rw [HNd.out, HM'.out] at hpv
                    have HLb := Lib.hid (show 0 ≤ lastD m' x ∧ lastD m' x ≤ s.now from by
                      have hsm : (m' x).isSome = true := by rw [← HM'.out]; exact (look_some nd m s.ids x).2 hxm
                      obtain ⟨d, hd⟩ := Option.isSome_iff_exists.1 hsm
                      obtain ⟨z0, z1, _⟩ := hpv x d hd
                      unfold lastD; rw [hd]; exact ⟨z0, z1⟩)
                    subst hA1
                    obtain ⟨xa, xi⟩ := x
                    simp only at c0 c1'
                    have q3 : (k : Int) < (s.n : Int) := by omega
                    have q4 : (0 : Int) ≤ (k : Int) := by omega
                    clear hx hxm hno hpv hki
                    go_wp2_with fail
                    refine (hasR_any A5 _ c5 (lateL nd m s.now s.ids) (xa, xi) _ ((HLt.out.keep HK6.out (fun _ _ h => h)).rdI rfl) (by have := HLl.out; omega)).mono ?_
                    rintro e w6 ⟨rfl, hk6⟩
                    rw [HDec.out]
                    have HK7 := Lib.hid (keep0_trans _ _ _ HK6.out hk6)
                    have f4 := (HB5.out.keep HK7.out (fun h => h)).cell 4
                    simp at f4
                    obtain ⟨g2, off2, hA2, u0⟩ := (HL4.out.keep HK7.out (fun _ _ h => h)).at1 hkl
                    rw [HGm.out] at u0
                    have lb := HLb.out
                    have nb := HNb.out
                    obtain ⟨z, hz⟩ : ∃ z, s.now - lastD m' (xa, xi) = z := ⟨_, rfl⟩
                    have e5 : IntKind.i64.wrap (s.now - lastD m' (xa, xi)) = z := by rw [← hz]; exact IntWalk.i64_in _ (by omega)
                    subst hA2
                    clear hk6 HK6 c0 c1' lb nb
                    rcases Bool.eq_false_or_eq_true ((lookD nd m (xa, xi)).late s.now) with hlt2 | hlt2
                    · have l1 : ¬ z ≤ mn := by have := HNo2.out.1 hlt2; omega
                      have l2 : decide (z ≤ mn) = false := decide_eq_false l1
                      rw [hlt2]
                      clear hlt2 hz
                      go_upto_region 37 with (fail)
                      refine wp_region_krip (Keep (fun _ => False)) (Keep.refl _) keep0_trans 27 (by kernel_rfl) (by kernel_rfl) (Ts := [none, none, none, some (.inl (.int .i64 s.now)), none, none, none, some (.inl (.int .i64 (lastD m' (xa, xi)))), none, none, none, none, none, none, none, none, none, none, none, none, none, none, none, none, none, none, none]) ?_
                      simp only [List.take, List.drop]
                      refine kAll_p (fun K hK => ?_)
                      go_simp
                      generalize hZ : (Act.mk _ _) = Z
                      refine hK Z ?_
                      subst hZ
                      clear hK K
                      refine kAll_p (fun K hK => ?_)
                      go_simp
                      generalize hZ : (Act.mk _ _) = Z
                      refine hK Z ?_
                      subst hZ
                      clear hK K
                      refine kAll_pw (by kernel_rfl) (fun K hK => ?_)
                      go_simp
                      generalize hZ : (Act.mk _ _) = Z
                      refine hK Z ?_
                      subst hZ
                      clear hK K
                      refine kAll_d _ (fun W hW hF => kStep_w (by kernel_rfl) fun K Q hK => ?_) ?_
                      · have hcell := (keepD (Keep.refl _ w6) hW).cell f4 (fun h => h)
                        go_simp
                        exact hK _ _ (Keep.refl _ _) rfl
                      refine kAll_pw (by kernel_rfl) (fun K hK => ?_)
                      go_simp
                      generalize hZ : (Act.mk _ _) = Z
                      refine hK Z ?_
                      subst hZ
                      clear hK K
                      refine kAll_pw (by kernel_rfl) (fun K hK => ?_)
                      go_simp
                      generalize hZ : (Act.mk _ _) = Z
                      refine hK Z ?_
                      subst hZ
                      clear hK K
                      refine kAll_pw (by kernel_rfl) (fun K hK => ?_)
                      go_simp
                      generalize hZ : (Act.mk _ _) = Z
                      refine hK Z ?_
                      subst hZ
                      clear hK K
                      refine kAll_d _ (fun W hW hF => kStep_w (by kernel_rfl) fun K Q hK => ?_) ?_
                      · have hcell := (keepD (Keep.refl _ w6) hW).cell u0 (fun h => h)
                        go_simp
                        exact hK _ _ (Keep.refl _ _) rfl
                      refine kAll_pw (by kernel_rfl) (fun K hK => ?_)
                      go_simp
                      generalize hZ : (Act.mk _ _) = Z
                      refine hK Z ?_
                      subst hZ
                      clear hK K
                      refine kAll_pw (by kernel_rfl) (fun K hK => ?_)
                      go_simp
                      generalize hZ : (Act.mk _ _) = Z
                      refine hK Z ?_
                      subst hZ
                      clear hK K
                      refine kAll_pw (by kernel_rfl) (fun K hK => ?_)
                      go_simp
                      generalize hZ : (Act.mk _ _) = Z
                      refine hK Z ?_
                      subst hZ
                      clear hK K
                      refine kAll_p (fun K hK => ?_)
                      go_simp
                      generalize hZ : (Act.mk _ _) = Z
                      refine hK Z ?_
                      subst hZ
                      clear hK K
                      refine kAll_p (fun K hK => ?_)
                      go_simp
                      generalize hZ : (Act.mk _ _) = Z
                      refine hK Z ?_
                      subst hZ
                      clear hK K
                      refine kAll_pw (by kernel_rfl) (fun K hK => ?_)
                      go_simp
                      generalize hZ : (Act.mk _ _) = Z
                      refine hK Z ?_
                      subst hZ
                      clear hK K
                      refine kAll_pw (by kernel_rfl) (fun K hK => ?_)
                      go_simp
                      generalize hZ : (Act.mk _ _) = Z
                      refine hK Z ?_
                      subst hZ
                      clear hK K
                      refine kAll_pw (by kernel_rfl) (fun K hK => ?_)
                      go_simp
                      generalize hZ : (Act.mk _ _) = Z
                      refine hK Z ?_
                      subst hZ
                      clear hK K
                      refine kAll_skip (by kernel_rfl) ?_
                      refine kAll_skip (by kernel_rfl) ?_
                      refine kAll_skip (by kernel_rfl) ?_
                      refine kAll_skip (by kernel_rfl) ?_
                      refine kAll_skip (by kernel_rfl) ?_
                      refine kAll_skip (by kernel_rfl) ?_
                      refine kAll_skip (by kernel_rfl) ?_
                      refine kAll_skip (by kernel_rfl) ?_
                      refine kAll_skip (by kernel_rfl) ?_
                      refine kAll_pw (by kernel_rfl) (fun K hK => ?_)
                      go_simp
                      generalize hZ : (Act.mk _ _) = Z
                      refine hK Z ?_
                      subst hZ
                      clear hK K
                      refine kAll_p (fun K hK => ?_)
                      go_simp
                      generalize hZ : (Act.mk _ _) = Z
                      refine hK Z ?_
                      subst hZ
                      clear hK K
                      refine kAll_nil (fun W hW hF => ?_)
                      have HK8 := Lib.hid (keep0_trans _ _ _ HK7.out (keepD (Keep.refl _ _) hW))
                      clear hF hW
                      go_wp2
                      go_roundw
                      case rel => exact ⟨k + 1, by omega, by go_num, HK8⟩
                      case measure => simp [intOf]; omega
                    · have l1 : ¬ mx < z := by have := HNo2.out.2 hlt2; omega
                      have l2 : decide (mx < z) = false := decide_eq_false l1
                      rw [hlt2]
                      clear hlt2 hz
                      go_upto_region 37 with (fail)
                      refine wp_region_krip (Keep (fun _ => False)) (Keep.refl _) keep0_trans 27 (by kernel_rfl) (by kernel_rfl) (Ts := [none, none, none, none, none, none, none, none, none, none, none, none, none, none, none, none, none, some (.inl (.int .i64 s.now)), none, none, none, some (.inl (.int .i64 (lastD m' (xa, xi)))), none, none, none, none, none]) ?_
                      simp only [List.take, List.drop]
                      refine kAll_p (fun K hK => ?_)
                      go_simp
                      generalize hZ : (Act.mk _ _) = Z
                      refine hK Z ?_
                      subst hZ
                      clear hK K
                      refine kAll_p (fun K hK => ?_)
                      go_simp
                      generalize hZ : (Act.mk _ _) = Z
                      refine hK Z ?_
                      subst hZ
                      clear hK K
                      refine kAll_skip (by kernel_rfl) ?_
                      refine kAll_skip (by kernel_rfl) ?_
                      refine kAll_skip (by kernel_rfl) ?_
                      refine kAll_skip (by kernel_rfl) ?_
                      refine kAll_skip (by kernel_rfl) ?_
                      refine kAll_skip (by kernel_rfl) ?_
                      refine kAll_skip (by kernel_rfl) ?_
                      refine kAll_skip (by kernel_rfl) ?_
                      refine kAll_skip (by kernel_rfl) ?_
                      refine kAll_p (fun K hK => ?_)
                      go_simp
                      generalize hZ : (Act.mk _ _) = Z
                      refine hK Z ?_
                      subst hZ
                      clear hK K
                      refine kAll_p (fun K hK => ?_)
                      go_simp
                      generalize hZ : (Act.mk _ _) = Z
                      refine hK Z ?_
                      subst hZ
                      clear hK K
                      refine kAll_pw (by kernel_rfl) (fun K hK => ?_)
                      go_simp
                      generalize hZ : (Act.mk _ _) = Z
                      refine hK Z ?_
                      subst hZ
                      clear hK K
                      refine kAll_pw (by kernel_rfl) (fun K hK => ?_)
                      go_simp
                      generalize hZ : (Act.mk _ _) = Z
                      refine hK Z ?_
                      subst hZ
                      clear hK K
                      refine kAll_pw (by kernel_rfl) (fun K hK => ?_)
                      go_simp
                      generalize hZ : (Act.mk _ _) = Z
                      refine hK Z ?_
                      subst hZ
                      clear hK K
                      refine kAll_pw (by kernel_rfl) (fun K hK => ?_)
                      go_simp
                      generalize hZ : (Act.mk _ _) = Z
                      refine hK Z ?_
                      subst hZ
                      clear hK K
                      refine kAll_d _ (fun W hW hF => kStep_w (by kernel_rfl) fun K Q hK => ?_) ?_
                      · have hcell := (keepD (Keep.refl _ w6) hW).cell f4 (fun h => h)
                        go_simp
                        exact hK _ _ (Keep.refl _ _) rfl
                      refine kAll_pw (by kernel_rfl) (fun K hK => ?_)
                      go_simp
                      generalize hZ : (Act.mk _ _) = Z
                      refine hK Z ?_
                      subst hZ
                      clear hK K
                      refine kAll_pw (by kernel_rfl) (fun K hK => ?_)
                      go_simp
                      generalize hZ : (Act.mk _ _) = Z
                      refine hK Z ?_
                      subst hZ
                      clear hK K
                      refine kAll_pw (by kernel_rfl) (fun K hK => ?_)
                      go_simp
                      generalize hZ : (Act.mk _ _) = Z
                      refine hK Z ?_
                      subst hZ
                      clear hK K
                      refine kAll_d _ (fun W hW hF => kStep_w (by kernel_rfl) fun K Q hK => ?_) ?_
                      · have hcell := (keepD (Keep.refl _ w6) hW).cell u0 (fun h => h)
                        go_simp
                        exact hK _ _ (Keep.refl _ _) rfl
                      refine kAll_pw (by kernel_rfl) (fun K hK => ?_)
                      go_simp
                      generalize hZ : (Act.mk _ _) = Z
                      refine hK Z ?_
                      subst hZ
                      clear hK K
                      refine kAll_pw (by kernel_rfl) (fun K hK => ?_)
                      go_simp
                      generalize hZ : (Act.mk _ _) = Z
                      refine hK Z ?_
                      subst hZ
                      clear hK K
                      refine kAll_pw (by kernel_rfl) (fun K hK => ?_)
                      go_simp
                      generalize hZ : (Act.mk _ _) = Z
                      refine hK Z ?_
                      subst hZ
                      clear hK K
                      refine kAll_pw (by kernel_rfl) (fun K hK => ?_)
                      go_simp
                      generalize hZ : (Act.mk _ _) = Z
                      refine hK Z ?_
                      subst hZ
                      clear hK K
                      refine kAll_p (fun K hK => ?_)
                      go_simp
                      generalize hZ : (Act.mk _ _) = Z
                      refine hK Z ?_
                      subst hZ
                      clear hK K
                      refine kAll_nil (fun W hW hF => ?_)
                      have HK8 := Lib.hid (keep0_trans _ _ _ HK7.out (keepD (Keep.refl _ _) hW))
                      clear hF hW
                      go_wp2
                      go_roundw
                      case rel => exact ⟨k + 1, by omega, by go_num, HK8⟩
                      case measure => simp [intOf]; omega
                  · obtain rfl : k = s.n := by omega
                    have HP := Lib.hid (show playM mn mx wd r (q + 1) = m' by rw [HNx.out]; unfold stepM; rw [HH.out, HNd.out]; exact HM'.out)
                    have HWe := Lib.hid (((HW5.out.keep0 HK6.out).less (L' := row3.toList ++ (row4.toList ++ (row.toList ++ []))) (fun y hy => by
                      simp only [List.mem_append, List.mem_cons] at hy ⊢
                      rcases hy with h | h | h | h
                      · exact .inr (.inr (.inl h))
                      · exact .inr (.inl h)
                      · exact .inr (.inr (.inr (.inr (.inr (.inr (.inl h))))))
                      · cases h)).mono (n' := 30 * (q + 1)) (by omega))
                    have HSe := Lib.hid (HSt4.out.keep HK6.out (fun _ _ h => h))
                    have HWhe := Lib.hid (show SlK wr 33 2 row4 A4 s.ids.length c4 (s.ids.flatMap cID) from by rw [HIdl.out]; exact HWh4.out.keep HK6.out (fun _ _ h => h))
                    have HLe := Lib.hid (show SlK wr 3 1 row3 A3 s.ids.length c3 ((s.ids.map (lastD m')).map (Value.int .i64)) from by rw [HIdl.out]; exact HL4.out.keep HK6.out (fun _ _ h => h))
                    go_wp2
                    go_roundw
                    case rel => exact ⟨q + 1, s.ids, row4, A4, c4, row3, A3, c3, by omega, by rw [HIdl.out], by rw [HIdl.out], by go_num, Lib.hid (by rw [HP.out]; exact HWe.out), HSe, HWhe, Lib.hid (by rw [HP.out]; exact HLe.out), HRw3, Lib.hid (fun x => by rw [HP.out, ← HM'.out]; exact look_some nd m s.ids x), Lib.hid (by rw [HP.out, ← HM'.out, ← HNd.out, ← HNow.out]; exact pinv_look HInv.out HMay.out HNb.out.1 HNb.out.2.1 HNb.out.2.2 s.ids), Lib.hid (by rw [HIdl.out]; exact q5)⟩
                    case measure => simp [intOf]; omega
        · obtain rfl : q = n := by omega
          clear HW4 HS4
          go_wp2_with fail
          refine (lw_watched HW.out (by omega)).mono ?_
          rintro e w7 ⟨l7, _, hmem, hlen7, ⟨row7, A7, c7, rfl, hs7, _, hk⟩, _⟩
          have HMem := Lib.hid hmem
          have HS7 := Lib.hid hs7
          have HLn := Lib.hid (show l7.length ≤ 3000 by omega)
          have HWh7 := Lib.hid (HWho.out.keep hk (fun _ _ h => h))
          have HK7 := Lib.hid (keep0_trans _ _ _ HK2.out (keep0_trans _ _ _ HW.out.k hk))
          clear hmem hs7 hk hlen7
          go_wp2_with fail
          refine (sameR_any _ _ _ _ _ _ l7 who _ (HS7.out.rdI rfl) (HWh7.out.rdI rfl) (by have := HLn.out; omega) (by have := HWl.out; omega)).mono ?_
          rintro e w8 ⟨rfl, hk⟩
          rw [decide_eq_true (setM_ext fun x => by rw [HMem.out x, HDom.out x])]
          have HK8 := Lib.hid (keep0_trans _ _ _ HK7.out hk)
          clear hk
          go_wp2
          go_ret
          exact ⟨rfl, HK8.out⟩
    · go_wp2_with fail
      refine (wnew_bad mn mx wd _ hmay).mono ?_
      rintro e w3 ⟨rfl, rfl⟩
      go_wp2
      go_ret
      exact ⟨rfl, HK2.out⟩
theorem walkWatchTime {w : World} (a0 : Int) (_ : (Lit.int .i64 a0).wf = true) (a1 : Int) (_ : (Lit.int .i64 a1).wf = true) (a2 : Int) (_ : (Lit.int .i64 a2).wf = true) (v3 : Value) (w3 : InSteps w v3) :
    Calls Try.prog 3 #[.int .i64 a0, .int .i64 a1, .int .i64 a2, v3] w fun e w' => e = .returned (.bool true) ∧ Below w.heap.size w w' := by
  obtain ⟨A, n, c, l, rfl, _, _, hl⟩ := w3
  exact (watchTime_tell a0 a1 a2 A n c l w hl).mono fun _ _ ⟨h, k⟩ => ⟨h, k.b⟩
end Go.Proofs.Ytenphdgnaknbeaa
