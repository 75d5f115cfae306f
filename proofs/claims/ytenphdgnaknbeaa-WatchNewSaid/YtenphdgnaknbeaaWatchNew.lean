/-
  The statement WatchNew. Written by gen_new.py.
-/
import Derived.Test.YtenphdgnaknbeaaWatJ
namespace Go.Proofs.Ytenphdgnaknbeaa
open Go.RowKit
set_option maxRecDepth 100000

set_option maxHeartbeats 2000000 in
theorem watchNew_tell (mn mx wd : Int) (A : Option Addr) (n c : Nat) (l : List Stp) (p : ID) (hp : wfI p) (after : Int) (w : World) (hl : RdS w A n l) :
    Calls Try.prog 4 #[.int .i64 mn, .int .i64 mx, .int .i64 wd, .slice A n c, idV p, .int .i64 after] w (Tell (.bool true) w) := by
  obtain ⟨pa, pi⟩ := p
  have HP := Lib.hid hp
  have HLs := Lib.hid hl
  have HLen := Lib.hid hl.1
  have hk0 := (Keep.refl (fun _ => False) w).alloc (.cells #[.int .i64 pa, .int .i64 pi] 33)
  have hb0 := Blk.new w 33 #[.int .i64 pa, .int .i64 pi]
  have HK0 := Lib.hid hk0
  have HB0 := Lib.hid hb0
  clear hl hp hk0 hb0
  go_enter Try.func4, Try.ntmps4
  go_wp2_with fail
  refine (long_any A n c l _ (HLs.out.keep0 HK0.out)).mono ?_
  rintro e w1 ⟨rfl, hk⟩
  have HK1 := Lib.hid (keep0_trans _ _ _ HK0.out hk)
  have HB1 := Lib.hid (HB0.out.keep hk (fun h => h))
  clear hk HK0 HB0
  rcases Bool.eq_false_or_eq_true (longM l) with hlong | hlong
  · rw [hlong]
    go_wp2_with fail
    refine (awake_any _).mono ?_
    rintro e w2 ⟨rfl, hk⟩
    have HK2 := Lib.hid (keep0_trans _ _ _ HK1.out hk)
    clear hk
    go_wp2
    go_ret
    exact ⟨rfl, HK2.out⟩
  · rw [hlong]
    have HLo := Lib.hid hlong
    have hn100 : n ≤ 100 := by have := (long_no hlong).1; have := HLen.out; omega
    clear hlong
    go_wp2_with fail
    refine (awake_any _).mono ?_
    rintro e w2 ⟨rfl, hk⟩
    have HK2 := Lib.hid (keep0_trans _ _ _ HK1.out hk)
    have HB2 := Lib.hid (HB1.out.keep hk (fun h => h))
    clear hk HK1 HB1
    by_cases hmay : MayNew mn mx wd
    · go_wp2_with fail
      refine (lw_new mn mx wd hmay (Keep.refl _ w2)).mono ?_
      rintro e w3 ⟨b, rfl, hw, hk⟩
      have HW3 := Lib.hid hw
      have HK3 := Lib.hid (keep0_trans _ _ _ HK2.out hk)
      have HMay := Lib.hid hmay
      clear hw hk hmay
      go_wp2_with fail
      refine (rising_any A n c l _ (HLs.out.keep0 HK3.out) hn100).mono ?_
      rintro e w4 ⟨row, A1, c1, rfl, hs, hr, hk⟩
      have HW4 := Lib.hid (HW3.out.moreO hk (fun g hg => ⟨hr g hg, hs.lt g hg⟩))
      have HS4 := Lib.hid hs
      clear hs hr hk HW3 HK3
      obtain ⟨r, hr⟩ : ∃ r, risA l n = r := ⟨_, rfl⟩
      have HRl := Lib.hid (show r.length = n by rw [← hr]; exact risA_len l n)
      have HRok := Lib.hid (show ∀ s ∈ r, OkS w s by rw [← hr]; exact risA_ok HLen.out hn100 HLs.out.2.2)
      have HRno := Lib.hid (show ∀ s ∈ r, s.ids.length ≤ 30 ∧ Ris s.ids by rw [← hr]; exact risA_no HLo.out HLen.out)
      have HRnow := Lib.hid (show ∀ q, q < n → (r.getD q stp0).now = nwL l (q + 1) by rw [← hr]; exact fun q hq => risA_now hq)
      rw [hr] at HS4
      clear hr
      go_wp2_with fail
      go_loopw [15, 16] (fun a j wr => ∃ q : Nat, q ≤ n ∧ a = .int .i64 (nwL l q) ∧ j = .int .i64 (q : Int) ∧ Hid (LW w2 wr b (30 * q) (row.toList ++ []) mn mx wd (playM mn mx wd r q)) ∧ Hid (SlK wr 35 5 row A1 n c1 (r.flatMap cS))) (fun _ j _ => n - (intOf j).toNat)
      case atStart => exact ⟨0, Nat.zero_le _, by rw [nwL_zero], rfl, Lib.hid (by rw [playM_zero]; exact HW4.out), HS4⟩
      case round =>
        obtain ⟨q, hq, rfl, rfl, HW, HS⟩ := hrel
        have e2 : IntKind.i64.wrap ((q : Int) + 1) = (q : Int) + 1 := IntWalk.i64_in _ (by omega)
        by_cases hlt : q < n
        · have HKr := Lib.hid (keep0_trans _ _ _ HK2.out HW.out.k)
          obtain ⟨s, hs⟩ : ∃ s, r.getD q stp0 = s := ⟨_, rfl⟩
          have hsm : s ∈ r := hs ▸ getD_memS (by rw [HRl.out]; exact hlt)
          have HOk := Lib.hid (HRok.out s hsm)
          have HNo := Lib.hid (HRno.out s hsm)
          have HNx := Lib.hid (show playM mn mx wd r (q + 1) = stepM mn mx wd (playM mn mx wd r q) s by rw [← hs]; exact playM_next mn mx wd (by rw [HRl.out]; exact hlt))
          have HNow := Lib.hid (show s.now = nwL l (q + 1) by rw [← hs]; exact HRnow.out q hlt)
          obtain ⟨g, off, hA, p0, p1, p2, p3, p4, _⟩ := RdS.at_ (w := wr) (A := A1) (n := n) (l := r) ⟨HRl.out, HS.out.rd, fun s hs => (HRok.out s hs).keep0 HKr.out⟩ hlt
          rw [hs] at p0 p1 p2 p3 p4
          have p2' : wr.cell? ⟨g, off + q * 5 + 1 + 1, none⟩ = some (.int .i64 s.x.2) := p2
          subst hA
          have q1 : (q : Int) < (n : Int) := by omega
          have q2 : (0 : Int) ≤ (q : Int) := by omega
          clear hs hsm
          rcases Bool.eq_false_or_eq_true s.hear with hh | hh
          · rw [hh] at p0
            have HH := Lib.hid hh
            clear hh
            go_wp2_with fail
            refine (lw_heard HW.out (x := s.x) HOk.out.wx s.now).mono ?_
            rintro e w5 ⟨rfl, hw, hk⟩
            have HW5 := Lib.hid (hw.mono (n' := 30 * (q + 1)) (by omega))
            have HS5 := Lib.hid (HS.out.keep hk (fun y hy h => h.2 (by simp [hy])))
            clear hw hk p0 p1 p2 p2' p3 p4
            go_wp2
            go_roundw
            case rel => exact ⟨q + 1, by omega, by rw [HNow.out], by go_num, Lib.hid (by rw [HNx.out]; unfold stepM; rw [HH.out]; exact HW5.out), HS5⟩
            case measure => simp [intOf]; omega
          · rw [hh] at p0
            have HH := Lib.hid hh
            clear hh
            have hidl := HOk.out.rd.1
            have hno := HNo.out.1
            go_wp2_with fail
            refine (lw_look HW.out HMay.out s.A s.n s.c s.ids (HOk.out.rd.keep0 HKr.out) HOk.out.wi (by omega) (fun y off2 hy e => .inl (by have h1 := rd_low HOk.out.rd y off2 hy e; have h2 := HK2.out.size; omega)) s.now).mono ?_
            rintro e w5 ⟨row2, A2, c2, rfl, _, _, hw, hk⟩
            have HW5 := Lib.hid ((hw.less (L' := row.toList ++ []) (fun y hy => List.mem_append.2 (.inr hy))).mono (n' := 30 * (q + 1)) (by omega))
            have HS5 := Lib.hid (HS.out.keep hk (fun y hy h => h.2 (by simp [hy])))
            clear hw hk p0 p1 p2 p2' p3 p4
            go_wp2
            go_roundw
            case rel => exact ⟨q + 1, by omega, by rw [HNow.out], by go_num, Lib.hid (by rw [HNx.out]; unfold stepM; rw [HH.out]; exact HW5.out), HS5⟩
            case measure => simp [intOf]; omega
        · obtain rfl : q = n := by omega
          obtain ⟨nb0, nb1⟩ := nwL_bd l q
          generalize nwL l q = now at nb0 nb1 ⊢
          have HBr := Lib.hid (HB2.out.keep HW.out.k (fun h => h))
          have HWq := HW
          obtain ⟨m, hm⟩ : ∃ m, playM mn mx wd r q = m := ⟨_, rfl⟩
          rw [hm] at HWq
          clear hm HW HS HW4 HS4
          go_wp2_with fail
          refine (lw_look HWq.out HMay.out none 0 0 [] (RdI.none_ _ _) (fun x hx => by cases hx) (by omega) (fun _ _ _ e => by cases e) now).mono ?_
          rintro e w5 ⟨r5, A5, c5, rfl, _, _, hw, _⟩
          rw [lookM_nil] at hw
          have HW5 := Lib.hid (hw.less (L' := []) (fun y hy => by cases hy))
          have HB5 := Lib.hid (HB2.out.keep hw.k (fun h => h))
          clear hw HWq HBr
          have i0 := HB5.out.cell 0
          have i1' := HB5.out.cell 1
          simp at i0 i1'
          go_upto_region 17 with (fail)
          have hob := Blk.new w5 33 #[.int .i64 pa, .int .i64 pi]
          have hok : Keep (fun _ => False) w5 (w5.alloc (.cells #[.int .i64 pa, .int .i64 pi] 33)) := (Keep.refl _ w5).alloc _
          have HW6 := Lib.hid (HW5.out.more hok (Nat.le_refl _) hob.lt)
          obtain ⟨go, hgo⟩ : ∃ go, w5.heap.size = go := ⟨_, rfl⟩
          rw [hgo] at hob HW6 ⊢
          generalize hw6 : w5.alloc (.cells #[.int .i64 pa, .int .i64 pi] 33) = w6 at *
          have HO6 := Lib.hid hob
          clear hw6 hob hok hgo i0 i1' HW5 HB5
          go_wp2_with fail
          refine (lw_watched HW6.out (by omega)).mono ?_
          rintro e w7 ⟨l7, _, hl7, _, ⟨row7, A7, c7, rfl, _, _, hk⟩, hw⟩
          obtain rfl : l7 = [] := List.eq_nil_iff_forall_not_mem.2 (fun x hx => by have := (hl7 x).1 hx; simp at this)
          have HW7 := Lib.hid hw
          have HO7 := Lib.hid (HO6.out.keep hk (fun h => h))
          clear hw hk hl7 HW6 HO6
          have hmem : ∀ x ∈ [((pa, pi) : ID)], wfI x := fun x hx => by rw [List.mem_singleton.1 hx]; exact HP.out
          have HMem := Lib.hid hmem
          clear hmem
          go_wp2_with fail
          refine (lw_look HW7.out HMay.out (some ⟨go, 0, none⟩) 1 1 [(pa, pi)] (RdI.blk HO7.out [(pa, pi)] rfl rfl) HMem.out (by omega) (fun y off _ e => .inr (by injection e with e; injection e with e _; subst e; simp)) now).mono ?_
          rintro e w8 ⟨r8, A8, c8, rfl, _, _, hw, hk⟩
          rw [look_one HMay.out]
          have HW8 := Lib.hid (hw.less (L' := [go]) (fun y hy => List.mem_append.2 (.inr hy)))
          have HO8 := Lib.hid (HO7.out.keep hk (fun h => h.2 (by simp)))
          clear hw hk HW7 HO7
          obtain ⟨gA, hgA, eA⟩ := mod_u64 after 10000 (by omega) (by omega)
          have eB : IntKind.i64.wrap (now + (gA : Int)) = now + (gA : Int) := IntWalk.i64_in _ (by omega)
          go_wp2_with fail
          refine (lw_look HW8.out HMay.out (some ⟨go, 0, none⟩) 1 1 [(pa, pi)] (RdI.blk HO8.out [(pa, pi)] rfl rfl) HMem.out (by omega) (fun y off _ e => .inr (by injection e with e; injection e with e _; subst e; simp)) (now + (gA : Int))).mono ?_
          rintro e w9 ⟨r9, A9, c9, rfl, _, _, hw, _⟩
          rw [look_two (pa, pi) nb0 (by omega) (by omega)]
          have HK9 := Lib.hid (keep0_trans _ _ _ HK2.out hw.k)
          clear hw
          rw [show now + (gA : Int) - now = (gA : Int) by omega]
          by_cases hgt : mx < (gA : Int)
          · rw [if_pos hgt]
            go_wp2
            go_ret
            exact ⟨by simp, HK9.out⟩
          · rw [if_neg hgt]
            go_wp2
            go_ret
            exact ⟨by simp; omega, HK9.out⟩
    · go_wp2_with fail
      refine (wnew_bad mn mx wd _ hmay).mono ?_
      rintro e w3 ⟨rfl, rfl⟩
      go_wp2
      go_ret
      exact ⟨rfl, HK2.out⟩
theorem walkWatchNew {w : World} (a0 : Int) (_ : (Lit.int .i64 a0).wf = true) (a1 : Int) (_ : (Lit.int .i64 a1).wf = true) (a2 : Int) (_ : (Lit.int .i64 a2).wf = true) (v3 : Value) (w3 : InSteps w v3) (v4 : Value) (w4 : InIdW w v4) (a5 : Int) (_ : (Lit.int .i64 a5).wf = true) :
    Calls Try.prog 4 #[.int .i64 a0, .int .i64 a1, .int .i64 a2, v3, v4, .int .i64 a5] w fun e w' => e = .returned (.bool true) ∧ Below w.heap.size w w' := by
  obtain ⟨A, n, c, l, rfl, _, _, hl⟩ := w3
  obtain ⟨p, hp, rfl⟩ := w4
  exact (watchNew_tell a0 a1 a2 A n c l p hp a5 w hl).mono fun _ _ ⟨h, k⟩ => ⟨h, k.b⟩
end Go.Proofs.Ytenphdgnaknbeaa
