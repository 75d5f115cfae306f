/-
  rising of package coveylaw16.
-/
import Derived.Test.YtenphdgnaknbeaaWatH
namespace Go.Proofs.Ytenphdgnaknbeaa
open Go.RowKit
set_option maxRecDepth 100000

theorem infoSt : (Try.prog.info? 35).map (fun i => (i.zero, i.size, i.bytes)) = some (some (.agg #[.bool false, .int .i64 0, .int .i64 0, .slice none 0 0, .int .i64 0]), 5, 56) := by kernel_rfl
theorem one_flatS (l : List Stp) : ∀ u ∈ l.flatMap cS, u.oneCell' = true := by
  intro u hu
  rw [List.mem_flatMap] at hu
  obtain ⟨x, _, hx⟩ := hu
  simp at hx
  rcases hx with rfl | rfl | rfl | rfl | rfl <;> rfl
theorem wf_small {x : Int} (h0 : 0 ≤ x) (h1 : x ≤ 1000000) : (Lit.int .i64 x).wf = true := WalkArith.wf_i64 (by omega)
theorem OkS.time {W : World} {s : Stp} (h : OkS W s) {t : Int} (h0 : 0 ≤ t) (h1 : t ≤ 1000000) : OkS W { s with now := t } := ⟨h.rd, h.nc, h.cm, h.wx, h.wi, wf_small h0 h1⟩
set_option maxHeartbeats 4000000 in
theorem rising_any (A : Option Addr) (n c : Nat) (l : List Stp) (w : World) (h : RdS w A n l) (hn : n ≤ 100) : Calls Try.prog 11 #[.slice A n c] w fun e w' => ∃ (row : Option Nat) (A1 : Option Addr) (c1 : Nat),
    e = .returned (.slice A1 n c1) ∧ SlK w' 35 5 row A1 n c1 ((risA l n).flatMap cS) ∧ (∀ g, row = some g → w.heap.size ≤ g) ∧ Keep (fun _ => False) w w' := by
  have HR := Lib.hid h
  have HL := Lib.hid h.1
  clear h
  obtain ⟨i0, hi, hz0, hz1, hz2⟩ := info_parts infoSt
  have HI0 := Lib.hid hi
  have HZ0 := Lib.hid hz0
  have HZ1 := Lib.hid hz1
  have HZ2 := Lib.hid hz2
  clear hi hz0 hz1 hz2
  go_enter Try.func11, Try.ntmps11
  go_wp2
  go_loopw [3, 4, 5] (fun a v j wr => ∃ (q : Nat) (row : Option Nat) (A2 : Option Addr) (c2 : Nat), q ≤ n ∧ a = .int .i64 (nwL l q) ∧ v = .slice A2 q c2 ∧ j = .int .i64 (q : Int) ∧ Hid (SlK wr 35 5 row A2 q c2 ((risA l q).flatMap cS)) ∧
    Hid (∀ g, row = some g → w.heap.size ≤ g) ∧ Hid (Keep (fun _ => False) w wr)) (fun _ _ j _ => n - (intOf j).toNat)
  case atStart => exact ⟨0, none, none, 0, Nat.zero_le _, by rw [nwL_zero], rfl, rfl, Lib.hid (SlK.nil_ _ _ _), Lib.hid (fun g hg => by cases hg), Lib.hid (Keep.refl _ _)⟩
  case round =>
    obtain ⟨q, row, A2, c2, hq, rfl, rfl, rfl, HS, HRw, HK⟩ := hrel
    have e2 : IntKind.i64.wrap ((q : Int) + 1) = (q : Int) + 1 := IntWalk.i64_in _ (by omega)
    by_cases hlt : q < n
    · have HI := Lib.hid (HR.out.keep0 HK.out)
      obtain ⟨g, off, hA, p0, p1, p2, p3, p4, ok⟩ := HI.out.at_ hlt
      obtain ⟨s, hs⟩ : ∃ s, l.getD q stp0 = s := ⟨_, rfl⟩
      have HSt := Lib.hid hs
      rw [hs] at p0 p1 p2 p3 p4 ok
      subst hA
      have HO := Lib.hid ok
      have q1 : (q : Int) < (n : Int) := by omega
      have q2 : (0 : Int) ≤ (q : Int) := by omega
      obtain ⟨b0, b1⟩ := nwL_bd l q
      obtain ⟨d0, d1⟩ := g50_bd s.now
      have e5 : IntKind.i64.wrap ((IntKind.u64.wrap s.now).tmod 50) = g50 s.now := rfl
      have e6 : nwL l (q + 1) = nwL l q + g50 s.now := by rw [nwL_next (by rw [HL.out]; exact hlt), HSt.out]
      have e7 : IntKind.i64.wrap (nwL l q + g50 s.now) = nwL l (q + 1) := by rw [e6]; exact IntWalk.i64_in _ (by omega)
      obtain ⟨t, ht⟩ : ∃ t, nwL l (q + 1) = t := ⟨_, rfl⟩
      have HT := Lib.hid ht
      rw [ht] at e7
      clear hs e6 ok ht
      go_upto_region 9 with (fail)
      have hb := Blk.new wr 35 #[.bool s.hear, .int .i64 s.x.1, .int .i64 s.x.2, .slice s.A s.n s.c, .int .i64 t]
      have hk : Keep (fun _ => False) wr (wr.alloc (.cells #[.bool s.hear, .int .i64 s.x.1, .int .i64 s.x.2, .slice s.A s.n s.c, .int .i64 t] 35)) := (Keep.refl _ wr).alloc _
      generalize hw : wr.alloc (.cells #[.bool s.hear, .int .i64 s.x.1, .int .i64 s.x.2, .slice s.A s.n s.c, .int .i64 t] 35) = W1 at *
      have c0 := hb.cell 0
      have c1' := hb.cell 1
      have c2' := hb.cell 2
      have c3 := hb.cell 3
      have c4 := hb.cell 4
      simp at c0 c1' c2' c3 c4
      have HS1 := Lib.hid (HS.out.keep hk (fun _ _ h => h))
      have HK1 := Lib.hid (keep0_trans _ _ _ HK.out hk)
      clear hw hb hk p0 p1 p2 p3 p4
      go_wp2_with (at_builtin; refine wpList_append_slK rfl _ _ _ rfl i0 _ 56 Try.underlying22 HI0.out HZ0.out HZ1.out HZ2.out rfl (by omega) (HS1.out.keep ((Keep.refl (fun _ => False) _).alloc _) (fun _ _ h => h)) rfl rfl (RdK.of_blk (Blk.new _ _ _) 1 5 rfl) (one_flatS [{ s with now := t }]) (by unfold maxLen; omega) (by omega) ?_; intro row2 A3 c5 w3 hs2 hr2
                   obtain ⟨hk3, hw3⟩ := grew_new hr2 (HK1.out.alloc _) HRw.out
                   have HS3 := Lib.hid hs2
                   have HK3 := Lib.hid hk3
                   have HR4 := Lib.hid hw3
                   clear hs2 hr2 hk3 hw3)
      go_roundw
      case rel => exact ⟨q + 1, row2, A3, c5, by omega, by rw [HT.out], rfl, by go_num, Lib.hid (by rw [risA_next, List.flatMap_append, HT.out, HSt.out]; exact HS3.out), HR4, HK3⟩
      case measure => simp [intOf]; omega
    · obtain rfl : q = n := by omega
      go_wp2
      go_ret
      exact ⟨row, A2, c2, rfl, HS.out, HRw.out, HK.out⟩
end Go.Proofs.Ytenphdgnaknbeaa
