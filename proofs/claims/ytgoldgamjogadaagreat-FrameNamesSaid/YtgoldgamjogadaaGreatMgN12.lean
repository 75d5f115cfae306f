/-
  code.Reader: IDs, Left, End; frame's reader: ids.
  frame's reader: what view hands to list.
  frame's list: members, ticks, rows.
  frame's reader: view.
  frame.Decode: too long, too short, a wrong sum.
-/
import Derived.Test.YtgoldgamjogadaaGreatMgN11
import Derived.Test.YtgoldgamjogadaaGreatMgN8
namespace Go.Proofs.YtgoldgamjogadaaGreat
open Go.RowKit Go
set_option maxRecDepth 100000
attribute [local go_sem] bs_toList bs_size bs_get

theorem eg_ids1 : ∀ args w, (callFunc 96 args).run Tryz.prog w = .ok (.enter 96 args) w := enters_of Tryz.func96 (by kernel_rfl) rfl
theorem eg_end1 : ∀ args w, (callFunc 55 args).run Tryz.prog w = .ok (.enter 55 args) w := enters_of Tryz.func55 (by kernel_rfl) rfl
/-- new memory of IDs, as a value -/
def NewL (l : List ID) (w0 : World) (v : Value) (w : World) : Prop := ∃ row A c, v = .slice A l.length c ∧ SlK w 24 2 row A l.length c (l.flatMap cID) ∧ ∀ g, row = some g → w0.heap.size ≤ g
set_option maxHeartbeats 4000000 in
theorem rids1_any (Bp B : Nat) (l : List ID) (hr : riseF (0, 0) l = true) (h64 : l.length ≤ 64) (t : Bs) (ht : t.length ≤ 900000) (w : World) (hc : w.cell? ⟨Bp, 0, none⟩ = some (.pointer (some ⟨B, 0, none⟩))) (h : Rdr w B (idsB l ++ t, 0)) :
    Calls Tryz.prog 96 #[.pointer (some ⟨Bp, 0, none⟩)] w (ReadT B (NewL l w) 0 (t, 0) w) := by
  have hfl := flat_idB_len l
  have hn1 : NumR (idsB l ++ t, 0) (l.length : Int) 0 (l.flatMap idB ++ t, 0) := by
    unfold idsB
    rw [List.append_assoc]
    have := numR_of (k := (l.length : Int)) (t := l.flatMap idB ++ t) (by omega) (by omega) (by rw [List.length_append]; omega)
    rwa [Int.toNat_natCast] at this
  have HN1 := Lib.hid hn1
  have HMay := Lib.hid (riseF_may hr)
  have HRise := Lib.hid hr
  have HFL := Lib.hid (fun j => flat_idB_len (l.drop j))
  have hBl := Blk.lt h
  have HNp := Lib.hid (show ¬ B = Bp from fun e => by
    subst e
    have h1 := Blk.cell h 0
    rw [hc] at h1
    simp at h1)
  have HC := Lib.hid hc
  have HR := Lib.hid h
  obtain ⟨i0, hi, hz0, hz1, hz2⟩ := info_parts info_id
  have HI := Lib.hid hi
  have HZ0 := Lib.hid hz0
  have HZ1 := Lib.hid hz1
  have HZ2 := Lib.hid hz2
  clear hn1 hr h hfl hi hz0 hz1 hz2
  go_enter Tryz.func96, Tryz.ntmps96
  go_wp2_with fail
  refine (rNum_any B _ _ _ 0 _ HR.out HN1.out).mono ?_
  rintro e W2 ⟨u, rfl, rfl, h1, h2⟩
  have HR1 := Lib.hid h1
  have HK1 := Lib.hid h2
  have q1 : ¬ (64 : Int) < (l.length : Int) := by omega
  clear h1 h2 hc
  go_wp2
  go_loopw [1, 2, 3] (fun lv ev nv wr => ∃ (j : Nat) (A : Option Addr) (c : Nat) (row : Option Nat), j ≤ l.length ∧ lv = .slice A j c ∧ ev = .int .i64 0 ∧ nv = .int .i64 ((l.length - j : Nat) : Int) ∧ Hid (SlK wr 24 2 row A j c ((l.take j).flatMap cID)) ∧ Hid (∀ g, row = some g → w.heap.size ≤ g) ∧ Hid (Rdr wr B ((l.drop j).flatMap idB ++ t, 0)) ∧ Hid (Keep (fun q => B = q) w wr)) (fun _ _ nv _ => (intOf nv).toNat)
  case atStart => exact ⟨0, none, 0, none, by omega, rfl, rfl, by simp, Lib.hid (by simpa using SlK.nil_ _ _ _), Lib.hid (fun g h => by cases h), Lib.hid (by simpa using HR1.out), HK1⟩
  case round =>
    obtain ⟨j, A, c, row, hj, rfl, rfl, rfl, HS, HRow, HRd, HK⟩ := hrel
    have c0 := HK.out.cell HC.out HNp.out
    by_cases hlt : j < l.length
    · obtain ⟨n, hn⟩ : ∃ n, l.length - j = n + 1 := ⟨l.length - j - 1, by omega⟩
      rw [hn]
      have q2 : (0 : Int) < ((n + 1 : Nat) : Int) := by omega
      have q3 : IntKind.i64.wrap (((n + 1 : Nat) : Int) - 1) = (n : Int) := by rw [IntWalk.i64_in _ (by omega)]; omega
      have hd : l.drop j = l.getD j (0, 0) :: l.drop (j + 1) := by rw [List.drop_eq_getElem_cons hlt]; simp [List.getD, hlt]
      have hrd : Rdr wr B (idB (l.getD j (0, 0)) ++ ((l.drop (j + 1)).flatMap idB ++ t), 0) := by
        have := HRd.out
        rw [hd, List.flatMap_cons, List.append_assoc] at this
        exact this
      have HTk := Lib.hid (show (l.take (j + 1)).flatMap cID = (l.take j).flatMap cID ++ cID (l.getD j (0, 0)) by
        rw [List.take_succ_eq_append_getElem hlt, List.flatMap_append]; simp [List.getD, hlt])
      have HMx := Lib.hid (HMay.out (l.getD j (0, 0)) (by simp [List.getD, hlt]))
      have HTl := Lib.hid (show ((l.drop (j + 1)).flatMap idB ++ t).length ≤ 1000000 - 14 by
        have h1 := HFL.out (j + 1)
        rw [List.length_drop] at h1
        rw [List.length_append]; omega)
      clear hd
      generalize l.getD j (0, 0) = x at *
      obtain ⟨a, i⟩ := x
      obtain ⟨W3, hW3⟩ : ∃ W3, wr.alloc (.cells #[.int .i64 0, .int .i64 0] 24) = W3 := ⟨_, rfl⟩
      have hb3 : Blk W3 wr.heap.size 24 #[.int .i64 0, .int .i64 0] := by rw [← hW3]; exact Blk.new _ _ _
      have hk3 : Keep (fun _ => False) wr W3 := by rw [← hW3]; exact (Keep.refl _ wr).alloc _
      have c3 := hk3.cell c0 (fun h => h)
      have HR3 : Hid (Rdr W3 B (idB (a, i) ++ ((l.drop (j + 1)).flatMap idB ++ t), 0)) := Lib.hid (Blk.keep hrd hk3 (fun h => h))
      have HB3 := Lib.hid hb3
      have hwl := HK.out.size
      have HS3 := Lib.hid (HS.out.keep hk3 (fun _ _ h => h))
      have HK3 := Lib.hid (HK.out.one_trans hk3.one)
      have HSz := Lib.hid hk3.size
      have HRl := Lib.hid HS.out.lt
      clear hb3 hk3 hrd
      go_wp2_with fail
      refine (rID_any B (a, i) HMx.out _ HTl.out _ HR3.out).mono ?_
      rintro e W4 ⟨u, rfl, rfl, h1, h2⟩
      have hNg : ¬ B = wr.heap.size := by omega
      have hb4 := HB3.out.keep h2 hNg
      have d0 := hb4.cell 0
      have d1 := hb4.cell 1
      have f0 := hb4.frozen 0
      have f1 := hb4.frozen 1
      simp at d0 d1
      obtain ⟨W5, hW5⟩ : ∃ W5, (W4.setCell ⟨wr.heap.size, 0, none⟩ (.int .i64 a)).setCell ⟨wr.heap.size, 1, none⟩ (.int .i64 i) = W5 := ⟨_, rfl⟩
      have hb5 : Blk W5 wr.heap.size 24 #[.int .i64 a, .int .i64 i] := by rw [← hW5]; exact idblk_set hb4
      have hk5 : Keep (fun q => wr.heap.size = q) W4 W5 := by rw [← hW5]; exact keep_id2 _ _
      have x0 := hb5.cell 0
      have x1 := hb5.cell 1
      simp at x0 x1
      obtain ⟨W6, hW6⟩ : ∃ W6, W5.alloc (.cells #[.int .i64 a, .int .i64 i] 24) = W6 := ⟨_, rfl⟩
      have hb6 : Blk W6 W5.heap.size 24 #[.int .i64 a, .int .i64 i] := by rw [← hW6]; exact Blk.new _ _ _
      have hk6 : Keep (fun _ => False) W5 W6 := by rw [← hW6]; exact (Keep.refl _ W5).alloc _
      have hne : ∀ g, row = some g → ¬ B = g ∧ ¬ wr.heap.size = g := fun g hg => ⟨by have := HRow.out g hg; omega, by have := HRl.out g hg; omega⟩
      have HS6 := Lib.hid (((HS3.out.keep h2 (fun g hg => (hne g hg).1)).keep hk5 (fun g hg => (hne g hg).2)).keep hk6 (fun _ _ h => h))
      have HB6 := Lib.hid hb6
      have HR6 : Hid (Rdr W6 B ((l.drop (j + 1)).flatMap idB ++ t, 0)) := Lib.hid (Blk.keep (Blk.keep h1 hk5 (fun e => hNg e.symm)) hk6 (fun h => h))
      have HK6 := Lib.hid (((HK3.out.one_trans h2).trans (hk5.mono fun q _ e => .inr (by omega))).one_trans hk6.one)
      have HSz6 := Lib.hid (show w.heap.size ≤ W6.heap.size from HK6.out.size)
      have HNr := Lib.hid (fun g hg => (hne g hg).1)
      clear h1 h2 hb4 hb5 hk5 hb6 hk6 hne c0 c3
      go_wp2_with (at_builtin; go_loud (refine wpList_append_slK rfl _ _ _ rfl i0 _ 16 Tryz.underlying29 HI.out HZ0.out HZ1.out HZ2.out rfl (by decide) HS6.out rfl rfl (RdK.of_blk HB6.out 1 2 rfl) (one_id [(a, i)]) (by unfold maxLen; omega) (by omega) ?_; intro row' A' c' w' hs2 hg2; have HS7 := Lib.hid hs2; have HG7 := Lib.hid hg2; clear hs2 hg2))
      have hg := HG7.out.resolve_left (fun h => by have := h.1; omega)
      have HR7 : Hid (Rdr w' B ((l.drop (j + 1)).flatMap idB ++ t, 0)) := Lib.hid (Blk.keep HR6.out hg.keep (fun e => HNr.out B e rfl))
      have HK7 := Lib.hid (HK6.out.trans (hg.keep.mono fun q _ e => .inr (HRow.out q e)))
      have HRow7 := Lib.hid (hg.own HSz6.out HRow.out)
      clear hg
      go_wp2
      go_roundw
      case rel => exact ⟨j + 1, A', c', row', by omega, rfl, rfl, by congr 1; omega, Lib.hid (by rw [HTk.out]; exact HS7.out), HRow7, HR7, HK7⟩
      case measure => simp [intOf]
    · obtain rfl : j = l.length := by omega
      have q2 : ¬ (0 : Int) < ((l.length - l.length : Nat) : Int) := by omega
      have q3 : ((l.length - l.length : Nat) : Int) = 0 := by omega
      have hs := HS.out
      rw [List.take_length] at hs
      have HS2 := Lib.hid hs
      have hrd := HRd.out
      rw [List.drop_length] at hrd
      have HRd2 : Hid (Rdr wr B (t, 0)) := Lib.hid hrd
      clear hs hrd
      go_wp2_with fail
      refine (crise_any A l.length c l _ ⟨rfl, HS2.out.rd⟩ (by omega)).mono ?_
      rintro e W3 ⟨rfl, hk3⟩
      rw [HRise.out]
      have HS3 := Lib.hid (HS2.out.keep hk3 (fun _ _ h => h))
      have HR3 : Hid (Rdr W3 B (t, 0)) := Lib.hid (Blk.keep HRd2.out hk3 (fun h => h))
      have HK3 := Lib.hid (HK.out.one_trans hk3.one)
      clear hk3 c0
      go_wp2
      go_ret2
      exact ⟨_, rfl, ⟨row, A, c, rfl, HS3.out, HRow.out⟩, HR3.out, HK3.out⟩
/-- how a list is read: it stands there; something was wrong -/
def IdsR (st : WS) (l : List ID) (er : Int) (st' : WS) : Prop :=
  (st.2 ≠ 0 ∧ l = [] ∧ er = st.2 ∧ st' = st) ∨ ∃ t, riseF (0, 0) l = true ∧ l.length ≤ 64 ∧ t.length ≤ 900000 ∧ st = (idsB l ++ t, 0) ∧ er = 0 ∧ st' = (t, 0)
set_option maxHeartbeats 1000000 in
theorem rIDs_any (B : Nat) (st st' : WS) (l : List ID) (er : Int) (w : World) (h : Rdr w B st) (hn : IdsR st l er st') :
    Calls Tryz.prog 81 #[.pointer (some ⟨B, 0, none⟩)] w (ReadT B (NewL l w) er st' w) := by
  obtain ⟨W0, hW0⟩ : ∃ W0, w.alloc (.cells #[.pointer (some ⟨B, 0, none⟩)] 70) = W0 := ⟨_, rfl⟩
  have hb : Blk W0 w.heap.size 70 #[.pointer (some ⟨B, 0, none⟩)] := by rw [← hW0]; exact Blk.new _ _ _
  have hk0 : Keep (fun _ => False) w W0 := by rw [← hW0]; exact (Keep.refl _ w).alloc _
  have c0 := hb.cell 0
  simp at c0
  have HC := Lib.hid c0
  have hr0 : Rdr W0 B st := Blk.keep h hk0 (fun h => h)
  have HR := Lib.hid hr0
  have HK := Lib.hid hk0
  have HN := Lib.hid hn
  clear hb hk0 h hr0 hn
  have hcall : Calls Tryz.prog 95 #[.pointer (some ⟨B, 0, none⟩), .func (.func 96) #[] #[.pointer (some ⟨w.heap.size, 0, none⟩)]] W0 (ReadT B (NewL l w) er st' W0) := by
    rcases HN.out with ⟨h1, rfl, rfl, rfl⟩ | ⟨t, h1, h2, h3, rfl, rfl, rfl⟩
    · refine (readL_er B _ _ W0 HR.out h1).mono ?_
      rintro e w' ⟨v, rfl, rfl, h2, h3⟩
      exact ⟨_, rfl, ⟨none, none, 0, rfl, SlK.nil_ _ _ _, fun g h => by cases h⟩, h2, h3⟩
    · exact readL_ok B _ _ _ _ (t, 0) W0 HR.out eg_ids1 (fun W hW => by
        subst hW
        refine (rids1_any _ B l h1 h2 t h3 W HC.out HR.out).mono ?_
        rintro e w' ⟨v, rfl, ⟨row, A, c, rfl, k1, k2⟩, k3, k4⟩
        exact ⟨_, rfl, ⟨row, A, c, rfl, k1, fun g hg => Nat.le_trans HK.out.size (k2 g hg)⟩, k3, k4⟩)
  have HCall := Lib.hid hcall
  clear hcall
  go_enter Tryz.func81, Tryz.ntmps81
  go_wp2_with fail
  refine HCall.out.mono ?_
  rintro e W1 ⟨u, rfl, hu, h1, h2⟩
  have HU := Lib.hid hu
  have HR1 := Lib.hid h1
  have HK1 := Lib.hid (HK.out.one.one_trans h2)
  clear h1 h2 hu c0
  go_wp2
  go_ret2
  exact ⟨_, rfl, HU.out, HR1.out, HK1.out⟩
set_option maxHeartbeats 1000000 in
theorem fids_any (B : Nat) (st st' : WS) (l : List ID) (er : Int) (w : World) (h : Rdr w B st) (hn : IdsR st l er st') :
    Calls Tryz.prog 49 #[rdV B] w (Reads B (NewL l w) st' w) := by
  have hk0 := (Keep.refl (fun _ => False) w).alloc (.cells #[.pointer (some ⟨B, 0, none⟩)] 73)
  have HK := Lib.hid hk0
  have HR : Hid (Rdr (w.alloc (.cells #[.pointer (some ⟨B, 0, none⟩)] 73)) B st) := Lib.hid (Blk.keep h hk0 (fun h => h))
  have HN := Lib.hid hn
  clear hk0 h hn
  go_enter Tryz.func49, Tryz.ntmps49
  go_wp2_with fail
  refine (rIDs_any B st st' l er _ HR.out HN.out).mono ?_
  rintro e W1 ⟨u, rfl, ⟨row, A, c, rfl, k1, k2⟩, h1, h2⟩
  have HS1 := Lib.hid k1
  have HRw1 : Hid (∀ g, row = some g → w.heap.size ≤ g) := Lib.hid fun g hg => Nat.le_trans HK.out.size (k2 g hg)
  have HR1 := Lib.hid h1
  have HK1 := Lib.hid (HK.out.one.one_trans h2)
  clear h1 h2 k1 k2
  go_wp2
  go_ret
  exact ⟨_, rfl, ⟨row, A, c, rfl, HS1.out, HRw1.out⟩, HR1.out, HK1.out⟩
set_option maxHeartbeats 1000000 in
theorem rLeft_any (B : Nat) (st : WS) (w : World) (h : Rdr w B st) : Calls Tryz.prog 80 #[.pointer (some ⟨B, 0, none⟩)] w (Tell (.int .i64 (st.1.length : Int)) w) := by
  obtain ⟨s, e⟩ := st
  have c0 := Blk.cell h 0
  simp at c0
  clear h
  go_enter Tryz.func80, Tryz.ntmps80
  go_wp2
  go_ret
  exact ⟨rfl, Keep.refl _ _⟩
set_option maxHeartbeats 1000000 in
theorem rEnd_any (B : Nat) (st : WS) (er : Int) (w : World) (h : Rdr w B st) (hn : (st.2 ≠ 0 ∧ er = st.2) ∨ (st = ([], 0) ∧ er = 0)) :
    Calls Tryz.prog 32 #[.pointer (some ⟨B, 0, none⟩)] w (fun e w' => e = .returned (.int .i64 er) ∧ Keep (fun q => B = q) w w') := by
  obtain ⟨W0, hW0⟩ : ∃ W0, w.alloc (.cells #[.pointer (some ⟨B, 0, none⟩)] 70) = W0 := ⟨_, rfl⟩
  have hb : Blk W0 w.heap.size 70 #[.pointer (some ⟨B, 0, none⟩)] := by rw [← hW0]; exact Blk.new _ _ _
  have hk0 : Keep (fun _ => False) w W0 := by rw [← hW0]; exact (Keep.refl _ w).alloc _
  have c0 := hb.cell 0
  simp at c0
  have hr0 : Rdr W0 B st := Blk.keep h hk0 (fun h => h)
  have HK := Lib.hid hk0
  have HCall : Hid (∃ st', Calls Tryz.prog 54 #[.pointer (some ⟨B, 0, none⟩), .func (.func 55) #[] #[.pointer (some ⟨w.heap.size, 0, none⟩)]] W0 (ReadT B (fun u _ => u = .int .i64 0) er st' W0)) := by
    refine Lib.hid ?_
    rcases hn with ⟨h1, rfl⟩ | ⟨rfl, rfl⟩
    · exact ⟨_, readI_er B st _ W0 hr0 h1⟩
    · refine ⟨_, readI_ok B [] _ _ _ ([], 0) W0 hr0 eg_end1 (fun W hW => ?_)⟩
      subst hW
      have HR := Lib.hid hr0
      have d0 : W.cell? ⟨B, 0, none⟩ = some (.string ⟨#[]⟩) := Blk.cell hr0 0
      clear hr0 HK h hb hk0
      go_enter Tryz.func55, Tryz.ntmps55
      go_wp2
      go_ret2
      exact ⟨_, rfl, rfl, HR.out, Keep.refl _ _⟩
  obtain ⟨st', hcall⟩ := HCall.out
  have HC2 := Lib.hid hcall
  clear hb hk0 h hr0 hn hcall HCall
  go_enter Tryz.func32, Tryz.ntmps32
  go_wp2_with fail
  refine HC2.out.mono ?_
  rintro e W1 ⟨u, rfl, rfl, h1, h2⟩
  have HK1 := Lib.hid (HK.out.one.one_trans h2)
  clear h1 h2 c0
  go_wp2
  go_ret
  exact ⟨rfl, HK1.out⟩
end Go.Proofs.YtgoldgamjogadaaGreat

namespace Go.Proofs.YtgoldgamjogadaaGreat
open Go.RowKit Go
set_option maxRecDepth 100000
attribute [local go_sem] bs_toList bs_size bs_get
attribute [local irreducible] kAll kAllP
attribute [local go_sem] kQuiet kQuietUpon

def MemR (st : WS) (x : Mem) (st' : WS) : Prop := ∃ m1 m2 e1 e2, IdR st x.id m1 ∧ NumR m1 x.st e1 m2 ∧ NumR m2 x.no e2 st' ∧ 0 ≤ x.st ∧ x.st ≤ 255
def RowR (st : WS) (r : RowM) (st' : WS) : Prop := ∃ m1 m2 e1 e2, IdR st r.of m1 ∧ NumR m1 r.ver e1 m2 ∧ IdsR m2 r.no e2 st'
def TickR (st : WS) (t : Tick) (st' : WS) : Prop := ∃ m1 e1, IdR st t.1 m1 ∧ NumR m1 t.2 e1 st'
set_option maxHeartbeats 4000000 in
theorem view1_any (Bq B : Nat) (x : Mem) (st st' : WS) (w : World) (hq : Blk w Bq 73 #[.pointer (some ⟨B, 0, none⟩)]) (h : Rdr w B st) (hn : MemR st x st') :
    Calls Tryz.prog 48 #[.pointer (some ⟨Bq, 0, none⟩)] w (Reads B (fun u _ => u = memV x) st' w) := by
  obtain ⟨a, i, s, n⟩ := x
  obtain ⟨m1, m2, e1, e2, n1, n2, n3, b1, b2⟩ := hn
  have HN1 := Lib.hid n1
  have HN2 := Lib.hid n2
  have HN3 := Lib.hid n3
  clear n1 n2 n3
  simp only at b1 b2
  obtain ⟨W1, hW1⟩ : ∃ W1, w.alloc (.cells #[.int .i64 0, .int .i64 0, .int .u8 0, .int .i64 0] 35) = W1 := ⟨_, rfl⟩
  have hbo : Blk W1 w.heap.size 35 #[.int .i64 0, .int .i64 0, .int .u8 0, .int .i64 0] := by rw [← hW1]; exact Blk.new _ _ _
  have hk1 : Keep (fun _ => False) w W1 := by rw [← hW1]; exact (Keep.refl _ w).alloc _
  have hBl := Blk.lt h
  have HNo := Lib.hid (show ¬ B = w.heap.size by omega)
  have HNq := Lib.hid (show ¬ B = Bq from fun e => (Blk.ne_ h hq (by decide)) e)
  have HBo := Lib.hid hbo
  have hq1 := hq.keep hk1 (fun h => h)
  have HQ := Lib.hid hq1
  have HK := Lib.hid (hk1.one (B := B))
  have HR : Hid (Rdr W1 B st) := Lib.hid (Blk.keep h hk1 (fun h => h))
  have c0 := hq1.cell 0
  simp at c0
  clear h hq hbo hk1 hBl hq1
  go_enter Tryz.func48, Tryz.ntmps48
  go_wp2_with fail
  refine (fid_any B st m1 (a, i) _ HR.out HN1.out).mono ?_
  rintro e W2 ⟨u, rfl, rfl, h1, h2⟩
  obtain ⟨W3, hW3⟩ : ∃ W3, W2.alloc (.cells #[.int .i64 a, .int .i64 i] 24) = W3 := ⟨_, rfl⟩
  have hbi : Blk W3 W2.heap.size 24 #[.int .i64 a, .int .i64 i] := by rw [← hW3]; exact Blk.new _ _ _
  have hk3 : Keep (fun _ => False) W2 W3 := by rw [← hW3]; exact (Keep.refl _ W2).alloc _
  have HNi := Lib.hid (show ¬ B = W2.heap.size by have := Blk.lt h1; omega)
  have HBi := Lib.hid hbi
  have HBo := Lib.hid ((HBo.out.keep h2 HNo.out).keep hk3 (fun h => h))
  have hq2 := (HQ.out.keep h2 HNq.out).keep hk3 (fun h => h)
  have HQ := Lib.hid hq2
  have HR : Hid (Rdr W3 B m1) := Lib.hid (Blk.keep h1 hk3 (fun h => h))
  have HK := Lib.hid ((HK.out.one_trans h2).one_trans hk3.one)
  clear c0
  have c0 := hq2.cell 0
  simp at c0
  clear h1 h2 hbi hk3 hq2
  go_wp2_with fail
  refine (fsmall_any B m1 m2 s e1 _ HR.out HN2.out b1 b2).mono ?_
  rintro e W ⟨u, rfl, rfl, h1, h2⟩
  have HBi := Lib.hid (HBi.out.keep h2 HNi.out)
  have HBo := Lib.hid (HBo.out.keep h2 HNo.out)
  have hq2 := HQ.out.keep h2 HNq.out
  have HQ := Lib.hid hq2
  have HR := Lib.hid h1
  have HK := Lib.hid (HK.out.one_trans h2)
  clear c0
  have c0 := hq2.cell 0
  simp at c0
  clear h1 h2 hq2
  go_upto_region 3 with (fail)
  refine wp_region_kpiv (Keep (fun y => B = y)) (Keep (fun _ => False)) 3 (Keep.refl _) (keepT_trans _) (Keep.refl _) keep0_trans (fun _ _ h => h.mono fun _ _ e => e.elim) 4 (by kernel_rfl) (by kernel_rfl) (Ts := [some (.inl (idV (a, i))), none, some (.inl (rdV B)), some (.inr (fun v W => v = .int .i64 n ∧ Rdr W B st'))]) ?_
  simp only [List.take, List.drop]
  refine kAllP_d _ (by decide) (fun W hW hF => kStep_of fun K Q hK => ?_) ?_
  · have hi := HBi.out.keep (keepDT hW) HNi.out
    have e0 := hi.cell 0
    have e1 := hi.cell 1
    simp at e0 e1
    go_simp
    exact hK _ _ (Keep.refl _ _) rfl
  refine kAllP_p (fun K hK => ?_)
  go_simp
  generalize hZ : (Act.mk _ _) = Z
  refine hK Z ?_
  subst hZ
  clear hK K
  refine kAllP_d _ (by decide) (fun W hW hF => kStep_of fun K Q hK => ?_) ?_
  · have hqq := HQ.out.keep (keepDT hW) HNq.out
    have e0 := hqq.cell 0
    simp at e0
    go_simp
    exact hK _ _ (Keep.refl _ _) rfl
  refine kAllP_t _ rfl (fun _ _ _ hk h => ⟨h.1, Blk.keep h.2 hk (fun h => h)⟩) (fun W hW hF => kStep_of fun K Q hK => ?_) (fun u0 => ?_)
  · go_simp
    refine (fnum_any B m2 st' n e2 W (Blk.keep HR.out (keepD (Keep.refl (fun _ => False) _) hW) (fun h => h)) HN3.out).mono ?_
    rintro e w' ⟨u, rfl, rfl, h1, h2⟩
    exact hK _ _ h2 ⟨rfl, h1⟩
  refine kAllP_nil (fun W5 hW hF => ?_)
  have h0 : (fun v W => v = .int .i64 n ∧ Rdr W B st') u0 W5 := kAllHas_at hF 0 rfl
  obtain ⟨rfl, hr⟩ := h0
  have HR2 := Lib.hid hr
  clear hr
  have hkk := keepDT hW
  have HBo := Lib.hid (HBo.out.keep hkk HNo.out)
  have HK := Lib.hid (HK.out.one_trans hkk)
  clear hF hW hkk c0
  have y0 := HBo.out.cell 0
  have z0 := HBo.out.frozen 0
  have y1 := HBo.out.cell 1
  have z1 := HBo.out.frozen 1
  have y2 := HBo.out.cell 2
  have z2 := HBo.out.frozen 2
  have y3 := HBo.out.cell 3
  have z3 := HBo.out.frozen 3
  simp at y0 y1 y2 y3
  go_wp2
  have hbf : Blk ((((W5.setCell ⟨w.heap.size, 0, none⟩ (.int .i64 a)).setCell ⟨w.heap.size, 1, none⟩ (.int .i64 i)).setCell ⟨w.heap.size, 2, none⟩ (.int .u8 s)).setCell ⟨w.heap.size, 3, none⟩ (.int .i64 n)) w.heap.size 35 #[.int .i64 a, .int .i64 i, .int .u8 s, .int .i64 n] := by
    have h := ((((HBo.out.set_ 0 (.int .i64 a)).set_ 1 (.int .i64 i)).set_ 2 (.int .u8 s)).set_ 3 (.int .i64 n))
    simpa using h
  have hkf : Keep (fun q => w.heap.size = q) W5 ((((W5.setCell ⟨w.heap.size, 0, none⟩ (.int .i64 a)).setCell ⟨w.heap.size, 1, none⟩ (.int .i64 i)).setCell ⟨w.heap.size, 2, none⟩ (.int .u8 s)).setCell ⟨w.heap.size, 3, none⟩ (.int .i64 n)) := (((((Keep.refl (fun q => w.heap.size = q) W5).setCell (p := ⟨w.heap.size, 0, none⟩) (fun _ => rfl) _).setCell (p := ⟨w.heap.size, 1, none⟩) (fun _ => rfl) _).setCell (p := ⟨w.heap.size, 2, none⟩) (fun _ => rfl) _).setCell (p := ⟨w.heap.size, 3, none⟩) (fun _ => rfl) _)
  generalize ((((W5.setCell ⟨w.heap.size, 0, none⟩ (.int .i64 a)).setCell ⟨w.heap.size, 1, none⟩ (.int .i64 i)).setCell ⟨w.heap.size, 2, none⟩ (.int .u8 s)).setCell ⟨w.heap.size, 3, none⟩ (.int .i64 n)) = WF at *
  have r0 := hbf.cell 0
  have r1 := hbf.cell 1
  have r2 := hbf.cell 2
  have r3 := hbf.cell 3
  simp at r0 r1 r2 r3
  refine ⟨rfl, .agg #[.int .i64 a, .int .i64 i, .int .u8 s, .int .i64 n], ?_, ⟨_, rfl, rfl, Blk.keep HR2.out hkf (fun e => HNo.out e.symm), HK.out.trans (hkf.mono fun q _ e => .inr (by omega))⟩⟩
  unfold results
  go_simp
set_option maxHeartbeats 4000000 in
theorem view3_any (Bq B : Nat) (x : Tick) (st st' : WS) (w : World) (hq : Blk w Bq 73 #[.pointer (some ⟨B, 0, none⟩)]) (h : Rdr w B st) (hn : TickR st x st') :
    Calls Tryz.prog 53 #[.pointer (some ⟨Bq, 0, none⟩)] w (Reads B (fun u _ => u = tV x) st' w) := by
  obtain ⟨⟨a, i⟩, n⟩ := x
  obtain ⟨m1, e1, n1, n2⟩ := hn
  have HN1 := Lib.hid n1
  have HN3 := Lib.hid n2
  clear n1 n2
  obtain ⟨W1, hW1⟩ : ∃ W1, w.alloc (.cells #[.int .i64 0, .int .i64 0, .int .i64 0] 27) = W1 := ⟨_, rfl⟩
  have hbo : Blk W1 w.heap.size 27 #[.int .i64 0, .int .i64 0, .int .i64 0] := by rw [← hW1]; exact Blk.new _ _ _
  have hk1 : Keep (fun _ => False) w W1 := by rw [← hW1]; exact (Keep.refl _ w).alloc _
  have hBl := Blk.lt h
  have HNo := Lib.hid (show ¬ B = w.heap.size by omega)
  have HNq := Lib.hid (show ¬ B = Bq from fun e => (Blk.ne_ h hq (by decide)) e)
  have HBo := Lib.hid hbo
  have hq1 := hq.keep hk1 (fun h => h)
  have HQ := Lib.hid hq1
  have HK := Lib.hid (hk1.one (B := B))
  have HR : Hid (Rdr W1 B st) := Lib.hid (Blk.keep h hk1 (fun h => h))
  have c0 := hq1.cell 0
  simp at c0
  clear h hq hbo hk1 hBl hq1
  go_enter Tryz.func53, Tryz.ntmps53
  go_wp2_with fail
  refine (fid_any B st m1 (a, i) _ HR.out HN1.out).mono ?_
  rintro e W2 ⟨u, rfl, rfl, h1, h2⟩
  obtain ⟨W3, hW3⟩ : ∃ W3, W2.alloc (.cells #[.int .i64 a, .int .i64 i] 24) = W3 := ⟨_, rfl⟩
  have hbi : Blk W3 W2.heap.size 24 #[.int .i64 a, .int .i64 i] := by rw [← hW3]; exact Blk.new _ _ _
  have hk3 : Keep (fun _ => False) W2 W3 := by rw [← hW3]; exact (Keep.refl _ W2).alloc _
  have HNi := Lib.hid (show ¬ B = W2.heap.size by have := Blk.lt h1; omega)
  have HBi := Lib.hid hbi
  have HBo := Lib.hid ((HBo.out.keep h2 HNo.out).keep hk3 (fun h => h))
  have hq2 := (HQ.out.keep h2 HNq.out).keep hk3 (fun h => h)
  have HQ := Lib.hid hq2
  have HR : Hid (Rdr W3 B m1) := Lib.hid (Blk.keep h1 hk3 (fun h => h))
  have HK := Lib.hid ((HK.out.one_trans h2).one_trans hk3.one)
  clear c0
  have c0 := hq2.cell 0
  simp at c0
  clear h1 h2 hbi hk3 hq2
  go_upto_region 2 with (fail)
  refine wp_region_kpiv (Keep (fun y => B = y)) (Keep (fun _ => False)) 2 (Keep.refl _) (keepT_trans _) (Keep.refl _) keep0_trans (fun _ _ h => h.mono fun _ _ e => e.elim) 3 (by kernel_rfl) (by kernel_rfl) (Ts := [some (.inl (idV (a, i))), some (.inl (rdV B)), some (.inr (fun v W => v = .int .i64 n ∧ Rdr W B st'))]) ?_
  simp only [List.take, List.drop]
  refine kAllP_d _ (by decide) (fun W hW hF => kStep_of fun K Q hK => ?_) ?_
  · have hi := HBi.out.keep (keepDT hW) HNi.out
    have e0 := hi.cell 0
    have e1 := hi.cell 1
    simp at e0 e1
    go_simp
    exact hK _ _ (Keep.refl _ _) rfl
  refine kAllP_d _ (by decide) (fun W hW hF => kStep_of fun K Q hK => ?_) ?_
  · have hqq := HQ.out.keep (keepDT hW) HNq.out
    have e0 := hqq.cell 0
    simp at e0
    go_simp
    exact hK _ _ (Keep.refl _ _) rfl
  refine kAllP_t _ rfl (fun _ _ _ hk h => ⟨h.1, Blk.keep h.2 hk (fun h => h)⟩) (fun W hW hF => kStep_of fun K Q hK => ?_) (fun u0 => ?_)
  · go_simp
    refine (fnum_any B m1 st' n e1 W (Blk.keep HR.out (keepD (Keep.refl (fun _ => False) _) hW) (fun h => h)) HN3.out).mono ?_
    rintro e w' ⟨u, rfl, rfl, h1, h2⟩
    exact hK _ _ h2 ⟨rfl, h1⟩
  refine kAllP_nil (fun W5 hW hF => ?_)
  have h0 : (fun v W => v = .int .i64 n ∧ Rdr W B st') u0 W5 := kAllHas_at hF 0 rfl
  obtain ⟨rfl, hr⟩ := h0
  have HR2 := Lib.hid hr
  clear hr
  have hkk := keepDT hW
  have HBo := Lib.hid (HBo.out.keep hkk HNo.out)
  have HK := Lib.hid (HK.out.one_trans hkk)
  clear hF hW hkk c0
  have y0 := HBo.out.cell 0
  have z0 := HBo.out.frozen 0
  have y1 := HBo.out.cell 1
  have z1 := HBo.out.frozen 1
  have y2 := HBo.out.cell 2
  have z2 := HBo.out.frozen 2
  simp at y0 y1 y2
  go_wp2
  have hbf : Blk (((W5.setCell ⟨w.heap.size, 0, none⟩ (.int .i64 a)).setCell ⟨w.heap.size, 1, none⟩ (.int .i64 i)).setCell ⟨w.heap.size, 2, none⟩ (.int .i64 n)) w.heap.size 27 #[.int .i64 a, .int .i64 i, .int .i64 n] := by
    have h := (((HBo.out.set_ 0 (.int .i64 a)).set_ 1 (.int .i64 i)).set_ 2 (.int .i64 n))
    simpa using h
  have hkf : Keep (fun q => w.heap.size = q) W5 (((W5.setCell ⟨w.heap.size, 0, none⟩ (.int .i64 a)).setCell ⟨w.heap.size, 1, none⟩ (.int .i64 i)).setCell ⟨w.heap.size, 2, none⟩ (.int .i64 n)) := ((((Keep.refl (fun q => w.heap.size = q) W5).setCell (p := ⟨w.heap.size, 0, none⟩) (fun _ => rfl) _).setCell (p := ⟨w.heap.size, 1, none⟩) (fun _ => rfl) _).setCell (p := ⟨w.heap.size, 2, none⟩) (fun _ => rfl) _)
  generalize (((W5.setCell ⟨w.heap.size, 0, none⟩ (.int .i64 a)).setCell ⟨w.heap.size, 1, none⟩ (.int .i64 i)).setCell ⟨w.heap.size, 2, none⟩ (.int .i64 n)) = WF at *
  have r0 := hbf.cell 0
  have r1 := hbf.cell 1
  have r2 := hbf.cell 2
  simp at r0 r1 r2
  refine ⟨rfl, .agg #[.int .i64 a, .int .i64 i, .int .i64 n], ?_, ⟨_, rfl, rfl, Blk.keep HR2.out hkf (fun e => HNo.out e.symm), HK.out.trans (hkf.mono fun q _ e => .inr (by omega))⟩⟩
  unfold results
  go_simp
set_option maxHeartbeats 4000000 in
theorem view2_any (Bq B : Nat) (x : RowM) (st st' : WS) (w : World) (hq : Blk w Bq 73 #[.pointer (some ⟨B, 0, none⟩)]) (h : Rdr w B st) (hn : RowR st x st') :
    Calls Tryz.prog 51 #[.pointer (some ⟨Bq, 0, none⟩)] w (Reads B (fun u w2 => ∃ b A c, u = rowV ⟨x.of, x.ver, A, x.no.length, c⟩ ∧ SlK w2 24 2 b A x.no.length c (x.no.flatMap cID) ∧ ∀ g, b = some g → w.heap.size < g) st' w) := by
  obtain ⟨⟨a, i⟩, n, no⟩ := x
  obtain ⟨m1, m2, e1, e2, n1, n2, n3⟩ := hn
  have HN1 := Lib.hid n1
  have HN2 := Lib.hid n2
  have HN3 := Lib.hid n3
  clear n1 n2 n3
  obtain ⟨W1, hW1⟩ : ∃ W1, w.alloc (.cells #[.int .i64 0, .int .i64 0, .int .i64 0, .slice none 0 0] 37) = W1 := ⟨_, rfl⟩
  have hbo : Blk W1 w.heap.size 37 #[.int .i64 0, .int .i64 0, .int .i64 0, .slice none 0 0] := by rw [← hW1]; exact Blk.new _ _ _
  have hk1 : Keep (fun _ => False) w W1 := by rw [← hW1]; exact (Keep.refl _ w).alloc _
  have hBl := Blk.lt h
  have HNo := Lib.hid (show ¬ B = w.heap.size by omega)
  have HNq := Lib.hid (show ¬ B = Bq from fun e => (Blk.ne_ h hq (by decide)) e)
  have HBo := Lib.hid hbo
  have hq1 := hq.keep hk1 (fun h => h)
  have HQ := Lib.hid hq1
  have HK := Lib.hid (hk1.one (B := B))
  have HR : Hid (Rdr W1 B st) := Lib.hid (Blk.keep h hk1 (fun h => h))
  have c0 := hq1.cell 0
  simp at c0
  clear h hq hbo hk1 hBl hq1
  go_enter Tryz.func51, Tryz.ntmps51
  go_wp2_with fail
  refine (fid_any B st m1 (a, i) _ HR.out HN1.out).mono ?_
  rintro e W2 ⟨u, rfl, rfl, h1, h2⟩
  obtain ⟨W3, hW3⟩ : ∃ W3, W2.alloc (.cells #[.int .i64 a, .int .i64 i] 24) = W3 := ⟨_, rfl⟩
  have hbi : Blk W3 W2.heap.size 24 #[.int .i64 a, .int .i64 i] := by rw [← hW3]; exact Blk.new _ _ _
  have hk3 : Keep (fun _ => False) W2 W3 := by rw [← hW3]; exact (Keep.refl _ W2).alloc _
  have HNi := Lib.hid (show ¬ B = W2.heap.size by have := Blk.lt h1; omega)
  have HBi := Lib.hid hbi
  have HBo := Lib.hid ((HBo.out.keep h2 HNo.out).keep hk3 (fun h => h))
  have hq2 := (HQ.out.keep h2 HNq.out).keep hk3 (fun h => h)
  have HQ := Lib.hid hq2
  have HR : Hid (Rdr W3 B m1) := Lib.hid (Blk.keep h1 hk3 (fun h => h))
  have HK := Lib.hid ((HK.out.one_trans h2).one_trans hk3.one)
  clear c0
  have c0 := hq2.cell 0
  simp at c0
  clear h1 h2 hbi hk3 hq2
  go_wp2_with fail
  refine (fnum_any B m1 m2 n e1 _ HR.out HN2.out).mono ?_
  rintro e W ⟨u, rfl, rfl, h1, h2⟩
  have HBi := Lib.hid (HBi.out.keep h2 HNi.out)
  have HBo := Lib.hid (HBo.out.keep h2 HNo.out)
  have hq2 := HQ.out.keep h2 HNq.out
  have HQ := Lib.hid hq2
  have HR := Lib.hid h1
  have HK := Lib.hid (HK.out.one_trans h2)
  clear c0
  have c0 := hq2.cell 0
  simp at c0
  clear h1 h2 hq2
  go_upto_region 3 with (fail)
  refine wp_region_kpiv (Keep (fun y => B = y)) (Keep (fun _ => False)) 3 (Keep.refl _) (keepT_trans _) (Keep.refl _) keep0_trans (fun _ _ h => h.mono fun _ _ e => e.elim) 4 (by kernel_rfl) (by kernel_rfl) (Ts := [some (.inl (idV (a, i))), none, some (.inl (rdV B)), some (.inr (fun v W => (∃ b A c, v = .slice A no.length c ∧ SlK W 24 2 b A no.length c (no.flatMap cID) ∧ ∀ g, b = some g → w.heap.size < g) ∧ Rdr W B st'))]) ?_
  simp only [List.take, List.drop]
  refine kAllP_d _ (by decide) (fun W hW hF => kStep_of fun K Q hK => ?_) ?_
  · have hi := HBi.out.keep (keepDT hW) HNi.out
    have e0 := hi.cell 0
    have e1 := hi.cell 1
    simp at e0 e1
    go_simp
    exact hK _ _ (Keep.refl _ _) rfl
  refine kAllP_p (fun K hK => ?_)
  go_simp
  generalize hZ : (Act.mk _ _) = Z
  refine hK Z ?_
  subst hZ
  clear hK K
  refine kAllP_d _ (by decide) (fun W hW hF => kStep_of fun K Q hK => ?_) ?_
  · have hqq := HQ.out.keep (keepDT hW) HNq.out
    have e0 := hqq.cell 0
    simp at e0
    go_simp
    exact hK _ _ (Keep.refl _ _) rfl
  refine kAllP_t _ rfl (fun _ _ _ hk h => by obtain ⟨⟨b, A, c, e, k1, k2⟩, hr⟩ := h; exact ⟨⟨b, A, c, e, k1.keep hk (fun _ _ h => h), k2⟩, Blk.keep hr hk (fun h => h)⟩) (fun W hW hF => kStep_of fun K Q hK => ?_) (fun u0 => ?_)
  · go_simp
    refine (fids_any B m2 st' no e2 W (Blk.keep HR.out (keepD (Keep.refl (fun _ => False) _) hW) (fun h => h)) HN3.out).mono ?_
    rintro e w' ⟨u, rfl, ⟨b, A, c, rfl, k1, k2⟩, h1, h2⟩
    exact hK _ _ h2 ⟨⟨b, A, c, rfl, k1, fun g hg => by have q1 := k2 g hg; have q2 := (keepD (Keep.refl (fun _ => False) _) hW).size; have q3 := HBo.out.lt; omega⟩, h1⟩
  refine kAllP_nil (fun W5 hW hF => ?_)
  have h0 : (fun v W => (∃ b A c, v = .slice A no.length c ∧ SlK W 24 2 b A no.length c (no.flatMap cID) ∧ ∀ g, b = some g → w.heap.size < g) ∧ Rdr W B st') u0 W5 := kAllHas_at hF 0 rfl
  obtain ⟨⟨b, A, c, rfl, k1, k2⟩, hr⟩ := h0
  have HR2 := Lib.hid hr
  have HS2 := Lib.hid k1
  have HG2 := Lib.hid k2
  clear hr k1 k2
  have hkk := keepDT hW
  have HBo := Lib.hid (HBo.out.keep hkk HNo.out)
  have HK := Lib.hid (HK.out.one_trans hkk)
  clear hF hW hkk c0
  have y0 := HBo.out.cell 0
  have z0 := HBo.out.frozen 0
  have y1 := HBo.out.cell 1
  have z1 := HBo.out.frozen 1
  have y2 := HBo.out.cell 2
  have z2 := HBo.out.frozen 2
  have y3 := HBo.out.cell 3
  have z3 := HBo.out.frozen 3
  simp at y0 y1 y2 y3
  go_wp2
  have hbf : Blk ((((W5.setCell ⟨w.heap.size, 0, none⟩ (.int .i64 a)).setCell ⟨w.heap.size, 1, none⟩ (.int .i64 i)).setCell ⟨w.heap.size, 2, none⟩ (.int .i64 n)).setCell ⟨w.heap.size, 3, none⟩ (.slice A no.length c)) w.heap.size 37 #[.int .i64 a, .int .i64 i, .int .i64 n, .slice A no.length c] := by
    have h := ((((HBo.out.set_ 0 (.int .i64 a)).set_ 1 (.int .i64 i)).set_ 2 (.int .i64 n)).set_ 3 (.slice A no.length c))
    simpa using h
  have hkf : Keep (fun q => w.heap.size = q) W5 ((((W5.setCell ⟨w.heap.size, 0, none⟩ (.int .i64 a)).setCell ⟨w.heap.size, 1, none⟩ (.int .i64 i)).setCell ⟨w.heap.size, 2, none⟩ (.int .i64 n)).setCell ⟨w.heap.size, 3, none⟩ (.slice A no.length c)) := (((((Keep.refl (fun q => w.heap.size = q) W5).setCell (p := ⟨w.heap.size, 0, none⟩) (fun _ => rfl) _).setCell (p := ⟨w.heap.size, 1, none⟩) (fun _ => rfl) _).setCell (p := ⟨w.heap.size, 2, none⟩) (fun _ => rfl) _).setCell (p := ⟨w.heap.size, 3, none⟩) (fun _ => rfl) _)
  generalize ((((W5.setCell ⟨w.heap.size, 0, none⟩ (.int .i64 a)).setCell ⟨w.heap.size, 1, none⟩ (.int .i64 i)).setCell ⟨w.heap.size, 2, none⟩ (.int .i64 n)).setCell ⟨w.heap.size, 3, none⟩ (.slice A no.length c)) = WF at *
  have r0 := hbf.cell 0
  have r1 := hbf.cell 1
  have r2 := hbf.cell 2
  have r3 := hbf.cell 3
  simp at r0 r1 r2 r3
  refine ⟨rfl, .agg #[.int .i64 a, .int .i64 i, .int .i64 n, .slice A no.length c], ?_, ⟨_, rfl, ⟨b, A, c, rfl, HS2.out.keep hkf (fun g hg e => by have := HG2.out g hg; omega), HG2.out⟩, Blk.keep HR2.out hkf (fun e => HNo.out e.symm), HK.out.trans (hkf.mono fun q _ e => .inr (by omega))⟩⟩
  unfold results
  go_simp
end Go.Proofs.YtgoldgamjogadaaGreat

namespace Go.Proofs.YtgoldgamjogadaaGreat
open Go.RowKit Go
set_option maxRecDepth 100000
attribute [local go_sem] bs_toList bs_size bs_get

/-- one behind the other, while bytes are left -/
def ChainR {α : Type} (R : WS → α → WS → Prop) : WS → List α → WS → Prop
  | st, [], st' => st = st'
  | st, x :: l, st' => ∃ m, R st x m ∧ 0 < st.1.length ∧ ChainR R m l st'
def ListR {α : Type} (R : WS → α → WS → Prop) (st : WS) (l : List α) (st' : WS) : Prop := ∃ er m, NumR st (l.length : Int) er m ∧ ChainR R m l st' ∧ l.length ≤ 10000
theorem info_mem : (Tryz.prog.info? 35).map (fun i => (i.zero, i.size, i.bytes)) = some (some (.agg #[.int .i64 0, .int .i64 0, .int .u8 0, .int .i64 0]), 4, 32) := by kernel_rfl
theorem info_tick : (Tryz.prog.info? 27).map (fun i => (i.zero, i.size, i.bytes)) = some (some (.agg #[.int .i64 0, .int .i64 0, .int .i64 0]), 3, 24) := by kernel_rfl
theorem eg_v1 : ∀ args w, (callFunc 48 args).run Tryz.prog w = .ok (.enter 48 args) w := enters_of Tryz.func48 (by kernel_rfl) rfl
theorem eg_v2 : ∀ args w, (callFunc 51 args).run Tryz.prog w = .ok (.enter 51 args) w := enters_of Tryz.func51 (by kernel_rfl) rfl
theorem eg_v3 : ∀ args w, (callFunc 53 args).run Tryz.prog w = .ok (.enter 53 args) w := enters_of Tryz.func53 (by kernel_rfl) rfl
theorem OwnRs.rerow {w : World} {base : Nat} {row row' : Option Nat} {L : List RowO} (h : OwnRs w base row L) (hr : row' = row ∨ ∃ g, row' = some g ∧ w.heap.size ≤ g) : OwnRs w base row' L :=
  ⟨h.sl, fun r hr2 g hg => ⟨(h.new r hr2 g hg).1, fun e => by
    rcases hr with rfl | ⟨g', e', hl⟩
    · exact (h.new r hr2 g hg).2 e
    · have := (h.sl r hr2).2.lt g hg
      rw [e'] at e; injection e with e; omega⟩, h.ap⟩
theorem grew_row {row : Option Nat} {A : Option Addr} {c : Nat} {w : World} {row' : Option Nat} {A' : Option Addr} {c' : Nat} {w' : World} (h : Grew row A c w row' A' c' w') : row' = row ∨ ∃ g, row' = some g ∧ w.heap.size ≤ g := by
  rcases h with ⟨e, _⟩ | ⟨_, g, e, hg⟩
  · exact .inl e
  · exact .inr ⟨g, e, hg⟩
def NewM (l : List Mem) (w0 : World) (v : Value) (w : World) : Prop := ∃ row A c, v = .slice A l.length c ∧ SlK w 35 4 row A l.length c (l.flatMap cMem) ∧ ∀ g, row = some g → w0.heap.size ≤ g
def NewT (l : List Tick) (w0 : World) (v : Value) (w : World) : Prop := ∃ row A c, v = .slice A l.length c ∧ SlK w 27 3 row A l.length c (l.flatMap cT) ∧ ∀ g, row = some g → w0.heap.size ≤ g
def NewR (l : List RowM) (w0 : World) (v : Value) (w : World) : Prop := ∃ row A c L, v = .slice A l.length c ∧ L.map (·.m) = l ∧ SlK w 37 4 row A l.length c ((L.map (·.v)).flatMap cRow) ∧ (∀ g, row = some g → w0.heap.size ≤ g) ∧ OwnRs w w0.heap.size row L
theorem one_mem (l : List Mem) : ∀ u ∈ l.flatMap cMem, u.oneCell' = true := by
  intro u hu
  obtain ⟨x, _, hx⟩ := List.mem_flatMap.1 hu
  simp at hx
  rcases hx with rfl | rfl | rfl | rfl <;> rfl
theorem one_tick (l : List Tick) : ∀ u ∈ l.flatMap cT, u.oneCell' = true := by
  intro u hu
  obtain ⟨x, _, hx⟩ := List.mem_flatMap.1 hu
  simp at hx
  rcases hx with rfl | rfl | rfl <;> rfl
theorem OwnRs.rerow2 {w w' : World} {base : Nat} {row row' : Option Nat} {L : List RowO} (h : OwnRs w' base row L) (hr : row' = row ∨ ∃ g, row' = some g ∧ w.heap.size ≤ g) (h0 : OwnRs w base row L) : OwnRs w' base row' L :=
  ⟨h.sl, fun r hr2 g hg => ⟨(h.new r hr2 g hg).1, fun e => by
    rcases hr with rfl | ⟨g', e', hl⟩
    · exact (h.new r hr2 g hg).2 e
    · have := (h0.sl r hr2).2.lt g hg
      rw [e'] at e; injection e with e; omega⟩, h.ap⟩
set_option maxHeartbeats 4000000 in
theorem list_mem (Bq B : Nat) (st st' : WS) (l : List Mem) (w : World) (hq : Blk w Bq 73 #[.pointer (some ⟨B, 0, none⟩)]) (h : Rdr w B st) (hn : ListR MemR st l st') :
    Calls Tryz.prog 47 #[rdV B, .func (.func 48) #[] #[.pointer (some ⟨Bq, 0, none⟩)]] w (Reads B (NewM l w) st' w) := by
  obtain ⟨er, m0, hnum, hch, hlen⟩ := hn
  obtain ⟨W1, hW1⟩ : ∃ W1, w.alloc (.cells #[.pointer (some ⟨B, 0, none⟩)] 73) = W1 := ⟨_, rfl⟩
  have hb : Blk W1 w.heap.size 73 #[.pointer (some ⟨B, 0, none⟩)] := by rw [← hW1]; exact Blk.new _ _ _
  have hk1 : Keep (fun _ => False) w W1 := by rw [← hW1]; exact (Keep.refl _ w).alloc _
  have hBl := Blk.lt h
  have hQl := hq.lt
  have HNb := Lib.hid (show ¬ B = w.heap.size by omega)
  have HNq := Lib.hid (show ¬ B = Bq from fun e => (Blk.ne_ h hq (by decide)) e)
  have HB := Lib.hid hb
  have HQ := Lib.hid (hq.keep hk1 (fun h => h))
  have HK := Lib.hid (hk1.one (B := B))
  have HR : Hid (Rdr W1 B st) := Lib.hid (Blk.keep h hk1 (fun h => h))
  have HNum := Lib.hid hnum
  have HCh := Lib.hid hch
  have eg := eg_v1
  obtain ⟨i0, hi, hz0, hz1, hz2⟩ := info_parts info_mem
  have HI := Lib.hid hi
  have HZ0 := Lib.hid hz0
  have HZ1 := Lib.hid hz1
  have HZ2 := Lib.hid hz2
  have c0 := hb.cell 0
  simp at c0
  clear hb hk1 hq h hnum hch hi hz0 hz1 hz2
  go_enter Tryz.func47, Tryz.ntmps47
  go_wp2_with fail
  refine (fnum_any B st m0 _ er _ HR.out HNum.out).mono ?_
  rintro e W2 ⟨u, rfl, rfl, h1, h2⟩
  have HR2 := Lib.hid h1
  have HB2 := Lib.hid (HB.out.keep h2 HNb.out)
  have HQ2 := Lib.hid (HQ.out.keep h2 HNq.out)
  have HK2 := Lib.hid (HK.out.one_trans h2)
  clear h1 h2 c0
  go_wp2
  go_loopw [5, 6] (fun lv nv wr => ∃ (j : Nat) (A : Option Addr) (c : Nat) (row : Option Nat) (cur : WS), j ≤ l.length ∧ lv = .slice A j c ∧ nv = .int .i64 ((l.length - j : Nat) : Int) ∧ Hid (SlK wr 35 4 row A j c ((l.take j).flatMap cMem)) ∧ Hid (∀ g, row = some g → w.heap.size < g) ∧ Hid (Rdr wr B cur) ∧ Hid (ChainR MemR cur (l.drop j) st') ∧ Hid (Blk wr w.heap.size 73 #[.pointer (some ⟨B, 0, none⟩)]) ∧ Hid (Blk wr Bq 73 #[.pointer (some ⟨B, 0, none⟩)]) ∧ Hid (Keep (fun q => B = q) w wr)) (fun _ nv _ => (intOf nv).toNat)
  case atStart => exact ⟨0, none, 0, none, m0, by omega, rfl, by simp, Lib.hid (by simpa using SlK.nil_ _ _ _), Lib.hid (fun g h => by cases h), HR2, Lib.hid HCh.out, HB2, HQ2, HK2⟩
  case round =>
    obtain ⟨j, A, c, row, cur, hj, rfl, rfl, HS, HRow, HRd, HC, HBx, HQx, HK⟩ := hrel
    have c0 := HBx.out.cell 0
    simp at c0
    by_cases hlt : j < l.length
    · obtain ⟨n, hn⟩ : ∃ n, l.length - j = n + 1 := ⟨l.length - j - 1, by omega⟩
      rw [hn]
      have q2 : (0 : Int) < ((n + 1 : Nat) : Int) := by omega
      have q3 : IntKind.i64.wrap (((n + 1 : Nat) : Int) - 1) = (n : Int) := by rw [IntWalk.i64_in _ (by omega)]; omega
      have hd : l.drop j = l.getD j zeroMem :: l.drop (j + 1) := by rw [List.drop_eq_getElem_cons hlt]; simp [List.getD, hlt]
      have hch := HC.out
      rw [hd] at hch
      obtain ⟨m1, hR1, hpos, hch1⟩ := hch
      have HX1 := Lib.hid hR1
      have HCh1 := Lib.hid hch1
      have q4 : (0 : Int) < (cur.1.length : Int) := by omega
      have HTk := Lib.hid (show (l.take (j + 1)).flatMap cMem = (l.take j).flatMap cMem ++ cMem (l.getD j zeroMem) by rw [List.take_succ_eq_append_getElem hlt, List.flatMap_append]; simp [List.getD, hlt])
      clear hd hR1 hch1 hpos
      generalize l.getD j zeroMem = x at *
      go_wp2_with fail
      refine (rLeft_any B cur _ HRd.out).mono ?_
      rintro e W3 ⟨rfl, hk3⟩
      have HR3 : Hid (Rdr W3 B cur) := Lib.hid (Blk.keep HRd.out hk3 (fun h => h))
      have HB3 := Lib.hid (HBx.out.keep hk3 (fun h => h))
      have HQ3 := Lib.hid (HQx.out.keep hk3 (fun h => h))
      have HK3 := Lib.hid (HK.out.one_trans hk3.one)
      have HS3 := Lib.hid (HS.out.keep hk3 (fun _ _ h => h))
      skip
      clear hk3 c0
      go_wp2_with fail
      refine (view1_any Bq B x cur m1 _ HQ3.out HR3.out HX1.out).mono ?_
      rintro e W4 ⟨u, rfl, rfl, h1, h2⟩
      obtain ⟨xa, xi, xs, xn⟩ := x
      have hwl := HK3.out.size
      have hne : ∀ g, row = some g → ¬ B = g := fun g hg => by have := HRow.out g hg; omega
      obtain ⟨W5, hW5⟩ : ∃ W5, W4.alloc (.cells #[.int .i64 xa, .int .i64 xi, .int .u8 xs, .int .i64 xn] 35) = W5 := ⟨_, rfl⟩
      have hb5 : Blk W5 W4.heap.size 35 #[.int .i64 xa, .int .i64 xi, .int .u8 xs, .int .i64 xn] := by rw [← hW5]; exact Blk.new _ _ _
      have hk5 : Keep (fun _ => False) W4 W5 := by rw [← hW5]; exact (Keep.refl _ W4).alloc _
      have HS5 := Lib.hid ((HS3.out.keep h2 (fun g hg => hne g hg)).keep hk5 (fun _ _ h => h))
      have HB5 := Lib.hid hb5
      have HR5 : Hid (Rdr W5 B m1) := Lib.hid (Blk.keep h1 hk5 (fun h => h))
      have HBx5 := Lib.hid ((HB3.out.keep h2 HNb.out).keep hk5 (fun h => h))
      have HQx5 := Lib.hid ((HQ3.out.keep h2 HNq.out).keep hk5 (fun h => h))
      have HK5 := Lib.hid ((HK3.out.one_trans h2).one_trans hk5.one)
      have HSz5 := Lib.hid (show w.heap.size < W5.heap.size from HBx5.out.lt)
      skip
      clear h1 h2 hb5 hk5
      go_wp2_with (at_builtin; go_loud (refine wpList_append_slK rfl _ _ _ rfl i0 _ 32 Tryz.underlying30 HI.out HZ0.out HZ1.out HZ2.out rfl (by decide) HS5.out rfl rfl (RdK.of_blk HB5.out 1 4 rfl) (one_mem [⟨xa, xi, xs, xn⟩]) (by unfold maxLen; omega) (by omega) ?_; intro row' A' c' w' hs2 hg2; have HS7 := Lib.hid hs2; have HG7 := Lib.hid hg2; clear hs2 hg2))
      have hg := HG7.out.resolve_left (fun h => by have := h.1; omega)
      have hr7 : ∀ g, row' = some g → w.heap.size < g := fun g hgg => by
        rcases grew_row hg with e | ⟨g', e, hl⟩
        · exact HRow.out g (by rw [← e]; exact hgg)
        · rw [hgg] at e; injection e with e; have := HSz5.out; omega
      have HR7 : Hid (Rdr w' B m1) := Lib.hid (Blk.keep HR5.out hg.keep (fun e => by have := HRow.out B e; omega))
      have HBx7 := Lib.hid (HBx5.out.keep hg.keep (fun e => by have := HRow.out _ e; omega))
      have HQx7 := Lib.hid (HQx5.out.keep hg.keep (fun e => by have := HRow.out _ e; omega))
      have HK7 := Lib.hid (HK5.out.trans (hg.keep.mono fun q _ e => .inr (by have := HRow.out q e; omega)))
      have HRow7 := Lib.hid hr7
      skip
      clear hg hr7
      go_wp2
      go_roundw
      case rel => exact ⟨j + 1, A', c', row', m1, by omega, rfl, by congr 1; omega, Lib.hid (by rw [HTk.out]; exact HS7.out), HRow7, HR7, HCh1, HBx7, HQx7, HK7⟩
      case measure => simp [intOf]
    · obtain rfl : j = l.length := by omega
      have q2 : ¬ (0 : Int) < ((l.length - l.length : Nat) : Int) := by omega
      have q3 : ((l.length - l.length : Nat) : Int) = 0 := by omega
      have hc := HC.out
      rw [List.drop_length] at hc
      have hc2 : cur = st' := hc
      have HE := Lib.hid hc2
      clear hc hc2 c0
      go_wp2
      go_ret
      exact ⟨_, rfl, ⟨row, A, c, rfl, by have := HS.out; rwa [List.take_length] at this, fun g hg => Nat.le_of_lt (HRow.out g hg)⟩, by rw [← HE.out]; exact HRd.out, HK.out⟩
set_option maxHeartbeats 4000000 in
theorem list_tick (Bq B : Nat) (st st' : WS) (l : List Tick) (w : World) (hq : Blk w Bq 73 #[.pointer (some ⟨B, 0, none⟩)]) (h : Rdr w B st) (hn : ListR TickR st l st') :
    Calls Tryz.prog 52 #[rdV B, .func (.func 53) #[] #[.pointer (some ⟨Bq, 0, none⟩)]] w (Reads B (NewT l w) st' w) := by
  obtain ⟨er, m0, hnum, hch, hlen⟩ := hn
  obtain ⟨W1, hW1⟩ : ∃ W1, w.alloc (.cells #[.pointer (some ⟨B, 0, none⟩)] 73) = W1 := ⟨_, rfl⟩
  have hb : Blk W1 w.heap.size 73 #[.pointer (some ⟨B, 0, none⟩)] := by rw [← hW1]; exact Blk.new _ _ _
  have hk1 : Keep (fun _ => False) w W1 := by rw [← hW1]; exact (Keep.refl _ w).alloc _
  have hBl := Blk.lt h
  have hQl := hq.lt
  have HNb := Lib.hid (show ¬ B = w.heap.size by omega)
  have HNq := Lib.hid (show ¬ B = Bq from fun e => (Blk.ne_ h hq (by decide)) e)
  have HB := Lib.hid hb
  have HQ := Lib.hid (hq.keep hk1 (fun h => h))
  have HK := Lib.hid (hk1.one (B := B))
  have HR : Hid (Rdr W1 B st) := Lib.hid (Blk.keep h hk1 (fun h => h))
  have HNum := Lib.hid hnum
  have HCh := Lib.hid hch
  have eg := eg_v3
  obtain ⟨i0, hi, hz0, hz1, hz2⟩ := info_parts info_tick
  have HI := Lib.hid hi
  have HZ0 := Lib.hid hz0
  have HZ1 := Lib.hid hz1
  have HZ2 := Lib.hid hz2
  have c0 := hb.cell 0
  simp at c0
  clear hb hk1 hq h hnum hch hi hz0 hz1 hz2
  go_enter Tryz.func52, Tryz.ntmps52
  go_wp2_with fail
  refine (fnum_any B st m0 _ er _ HR.out HNum.out).mono ?_
  rintro e W2 ⟨u, rfl, rfl, h1, h2⟩
  have HR2 := Lib.hid h1
  have HB2 := Lib.hid (HB.out.keep h2 HNb.out)
  have HQ2 := Lib.hid (HQ.out.keep h2 HNq.out)
  have HK2 := Lib.hid (HK.out.one_trans h2)
  clear h1 h2 c0
  go_wp2
  go_loopw [5, 6] (fun lv nv wr => ∃ (j : Nat) (A : Option Addr) (c : Nat) (row : Option Nat) (cur : WS), j ≤ l.length ∧ lv = .slice A j c ∧ nv = .int .i64 ((l.length - j : Nat) : Int) ∧ Hid (SlK wr 27 3 row A j c ((l.take j).flatMap cT)) ∧ Hid (∀ g, row = some g → w.heap.size < g) ∧ Hid (Rdr wr B cur) ∧ Hid (ChainR TickR cur (l.drop j) st') ∧ Hid (Blk wr w.heap.size 73 #[.pointer (some ⟨B, 0, none⟩)]) ∧ Hid (Blk wr Bq 73 #[.pointer (some ⟨B, 0, none⟩)]) ∧ Hid (Keep (fun q => B = q) w wr)) (fun _ nv _ => (intOf nv).toNat)
  case atStart => exact ⟨0, none, 0, none, m0, by omega, rfl, by simp, Lib.hid (by simpa using SlK.nil_ _ _ _), Lib.hid (fun g h => by cases h), HR2, Lib.hid HCh.out, HB2, HQ2, HK2⟩
  case round =>
    obtain ⟨j, A, c, row, cur, hj, rfl, rfl, HS, HRow, HRd, HC, HBx, HQx, HK⟩ := hrel
    have c0 := HBx.out.cell 0
    simp at c0
    by_cases hlt : j < l.length
    · obtain ⟨n, hn⟩ : ∃ n, l.length - j = n + 1 := ⟨l.length - j - 1, by omega⟩
      rw [hn]
      have q2 : (0 : Int) < ((n + 1 : Nat) : Int) := by omega
      have q3 : IntKind.i64.wrap (((n + 1 : Nat) : Int) - 1) = (n : Int) := by rw [IntWalk.i64_in _ (by omega)]; omega
      have hd : l.drop j = l.getD j tick0 :: l.drop (j + 1) := by rw [List.drop_eq_getElem_cons hlt]; simp [List.getD, hlt]
      have hch := HC.out
      rw [hd] at hch
      obtain ⟨m1, hR1, hpos, hch1⟩ := hch
      have HX1 := Lib.hid hR1
      have HCh1 := Lib.hid hch1
      have q4 : (0 : Int) < (cur.1.length : Int) := by omega
      have HTk := Lib.hid (show (l.take (j + 1)).flatMap cT = (l.take j).flatMap cT ++ cT (l.getD j tick0) by rw [List.take_succ_eq_append_getElem hlt, List.flatMap_append]; simp [List.getD, hlt])
      clear hd hR1 hch1 hpos
      generalize l.getD j tick0 = x at *
      go_wp2_with fail
      refine (rLeft_any B cur _ HRd.out).mono ?_
      rintro e W3 ⟨rfl, hk3⟩
      have HR3 : Hid (Rdr W3 B cur) := Lib.hid (Blk.keep HRd.out hk3 (fun h => h))
      have HB3 := Lib.hid (HBx.out.keep hk3 (fun h => h))
      have HQ3 := Lib.hid (HQx.out.keep hk3 (fun h => h))
      have HK3 := Lib.hid (HK.out.one_trans hk3.one)
      have HS3 := Lib.hid (HS.out.keep hk3 (fun _ _ h => h))
      skip
      clear hk3 c0
      go_wp2_with fail
      refine (view3_any Bq B x cur m1 _ HQ3.out HR3.out HX1.out).mono ?_
      rintro e W4 ⟨u, rfl, rfl, h1, h2⟩
      obtain ⟨⟨xa, xi⟩, xn⟩ := x
      have hwl := HK3.out.size
      have hne : ∀ g, row = some g → ¬ B = g := fun g hg => by have := HRow.out g hg; omega
      obtain ⟨W5, hW5⟩ : ∃ W5, W4.alloc (.cells #[.int .i64 xa, .int .i64 xi, .int .i64 xn] 27) = W5 := ⟨_, rfl⟩
      have hb5 : Blk W5 W4.heap.size 27 #[.int .i64 xa, .int .i64 xi, .int .i64 xn] := by rw [← hW5]; exact Blk.new _ _ _
      have hk5 : Keep (fun _ => False) W4 W5 := by rw [← hW5]; exact (Keep.refl _ W4).alloc _
      have HS5 := Lib.hid ((HS3.out.keep h2 (fun g hg => hne g hg)).keep hk5 (fun _ _ h => h))
      have HB5 := Lib.hid hb5
      have HR5 : Hid (Rdr W5 B m1) := Lib.hid (Blk.keep h1 hk5 (fun h => h))
      have HBx5 := Lib.hid ((HB3.out.keep h2 HNb.out).keep hk5 (fun h => h))
      have HQx5 := Lib.hid ((HQ3.out.keep h2 HNq.out).keep hk5 (fun h => h))
      have HK5 := Lib.hid ((HK3.out.one_trans h2).one_trans hk5.one)
      have HSz5 := Lib.hid (show w.heap.size < W5.heap.size from HBx5.out.lt)
      skip
      clear h1 h2 hb5 hk5
      go_wp2_with (at_builtin; go_loud (refine wpList_append_slK rfl _ _ _ rfl i0 _ 24 Tryz.underlying28 HI.out HZ0.out HZ1.out HZ2.out rfl (by decide) HS5.out rfl rfl (RdK.of_blk HB5.out 1 3 rfl) (one_tick [((xa, xi), xn)]) (by unfold maxLen; omega) (by omega) ?_; intro row' A' c' w' hs2 hg2; have HS7 := Lib.hid hs2; have HG7 := Lib.hid hg2; clear hs2 hg2))
      have hg := HG7.out.resolve_left (fun h => by have := h.1; omega)
      have hr7 : ∀ g, row' = some g → w.heap.size < g := fun g hgg => by
        rcases grew_row hg with e | ⟨g', e, hl⟩
        · exact HRow.out g (by rw [← e]; exact hgg)
        · rw [hgg] at e; injection e with e; have := HSz5.out; omega
      have HR7 : Hid (Rdr w' B m1) := Lib.hid (Blk.keep HR5.out hg.keep (fun e => by have := HRow.out B e; omega))
      have HBx7 := Lib.hid (HBx5.out.keep hg.keep (fun e => by have := HRow.out _ e; omega))
      have HQx7 := Lib.hid (HQx5.out.keep hg.keep (fun e => by have := HRow.out _ e; omega))
      have HK7 := Lib.hid (HK5.out.trans (hg.keep.mono fun q _ e => .inr (by have := HRow.out q e; omega)))
      have HRow7 := Lib.hid hr7
      skip
      clear hg hr7
      go_wp2
      go_roundw
      case rel => exact ⟨j + 1, A', c', row', m1, by omega, rfl, by congr 1; omega, Lib.hid (by rw [HTk.out]; exact HS7.out), HRow7, HR7, HCh1, HBx7, HQx7, HK7⟩
      case measure => simp [intOf]
    · obtain rfl : j = l.length := by omega
      have q2 : ¬ (0 : Int) < ((l.length - l.length : Nat) : Int) := by omega
      have q3 : ((l.length - l.length : Nat) : Int) = 0 := by omega
      have hc := HC.out
      rw [List.drop_length] at hc
      have hc2 : cur = st' := hc
      have HE := Lib.hid hc2
      clear hc hc2 c0
      go_wp2
      go_ret
      exact ⟨_, rfl, ⟨row, A, c, rfl, by have := HS.out; rwa [List.take_length] at this, fun g hg => Nat.le_of_lt (HRow.out g hg)⟩, by rw [← HE.out]; exact HRd.out, HK.out⟩
set_option maxHeartbeats 4000000 in
theorem list_row (Bq B : Nat) (st st' : WS) (l : List RowM) (w : World) (hq : Blk w Bq 73 #[.pointer (some ⟨B, 0, none⟩)]) (h : Rdr w B st) (hn : ListR RowR st l st') :
    Calls Tryz.prog 50 #[rdV B, .func (.func 51) #[] #[.pointer (some ⟨Bq, 0, none⟩)]] w (Reads B (NewR l w) st' w) := by
  obtain ⟨er, m0, hnum, hch, hlen⟩ := hn
  obtain ⟨W1, hW1⟩ : ∃ W1, w.alloc (.cells #[.pointer (some ⟨B, 0, none⟩)] 73) = W1 := ⟨_, rfl⟩
  have hb : Blk W1 w.heap.size 73 #[.pointer (some ⟨B, 0, none⟩)] := by rw [← hW1]; exact Blk.new _ _ _
  have hk1 : Keep (fun _ => False) w W1 := by rw [← hW1]; exact (Keep.refl _ w).alloc _
  have hBl := Blk.lt h
  have hQl := hq.lt
  have HNb := Lib.hid (show ¬ B = w.heap.size by omega)
  have HNq := Lib.hid (show ¬ B = Bq from fun e => (Blk.ne_ h hq (by decide)) e)
  have HB := Lib.hid hb
  have HQ := Lib.hid (hq.keep hk1 (fun h => h))
  have HK := Lib.hid (hk1.one (B := B))
  have HR : Hid (Rdr W1 B st) := Lib.hid (Blk.keep h hk1 (fun h => h))
  have HNum := Lib.hid hnum
  have HCh := Lib.hid hch
  have eg := eg_v2
  obtain ⟨i0, hi, hz0, hz1, hz2⟩ := info_parts info_row
  have HI := Lib.hid hi
  have HZ0 := Lib.hid hz0
  have HZ1 := Lib.hid hz1
  have HZ2 := Lib.hid hz2
  have c0 := hb.cell 0
  simp at c0
  clear hb hk1 hq h hnum hch hi hz0 hz1 hz2
  go_enter Tryz.func50, Tryz.ntmps50
  go_wp2_with fail
  refine (fnum_any B st m0 _ er _ HR.out HNum.out).mono ?_
  rintro e W2 ⟨u, rfl, rfl, h1, h2⟩
  have HR2 := Lib.hid h1
  have HB2 := Lib.hid (HB.out.keep h2 HNb.out)
  have HQ2 := Lib.hid (HQ.out.keep h2 HNq.out)
  have HK2 := Lib.hid (HK.out.one_trans h2)
  clear h1 h2 c0
  go_wp2
  go_loopw [5, 6] (fun lv nv wr => ∃ (j : Nat) (A : Option Addr) (c : Nat) (row : Option Nat) (cur : WS) (L : List RowO), j ≤ l.length ∧ lv = .slice A j c ∧ nv = .int .i64 ((l.length - j : Nat) : Int) ∧ Hid (SlK wr 37 4 row A j c ((L.map (·.v)).flatMap cRow)) ∧ Hid (∀ g, row = some g → w.heap.size < g) ∧ Hid (Rdr wr B cur) ∧ Hid (ChainR RowR cur (l.drop j) st') ∧ Hid (Blk wr w.heap.size 73 #[.pointer (some ⟨B, 0, none⟩)]) ∧ Hid (Blk wr Bq 73 #[.pointer (some ⟨B, 0, none⟩)]) ∧ Hid (Keep (fun q => B = q) w wr) ∧ Hid (L.map (·.m) = l.take j) ∧ Hid (OwnRs wr w.heap.size row L)) (fun _ nv _ => (intOf nv).toNat)
  case atStart => exact ⟨0, none, 0, none, m0, [], by omega, rfl, by simp, Lib.hid (by simpa using SlK.nil_ _ _ _), Lib.hid (fun g h => by cases h), HR2, Lib.hid HCh.out, HB2, HQ2, HK2, Lib.hid rfl, Lib.hid ⟨fun _ h => (by cases h), fun _ h => (by cases h), List.Pairwise.nil⟩⟩
  case round =>
    obtain ⟨j, A, c, row, cur, L, hj, rfl, rfl, HS, HRow, HRd, HC, HBx, HQx, HK, HM, HO⟩ := hrel
    have c0 := HBx.out.cell 0
    simp at c0
    by_cases hlt : j < l.length
    · obtain ⟨n, hn⟩ : ∃ n, l.length - j = n + 1 := ⟨l.length - j - 1, by omega⟩
      rw [hn]
      have q2 : (0 : Int) < ((n + 1 : Nat) : Int) := by omega
      have q3 : IntKind.i64.wrap (((n + 1 : Nat) : Int) - 1) = (n : Int) := by rw [IntWalk.i64_in _ (by omega)]; omega
      have hd : l.drop j = l.getD j row0 :: l.drop (j + 1) := by rw [List.drop_eq_getElem_cons hlt]; simp [List.getD, hlt]
      have hch := HC.out
      rw [hd] at hch
      obtain ⟨m1, hR1, hpos, hch1⟩ := hch
      have HX1 := Lib.hid hR1
      have HCh1 := Lib.hid hch1
      have q4 : (0 : Int) < (cur.1.length : Int) := by omega
      have HTk := Lib.hid (show l.take (j + 1) = l.take j ++ [l.getD j row0] by rw [List.take_succ_eq_append_getElem hlt]; simp [List.getD, hlt])
      clear hd hR1 hch1 hpos
      generalize l.getD j row0 = x at *
      go_wp2_with fail
      refine (rLeft_any B cur _ HRd.out).mono ?_
      rintro e W3 ⟨rfl, hk3⟩
      have HR3 : Hid (Rdr W3 B cur) := Lib.hid (Blk.keep HRd.out hk3 (fun h => h))
      have HB3 := Lib.hid (HBx.out.keep hk3 (fun h => h))
      have HQ3 := Lib.hid (HQx.out.keep hk3 (fun h => h))
      have HK3 := Lib.hid (HK.out.one_trans hk3.one)
      have HS3 := Lib.hid (HS.out.keep hk3 (fun _ _ h => h))
      have HO3 := Lib.hid (HO.out.keep0 hk3)
      clear hk3 c0
      go_wp2_with fail
      refine (view2_any Bq B x cur m1 _ HQ3.out HR3.out HX1.out).mono ?_
      rintro e W4 ⟨u, rfl, ⟨b, An, cn, rfl, k1, k2⟩, h1, h2⟩
      obtain ⟨⟨xa, xi⟩, xv, xno⟩ := x
      have hwl := HK3.out.size
      have hne : ∀ g, row = some g → ¬ B = g := fun g hg => by have := HRow.out g hg; omega
      obtain ⟨W5, hW5⟩ : ∃ W5, W4.alloc (.cells #[.int .i64 xa, .int .i64 xi, .int .i64 xv, .slice An xno.length cn] 37) = W5 := ⟨_, rfl⟩
      have hb5 : Blk W5 W4.heap.size 37 #[.int .i64 xa, .int .i64 xi, .int .i64 xv, .slice An xno.length cn] := by rw [← hW5]; exact Blk.new _ _ _
      have hk5 : Keep (fun _ => False) W4 W5 := by rw [← hW5]; exact (Keep.refl _ W4).alloc _
      have HS5 := Lib.hid ((HS3.out.keep h2 (fun g hg => hne g hg)).keep hk5 (fun _ _ h => h))
      have HB5 := Lib.hid hb5
      have HR5 : Hid (Rdr W5 B m1) := Lib.hid (Blk.keep h1 hk5 (fun h => h))
      have HBx5 := Lib.hid ((HB3.out.keep h2 HNb.out).keep hk5 (fun h => h))
      have HQx5 := Lib.hid ((HQ3.out.keep h2 HNq.out).keep hk5 (fun h => h))
      have HK5 := Lib.hid ((HK3.out.one_trans h2).one_trans hk5.one)
      have HSz5 := Lib.hid (show w.heap.size < W5.heap.size from HBx5.out.lt)
      have HO5 := Lib.hid (OwnRs.snoc (r := ⟨⟨(xa, xi), xv, An, xno.length, cn⟩, xno, b⟩) ((HO3.out.keep h2 (fun r hr g hg e => by have := (HO3.out.new r hr g hg).1; omega)).keep0 hk5) rfl (k1.keep hk5 (fun _ _ h => h)) (fun g hg => ⟨by have := k2 g hg; have := HB3.out.lt; omega, fun e => by have h3 := HS3.out.lt g e; have := k2 g hg; omega⟩) (fun y hy g hg e => by have h3 := HO3.out.lt y hy g hg; have := k2 g e; omega))
      clear h1 h2 hb5 hk5
      go_wp2_with (at_builtin; go_loud (refine wpList_append_slK rfl _ _ _ rfl i0 _ 48 Tryz.underlying31 HI.out HZ0.out HZ1.out HZ2.out rfl (by decide) HS5.out rfl rfl (RdK.of_blk HB5.out 1 4 rfl) (one_row [⟨(xa, xi), xv, An, xno.length, cn⟩]) (by unfold maxLen; omega) (by omega) ?_; intro row' A' c' w' hs2 hg2; have HS7 := Lib.hid hs2; have HG7 := Lib.hid hg2; clear hs2 hg2))
      have hg := HG7.out.resolve_left (fun h => by have := h.1; omega)
      have hr7 : ∀ g, row' = some g → w.heap.size < g := fun g hgg => by
        rcases grew_row hg with e | ⟨g', e, hl⟩
        · exact HRow.out g (by rw [← e]; exact hgg)
        · rw [hgg] at e; injection e with e; have := HSz5.out; omega
      have HR7 : Hid (Rdr w' B m1) := Lib.hid (Blk.keep HR5.out hg.keep (fun e => by have := HRow.out B e; omega))
      have HBx7 := Lib.hid (HBx5.out.keep hg.keep (fun e => by have := HRow.out _ e; omega))
      have HQx7 := Lib.hid (HQx5.out.keep hg.keep (fun e => by have := HRow.out _ e; omega))
      have HK7 := Lib.hid (HK5.out.trans (hg.keep.mono fun q _ e => .inr (by have := HRow.out q e; omega)))
      have HRow7 := Lib.hid hr7
      have HO7 := Lib.hid ((HO5.out.keep hg.keep (fun r hr g hgg e => (HO5.out.new r hr g hgg).2 e)).rerow2 (grew_row hg) HO5.out)
      clear hg hr7
      go_wp2
      go_roundw
      case rel => exact ⟨j + 1, A', c', row', m1, L ++ [⟨⟨(xa, xi), xv, An, xno.length, cn⟩, xno, b⟩], by omega, rfl, by congr 1; omega, Lib.hid (by rw [List.map_append, List.flatMap_append]; exact HS7.out), HRow7, HR7, HCh1, HBx7, HQx7, HK7, Lib.hid (by rw [List.map_append, HM.out, HTk.out]; rfl), HO7⟩
      case measure => simp [intOf]
    · obtain rfl : j = l.length := by omega
      have q2 : ¬ (0 : Int) < ((l.length - l.length : Nat) : Int) := by omega
      have q3 : ((l.length - l.length : Nat) : Int) = 0 := by omega
      have hc := HC.out
      rw [List.drop_length] at hc
      have hc2 : cur = st' := hc
      have HE := Lib.hid hc2
      clear hc hc2 c0
      go_wp2
      go_ret
      exact ⟨_, rfl, ⟨row, A, c, L, rfl, by rw [HM.out, List.take_length], HS.out, fun g hg => Nat.le_of_lt (HRow.out g hg), HO.out⟩, by rw [← HE.out]; exact HRd.out, HK.out⟩
end Go.Proofs.YtgoldgamjogadaaGreat

namespace Go.Proofs.YtgoldgamjogadaaGreat
open Go.RowKit Go
set_option maxRecDepth 100000
attribute [local go_sem] bs_toList bs_size bs_get

theorem NewL.keep {l : List ID} {w0 w w' : World} {v : Value} {S : Nat → Prop} (h : NewL l w0 v w) (hk : Keep S w w') (hS : ∀ g, w0.heap.size ≤ g → ¬ S g) : NewL l w0 v w' := by
  obtain ⟨row, A, c, e, hs, hr⟩ := h
  exact ⟨row, A, c, e, hs.keep hk (fun g hg => hS g (hr g hg)), hr⟩
theorem NewM.keep {l : List Mem} {w0 w w' : World} {v : Value} {S : Nat → Prop} (h : NewM l w0 v w) (hk : Keep S w w') (hS : ∀ g, w0.heap.size ≤ g → ¬ S g) : NewM l w0 v w' := by
  obtain ⟨row, A, c, e, hs, hr⟩ := h
  exact ⟨row, A, c, e, hs.keep hk (fun g hg => hS g (hr g hg)), hr⟩
theorem NewT.keep {l : List Tick} {w0 w w' : World} {v : Value} {S : Nat → Prop} (h : NewT l w0 v w) (hk : Keep S w w') (hS : ∀ g, w0.heap.size ≤ g → ¬ S g) : NewT l w0 v w' := by
  obtain ⟨row, A, c, e, hs, hr⟩ := h
  exact ⟨row, A, c, e, hs.keep hk (fun g hg => hS g (hr g hg)), hr⟩
theorem NewR.keep {l : List RowM} {w0 w w' : World} {v : Value} {S : Nat → Prop} (h : NewR l w0 v w) (hk : Keep S w w') (hS : ∀ g, w0.heap.size ≤ g → ¬ S g) : NewR l w0 v w' := by
  obtain ⟨row, A, c, L, e, hm, hs, hr, ho⟩ := h
  exact ⟨row, A, c, L, e, hm, hs.keep hk (fun g hg => hS g (hr g hg)), hr, ho.keep hk (fun r hr2 g hg => hS g (ho.new r hr2 g hg).1)⟩
theorem NewL.base {l : List ID} {w0 w1 w : World} {v : Value} (h : NewL l w1 v w) (hb : w0.heap.size ≤ w1.heap.size) : NewL l w0 v w := by
  obtain ⟨row, A, c, e, hs, hr⟩ := h
  exact ⟨row, A, c, e, hs, fun g hg => Nat.le_trans hb (hr g hg)⟩
theorem NewM.base {l : List Mem} {w0 w1 w : World} {v : Value} (h : NewM l w1 v w) (hb : w0.heap.size ≤ w1.heap.size) : NewM l w0 v w := by
  obtain ⟨row, A, c, e, hs, hr⟩ := h
  exact ⟨row, A, c, e, hs, fun g hg => Nat.le_trans hb (hr g hg)⟩
theorem NewT.base {l : List Tick} {w0 w1 w : World} {v : Value} (h : NewT l w1 v w) (hb : w0.heap.size ≤ w1.heap.size) : NewT l w0 v w := by
  obtain ⟨row, A, c, e, hs, hr⟩ := h
  exact ⟨row, A, c, e, hs, fun g hg => Nat.le_trans hb (hr g hg)⟩
theorem NewR.base {l : List RowM} {w0 w1 w : World} {v : Value} (h : NewR l w1 v w) (hb : w0.heap.size ≤ w1.heap.size) : NewR l w0 v w := by
  obtain ⟨row, A, c, L, e, hm, hs, hr, ho⟩ := h
  exact ⟨row, A, c, L, e, hm, hs, fun g hg => Nat.le_trans hb (hr g hg), ⟨ho.sl, fun r hr2 g hg => ⟨Nat.le_trans hb (ho.new r hr2 g hg).1, (ho.new r hr2 g hg).2⟩, ho.ap⟩⟩
theorem NewL.sl {l : List ID} {w0 w : World} {v : Value} (h : NewL l w0 v w) : ∃ A n c, v = .slice A n c := by obtain ⟨_, A, c, e, _⟩ := h; exact ⟨A, _, c, e⟩
theorem NewM.sl {l : List Mem} {w0 w : World} {v : Value} (h : NewM l w0 v w) : ∃ A n c, v = .slice A n c := by obtain ⟨_, A, c, e, _⟩ := h; exact ⟨A, _, c, e⟩
theorem NewT.sl {l : List Tick} {w0 w : World} {v : Value} (h : NewT l w0 v w) : ∃ A n c, v = .slice A n c := by obtain ⟨_, A, c, e, _⟩ := h; exact ⟨A, _, c, e⟩
theorem NewR.sl {l : List RowM} {w0 w : World} {v : Value} (h : NewR l w0 v w) : ∃ A n c, v = .slice A n c := by obtain ⟨_, A, c, _, e, _⟩ := h; exact ⟨A, _, c, e⟩
/-- a view in new memory -/
structure NewV (v : VwM) (w0 : World) (m f r c s : Value) (w : World) : Prop where
  mem : NewM v.mem w0 m w
  fl : NewL v.fl w0 f w
  rows : NewR v.rows w0 r w
  clk : NewT v.clk w0 c w
  seen : NewL v.seen w0 s w
theorem NewV.keep {v : VwM} {w0 w w' : World} {m f r c s : Value} {S : Nat → Prop} (h : NewV v w0 m f r c s w) (hk : Keep S w w') (hS : ∀ g, w0.heap.size ≤ g → ¬ S g) : NewV v w0 m f r c s w' :=
  ⟨h.mem.keep hk hS, h.fl.keep hk hS, h.rows.keep hk hS, h.clk.keep hk hS, h.seen.keep hk hS⟩
theorem NewV.isV {v : VwM} {w0 w : World} {m f r c s : Value} (h : NewV v w0 m f r c s w) (hst : ∀ x ∈ v.mem, 0 ≤ x.st ∧ x.st < 256) : IsV w m f r c s v := by
  obtain ⟨⟨_, A1, c1, rfl, s1, _⟩, ⟨_, A2, c2, rfl, s2, _⟩, ⟨_, A3, c3, L, rfl, hm, s3, _, ho⟩, ⟨_, A4, c4, rfl, s4, _⟩, ⟨_, A5, c5, rfl, s5, _⟩⟩ := h
  refine ⟨⟨A1, _, c1, rfl, rfl, s1.rd⟩, ⟨A2, _, c2, rfl, rfl, s2.rd⟩, ⟨A3, _, c3, rfl, ?_⟩, ⟨A4, _, c4, rfl, rfl, s4.rd⟩, ⟨A5, _, c5, rfl, rfl, s5.rd⟩, hst⟩
  have := ho.rd (A := A3) (n := v.rows.length) ⟨by rw [List.length_map, ← hm, List.length_map], s3.rd⟩
  rwa [hm] at this
def ViewR (st : WS) (v : VwM) (st' : WS) : Prop := ∃ m1 m2 m3 m4 e1 e2, ListR MemR st v.mem m1 ∧ IdsR m1 v.fl e1 m2 ∧ ListR RowR m2 v.rows m3 ∧ ListR TickR m3 v.clk m4 ∧ IdsR m4 v.seen e2 st'
set_option maxHeartbeats 8000000 in
theorem fview_any (B : Nat) (st st' : WS) (v : VwM) (w : World) (h : Rdr w B st) (hn : ViewR st v st') :
    Calls Tryz.prog 31 #[rdV B] w (Reads B (fun u w2 => ∃ m f r c s, u = .agg #[m, f, r, c, s] ∧ NewV v w m f r c s w2) st' w) := by
  obtain ⟨m1, m2, m3, m4, e1, e2, n1, n2, n3, n4, n5⟩ := hn
  obtain ⟨mem, fl, rows, clk, seen⟩ := v
  obtain ⟨W0, hW0⟩ : ∃ W0, w.alloc (.cells #[.pointer (some ⟨B, 0, none⟩)] 73) = W0 := ⟨_, rfl⟩
  have hb : Blk W0 w.heap.size 73 #[.pointer (some ⟨B, 0, none⟩)] := by rw [← hW0]; exact Blk.new _ _ _
  have hk0 : Keep (fun _ => False) w W0 := by rw [← hW0]; exact (Keep.refl _ w).alloc _
  obtain ⟨W1, hW1⟩ : ∃ W1, W0.alloc (.cells #[.slice none 0 0, .slice none 0 0, .slice none 0 0, .slice none 0 0, .slice none 0 0] 33) = W1 := ⟨_, rfl⟩
  have hbo : Blk W1 W0.heap.size 33 #[.slice none 0 0, .slice none 0 0, .slice none 0 0, .slice none 0 0, .slice none 0 0] := by rw [← hW1]; exact Blk.new _ _ _
  have hk1 : Keep (fun _ => False) W0 W1 := by rw [← hW1]; exact (Keep.refl _ W0).alloc _
  have hBl := Blk.lt h
  have HS0 := Lib.hid (show W0.heap.size = w.heap.size + 1 by rw [← hW0]; simp)
  have HS1 := Lib.hid (show W1.heap.size = w.heap.size + 2 by rw [← hW1]; simp; exact HS0.out)
  obtain ⟨Ro, hRo⟩ : ∃ r, W0.heap.size = r := ⟨_, rfl⟩
  rw [hRo] at hbo HS0
  have HNb := Lib.hid (show ¬ B = w.heap.size by omega)
  have HNo := Lib.hid (show ¬ B = Ro by have := HS0.out; omega)
  have HNq := Lib.hid (show ¬ Ro = w.heap.size by have := HS0.out; omega)
  have HBl := Lib.hid hBl
  have hq1 := hb.keep hk1 (fun h => h)
  have HQ := Lib.hid hq1
  have HO := Lib.hid hbo
  have HK := Lib.hid ((keep0_trans _ _ _ hk0 hk1).one (B := B))
  have HR : Hid (Rdr W1 B st) := Lib.hid (Blk.keep h (keep0_trans _ _ _ hk0 hk1) (fun h => h))
  have HN1 := Lib.hid n1
  have HN2 := Lib.hid n2
  have HN3 := Lib.hid n3
  have HN4 := Lib.hid n4
  have HN5 := Lib.hid n5
  have HSz := Lib.hid (show W1.heap.size ≤ W1.heap.size from Nat.le_refl _)
  have c0 := hq1.cell 0
  simp at c0
  clear h n1 n2 n3 n4 n5 hb hk0 hbo hk1 hBl hq1
  go_enter Tryz.func31, Tryz.ntmps31
  go_wp2_with fail
  refine (list_mem w.heap.size B st m1 mem _ HQ.out HR.out HN1.out).mono ?_
  rintro e W2 ⟨u, rfl, hu, h1, h2⟩
  obtain ⟨A0, n0, cc0, rfl⟩ := hu.sl
  have hbo := HO.out.keep h2 HNo.out
  have f0 := hbo.frozen 0
  have o0 := hbo.cell 0
  simp at o0
  obtain ⟨V0, hV0⟩ : ∃ V, W2.setCell ⟨Ro, 0, none⟩ (.slice A0 n0 cc0) = V := ⟨_, rfl⟩
  have hb2 : Blk V0 Ro 33 #[.slice A0 n0 cc0, .slice none 0 0, .slice none 0 0, .slice none 0 0, .slice none 0 0] := by
    rw [← hV0]
    have h := hbo.set_ 0 (.slice A0 n0 cc0)
    simpa using h
  have hk2 : Keep (fun q => Ro = q) W2 V0 := by rw [← hV0]; exact (Keep.refl (fun q => Ro = q) W2).setCell (p := ⟨Ro, 0, none⟩) (fun _ => rfl) _
  have hsz := HSz.out
  have hs1 := HS1.out
  have hs0 := HS0.out
  have hbl := HBl.out
  have HU0 := Lib.hid ((hu.base (w0 := W1) hsz).keep hk2 (fun g hg e => by omega))
  have hq2 := (HQ.out.keep h2 HNb.out).keep hk2 HNq.out
  have HQ := Lib.hid hq2
  have HO := Lib.hid hb2
  have HR : Hid (Rdr V0 B m1) := Lib.hid (Blk.keep h1 hk2 (fun e => HNo.out e.symm))
  have HK := Lib.hid ((HK.out.one_trans h2).trans (hk2.mono fun q _ e => .inr (by omega)))
  have HSz := Lib.hid (show W1.heap.size ≤ V0.heap.size from Nat.le_trans hsz (Nat.le_trans h2.size hk2.size))
  clear c0
  have c0 := hq2.cell 0
  simp at c0
  clear h1 h2 hu hbo hb2 hk2 hsz hs1 hs0 hbl hq2
  go_wp2_with fail
  refine (fids_any B m1 m2 fl e1 _ HR.out HN2.out).mono ?_
  rintro e W3 ⟨u, rfl, hu, h1, h2⟩
  obtain ⟨A1, n1, cc1, rfl⟩ := hu.sl
  have hbo := HO.out.keep h2 HNo.out
  have f0 := hbo.frozen 1
  have o0 := hbo.cell 1
  simp at o0
  obtain ⟨V1, hV1⟩ : ∃ V, W3.setCell ⟨Ro, 1, none⟩ (.slice A1 n1 cc1) = V := ⟨_, rfl⟩
  have hb2 : Blk V1 Ro 33 #[.slice A0 n0 cc0, .slice A1 n1 cc1, .slice none 0 0, .slice none 0 0, .slice none 0 0] := by
    rw [← hV1]
    have h := hbo.set_ 1 (.slice A1 n1 cc1)
    simpa using h
  have hk2 : Keep (fun q => Ro = q) W3 V1 := by rw [← hV1]; exact (Keep.refl (fun q => Ro = q) W3).setCell (p := ⟨Ro, 1, none⟩) (fun _ => rfl) _
  have hsz := HSz.out
  have hs1 := HS1.out
  have hs0 := HS0.out
  have hbl := HBl.out
  have HU1 := Lib.hid ((hu.base (w0 := W1) hsz).keep hk2 (fun g hg e => by omega))
  have HU0 := Lib.hid ((HU0.out.keep h2 (fun g hg e => by omega)).keep hk2 (fun g hg e => by omega))
  have hq2 := (HQ.out.keep h2 HNb.out).keep hk2 HNq.out
  have HQ := Lib.hid hq2
  have HO := Lib.hid hb2
  have HR : Hid (Rdr V1 B m2) := Lib.hid (Blk.keep h1 hk2 (fun e => HNo.out e.symm))
  have HK := Lib.hid ((HK.out.one_trans h2).trans (hk2.mono fun q _ e => .inr (by omega)))
  have HSz := Lib.hid (show W1.heap.size ≤ V1.heap.size from Nat.le_trans hsz (Nat.le_trans h2.size hk2.size))
  clear c0
  have c0 := hq2.cell 0
  simp at c0
  clear h1 h2 hu hbo hb2 hk2 hsz hs1 hs0 hbl hq2
  go_wp2_with fail
  refine (list_row w.heap.size B m2 m3 rows _ HQ.out HR.out HN3.out).mono ?_
  rintro e W4 ⟨u, rfl, hu, h1, h2⟩
  obtain ⟨A2, n2, cc2, rfl⟩ := hu.sl
  have hbo := HO.out.keep h2 HNo.out
  have f0 := hbo.frozen 2
  have o0 := hbo.cell 2
  simp at o0
  obtain ⟨V2, hV2⟩ : ∃ V, W4.setCell ⟨Ro, 2, none⟩ (.slice A2 n2 cc2) = V := ⟨_, rfl⟩
  have hb2 : Blk V2 Ro 33 #[.slice A0 n0 cc0, .slice A1 n1 cc1, .slice A2 n2 cc2, .slice none 0 0, .slice none 0 0] := by
    rw [← hV2]
    have h := hbo.set_ 2 (.slice A2 n2 cc2)
    simpa using h
  have hk2 : Keep (fun q => Ro = q) W4 V2 := by rw [← hV2]; exact (Keep.refl (fun q => Ro = q) W4).setCell (p := ⟨Ro, 2, none⟩) (fun _ => rfl) _
  have hsz := HSz.out
  have hs1 := HS1.out
  have hs0 := HS0.out
  have hbl := HBl.out
  have HU2 := Lib.hid ((hu.base (w0 := W1) hsz).keep hk2 (fun g hg e => by omega))
  have HU0 := Lib.hid ((HU0.out.keep h2 (fun g hg e => by omega)).keep hk2 (fun g hg e => by omega))
  have HU1 := Lib.hid ((HU1.out.keep h2 (fun g hg e => by omega)).keep hk2 (fun g hg e => by omega))
  have hq2 := (HQ.out.keep h2 HNb.out).keep hk2 HNq.out
  have HQ := Lib.hid hq2
  have HO := Lib.hid hb2
  have HR : Hid (Rdr V2 B m3) := Lib.hid (Blk.keep h1 hk2 (fun e => HNo.out e.symm))
  have HK := Lib.hid ((HK.out.one_trans h2).trans (hk2.mono fun q _ e => .inr (by omega)))
  have HSz := Lib.hid (show W1.heap.size ≤ V2.heap.size from Nat.le_trans hsz (Nat.le_trans h2.size hk2.size))
  clear c0
  have c0 := hq2.cell 0
  simp at c0
  clear h1 h2 hu hbo hb2 hk2 hsz hs1 hs0 hbl hq2
  go_wp2_with fail
  refine (list_tick w.heap.size B m3 m4 clk _ HQ.out HR.out HN4.out).mono ?_
  rintro e W5 ⟨u, rfl, hu, h1, h2⟩
  obtain ⟨A3, n3, cc3, rfl⟩ := hu.sl
  have hbo := HO.out.keep h2 HNo.out
  have f0 := hbo.frozen 3
  have o0 := hbo.cell 3
  simp at o0
  obtain ⟨V3, hV3⟩ : ∃ V, W5.setCell ⟨Ro, 3, none⟩ (.slice A3 n3 cc3) = V := ⟨_, rfl⟩
  have hb2 : Blk V3 Ro 33 #[.slice A0 n0 cc0, .slice A1 n1 cc1, .slice A2 n2 cc2, .slice A3 n3 cc3, .slice none 0 0] := by
    rw [← hV3]
    have h := hbo.set_ 3 (.slice A3 n3 cc3)
    simpa using h
  have hk2 : Keep (fun q => Ro = q) W5 V3 := by rw [← hV3]; exact (Keep.refl (fun q => Ro = q) W5).setCell (p := ⟨Ro, 3, none⟩) (fun _ => rfl) _
  have hsz := HSz.out
  have hs1 := HS1.out
  have hs0 := HS0.out
  have hbl := HBl.out
  have HU3 := Lib.hid ((hu.base (w0 := W1) hsz).keep hk2 (fun g hg e => by omega))
  have HU0 := Lib.hid ((HU0.out.keep h2 (fun g hg e => by omega)).keep hk2 (fun g hg e => by omega))
  have HU1 := Lib.hid ((HU1.out.keep h2 (fun g hg e => by omega)).keep hk2 (fun g hg e => by omega))
  have HU2 := Lib.hid ((HU2.out.keep h2 (fun g hg e => by omega)).keep hk2 (fun g hg e => by omega))
  have hq2 := (HQ.out.keep h2 HNb.out).keep hk2 HNq.out
  have HQ := Lib.hid hq2
  have HO := Lib.hid hb2
  have HR : Hid (Rdr V3 B m4) := Lib.hid (Blk.keep h1 hk2 (fun e => HNo.out e.symm))
  have HK := Lib.hid ((HK.out.one_trans h2).trans (hk2.mono fun q _ e => .inr (by omega)))
  have HSz := Lib.hid (show W1.heap.size ≤ V3.heap.size from Nat.le_trans hsz (Nat.le_trans h2.size hk2.size))
  clear c0
  have c0 := hq2.cell 0
  simp at c0
  clear h1 h2 hu hbo hb2 hk2 hsz hs1 hs0 hbl hq2
  go_wp2_with fail
  refine (fids_any B m4 st' seen e2 _ HR.out HN5.out).mono ?_
  rintro e W6 ⟨u, rfl, hu, h1, h2⟩
  obtain ⟨A4, n4, cc4, rfl⟩ := hu.sl
  have hbo := HO.out.keep h2 HNo.out
  have f0 := hbo.frozen 4
  have o0 := hbo.cell 4
  simp at o0
  obtain ⟨V4, hV4⟩ : ∃ V, W6.setCell ⟨Ro, 4, none⟩ (.slice A4 n4 cc4) = V := ⟨_, rfl⟩
  have hb2 : Blk V4 Ro 33 #[.slice A0 n0 cc0, .slice A1 n1 cc1, .slice A2 n2 cc2, .slice A3 n3 cc3, .slice A4 n4 cc4] := by
    rw [← hV4]
    have h := hbo.set_ 4 (.slice A4 n4 cc4)
    simpa using h
  have hk2 : Keep (fun q => Ro = q) W6 V4 := by rw [← hV4]; exact (Keep.refl (fun q => Ro = q) W6).setCell (p := ⟨Ro, 4, none⟩) (fun _ => rfl) _
  have hsz := HSz.out
  have hs1 := HS1.out
  have hs0 := HS0.out
  have hbl := HBl.out
  have HU4 := Lib.hid ((hu.base (w0 := W1) hsz).keep hk2 (fun g hg e => by omega))
  have HU0 := Lib.hid ((HU0.out.keep h2 (fun g hg e => by omega)).keep hk2 (fun g hg e => by omega))
  have HU1 := Lib.hid ((HU1.out.keep h2 (fun g hg e => by omega)).keep hk2 (fun g hg e => by omega))
  have HU2 := Lib.hid ((HU2.out.keep h2 (fun g hg e => by omega)).keep hk2 (fun g hg e => by omega))
  have HU3 := Lib.hid ((HU3.out.keep h2 (fun g hg e => by omega)).keep hk2 (fun g hg e => by omega))
  have hq2 := (HQ.out.keep h2 HNb.out).keep hk2 HNq.out
  have HQ := Lib.hid hq2
  have HO := Lib.hid hb2
  have HR : Hid (Rdr V4 B st') := Lib.hid (Blk.keep h1 hk2 (fun e => HNo.out e.symm))
  have HK := Lib.hid ((HK.out.one_trans h2).trans (hk2.mono fun q _ e => .inr (by omega)))
  have HSz := Lib.hid (show W1.heap.size ≤ V4.heap.size from Nat.le_trans hsz (Nat.le_trans h2.size hk2.size))
  clear c0
  have c0 := hq2.cell 0
  simp at c0
  clear h1 h2 hu hbo hb2 hk2 hsz hs1 hs0 hbl hq2
  have y0 := HO.out.cell 0
  have z0 := HO.out.frozen 0
  have y1 := HO.out.cell 1
  have z1 := HO.out.frozen 1
  have y2 := HO.out.cell 2
  have z2 := HO.out.frozen 2
  have y3 := HO.out.cell 3
  have z3 := HO.out.frozen 3
  have y4 := HO.out.cell 4
  have z4 := HO.out.frozen 4
  simp at y0 y1 y2 y3 y4
  go_wp2
  have hbf : Blk (((((V4.setCell ⟨Ro, 0, none⟩ (.slice A0 n0 cc0)).setCell ⟨Ro, 1, none⟩ (.slice A1 n1 cc1)).setCell ⟨Ro, 2, none⟩ (.slice A2 n2 cc2)).setCell ⟨Ro, 3, none⟩ (.slice A3 n3 cc3)).setCell ⟨Ro, 4, none⟩ (.slice A4 n4 cc4)) Ro 33 #[.slice A0 n0 cc0, .slice A1 n1 cc1, .slice A2 n2 cc2, .slice A3 n3 cc3, .slice A4 n4 cc4] := by
    have h := (((((HO.out.set_ 0 (.slice A0 n0 cc0)).set_ 1 (.slice A1 n1 cc1)).set_ 2 (.slice A2 n2 cc2)).set_ 3 (.slice A3 n3 cc3)).set_ 4 (.slice A4 n4 cc4))
    simpa using h
  have hkf : Keep (fun q => Ro = q) V4 (((((V4.setCell ⟨Ro, 0, none⟩ (.slice A0 n0 cc0)).setCell ⟨Ro, 1, none⟩ (.slice A1 n1 cc1)).setCell ⟨Ro, 2, none⟩ (.slice A2 n2 cc2)).setCell ⟨Ro, 3, none⟩ (.slice A3 n3 cc3)).setCell ⟨Ro, 4, none⟩ (.slice A4 n4 cc4)) := ((((((Keep.refl (fun q => Ro = q) V4).setCell (p := ⟨Ro, 0, none⟩) (fun _ => rfl) _).setCell (p := ⟨Ro, 1, none⟩) (fun _ => rfl) _).setCell (p := ⟨Ro, 2, none⟩) (fun _ => rfl) _).setCell (p := ⟨Ro, 3, none⟩) (fun _ => rfl) _).setCell (p := ⟨Ro, 4, none⟩) (fun _ => rfl) _)
  generalize (((((V4.setCell ⟨Ro, 0, none⟩ (.slice A0 n0 cc0)).setCell ⟨Ro, 1, none⟩ (.slice A1 n1 cc1)).setCell ⟨Ro, 2, none⟩ (.slice A2 n2 cc2)).setCell ⟨Ro, 3, none⟩ (.slice A3 n3 cc3)).setCell ⟨Ro, 4, none⟩ (.slice A4 n4 cc4)) = WF at *
  have r0 := hbf.cell 0
  have r1 := hbf.cell 1
  have r2 := hbf.cell 2
  have r3 := hbf.cell 3
  have r4 := hbf.cell 4
  simp at r0 r1 r2 r3 r4
  have hs1 := HS1.out
  have hs0 := HS0.out
  have hbl := HBl.out
  have hv : NewV ⟨mem, fl, rows, clk, seen⟩ w (.slice A0 n0 cc0) (.slice A1 n1 cc1) (.slice A2 n2 cc2) (.slice A3 n3 cc3) (.slice A4 n4 cc4) WF := by
    have h1 : NewV ⟨mem, fl, rows, clk, seen⟩ W1 (.slice A0 n0 cc0) (.slice A1 n1 cc1) (.slice A2 n2 cc2) (.slice A3 n3 cc3) (.slice A4 n4 cc4) WF := NewV.keep ⟨HU0.out, HU1.out, HU2.out, HU3.out, HU4.out⟩ hkf (fun g hg e => by omega)
    have hb : w.heap.size ≤ W1.heap.size := by omega
    exact ⟨h1.mem.base hb, h1.fl.base hb, h1.rows.base hb, h1.clk.base hb, h1.seen.base hb⟩
  refine ⟨rfl, .agg #[.slice A0 n0 cc0, .slice A1 n1 cc1, .slice A2 n2 cc2, .slice A3 n3 cc3, .slice A4 n4 cc4], ?_, ⟨_, rfl, ⟨_, _, _, _, _, rfl, hv⟩, Blk.keep HR.out hkf (fun e => HNo.out e.symm), HK.out.trans (hkf.mono fun q _ e => .inr (by omega))⟩⟩
  clear hs1 hs0 hbl hv
  unfold results
  go_simp
end Go.Proofs.YtgoldgamjogadaaGreat

namespace Go.Proofs.YtgoldgamjogadaaGreat
open Go.RowKit Go
set_option maxRecDepth 100000
attribute [local go_sem] bs_toList bs_size bs_get
attribute [local irreducible] kAll
attribute [local go_sem] kQuiet kQuietUpon

abbrev zfrV : Value := .agg #[.int .u8 0, .int .i64 0, .int .i64 0, .int .i64 0, .int .i64 0, .int .i64 0, .int .i64 0, .int .i64 0, .int .i64 0, .slice none 0 0, .slice none 0 0, .slice none 0 0, .slice none 0 0, .slice none 0 0]
set_option maxHeartbeats 2000000 in
theorem dec_long (s : Bs) (hs : s.length ≤ 1000000000) (h : 8192 < s.length) (w : World) : Calls Tryz.prog 13 #[.string (bs s)] w (Tell (.tuple #[zfrV, .int .i64 40]) w) := by
  obtain ⟨W0, hW0⟩ : ∃ W0, w.alloc (.cells #[.int .u8 0, .int .i64 0, .int .i64 0, .int .i64 0, .int .i64 0, .int .i64 0, .int .i64 0, .int .i64 0, .int .i64 0, .slice none 0 0, .slice none 0 0, .slice none 0 0, .slice none 0 0, .slice none 0 0] 39) = W0 := ⟨_, rfl⟩
  have hb : Blk W0 w.heap.size 39 #[.int .u8 0, .int .i64 0, .int .i64 0, .int .i64 0, .int .i64 0, .int .i64 0, .int .i64 0, .int .i64 0, .int .i64 0, .slice none 0 0, .slice none 0 0, .slice none 0 0, .slice none 0 0, .slice none 0 0] := by rw [← hW0]; exact Blk.new _ _ _
  have hk0 : Keep (fun _ => False) w W0 := by rw [← hW0]; exact (Keep.refl _ w).alloc _
  have HB := Lib.hid hb
  have HK := Lib.hid hk0
  have q1 : (8192 : Int) < (s.length : Int) := by omega
  have z0 := hb.cell 0
  have f0 := hb.frozen 0
  have z1 := hb.cell 1
  have f1 := hb.frozen 1
  have z2 := hb.cell 2
  have f2 := hb.frozen 2
  have z3 := hb.cell 3
  have f3 := hb.frozen 3
  have z4 := hb.cell 4
  have f4 := hb.frozen 4
  have z5 := hb.cell 5
  have f5 := hb.frozen 5
  have z6 := hb.cell 6
  have f6 := hb.frozen 6
  have z7 := hb.cell 7
  have f7 := hb.frozen 7
  have z8 := hb.cell 8
  have f8 := hb.frozen 8
  have z9 := hb.cell 9
  have f9 := hb.frozen 9
  have z10 := hb.cell 10
  have f10 := hb.frozen 10
  have z11 := hb.cell 11
  have f11 := hb.frozen 11
  have z12 := hb.cell 12
  have f12 := hb.frozen 12
  have z13 := hb.cell 13
  have f13 := hb.frozen 13
  simp at z0 z1 z2 z3 z4 z5 z6 z7 z8 z9 z10 z11 z12 z13
  clear hb hk0
  go_enter Tryz.func13, Tryz.ntmps13
  go_wp2
  have hbf : Blk ((((((((((((((W0.setCell ⟨w.heap.size, 0, none⟩ (.int .u8 0)).setCell ⟨w.heap.size, 1, none⟩ (.int .i64 0)).setCell ⟨w.heap.size, 2, none⟩ (.int .i64 0)).setCell ⟨w.heap.size, 3, none⟩ (.int .i64 0)).setCell ⟨w.heap.size, 4, none⟩ (.int .i64 0)).setCell ⟨w.heap.size, 5, none⟩ (.int .i64 0)).setCell ⟨w.heap.size, 6, none⟩ (.int .i64 0)).setCell ⟨w.heap.size, 7, none⟩ (.int .i64 0)).setCell ⟨w.heap.size, 8, none⟩ (.int .i64 0)).setCell ⟨w.heap.size, 9, none⟩ (.slice none 0 0)).setCell ⟨w.heap.size, 10, none⟩ (.slice none 0 0)).setCell ⟨w.heap.size, 11, none⟩ (.slice none 0 0)).setCell ⟨w.heap.size, 12, none⟩ (.slice none 0 0)).setCell ⟨w.heap.size, 13, none⟩ (.slice none 0 0)) w.heap.size 39 #[.int .u8 0, .int .i64 0, .int .i64 0, .int .i64 0, .int .i64 0, .int .i64 0, .int .i64 0, .int .i64 0, .int .i64 0, .slice none 0 0, .slice none 0 0, .slice none 0 0, .slice none 0 0, .slice none 0 0] := by
    have h := ((((((((((((((HB.out.set_ 0 (.int .u8 0)).set_ 1 (.int .i64 0)).set_ 2 (.int .i64 0)).set_ 3 (.int .i64 0)).set_ 4 (.int .i64 0)).set_ 5 (.int .i64 0)).set_ 6 (.int .i64 0)).set_ 7 (.int .i64 0)).set_ 8 (.int .i64 0)).set_ 9 (.slice none 0 0)).set_ 10 (.slice none 0 0)).set_ 11 (.slice none 0 0)).set_ 12 (.slice none 0 0)).set_ 13 (.slice none 0 0))
    simpa using h
  have hkf : Keep (fun q => w.heap.size = q) W0 ((((((((((((((W0.setCell ⟨w.heap.size, 0, none⟩ (.int .u8 0)).setCell ⟨w.heap.size, 1, none⟩ (.int .i64 0)).setCell ⟨w.heap.size, 2, none⟩ (.int .i64 0)).setCell ⟨w.heap.size, 3, none⟩ (.int .i64 0)).setCell ⟨w.heap.size, 4, none⟩ (.int .i64 0)).setCell ⟨w.heap.size, 5, none⟩ (.int .i64 0)).setCell ⟨w.heap.size, 6, none⟩ (.int .i64 0)).setCell ⟨w.heap.size, 7, none⟩ (.int .i64 0)).setCell ⟨w.heap.size, 8, none⟩ (.int .i64 0)).setCell ⟨w.heap.size, 9, none⟩ (.slice none 0 0)).setCell ⟨w.heap.size, 10, none⟩ (.slice none 0 0)).setCell ⟨w.heap.size, 11, none⟩ (.slice none 0 0)).setCell ⟨w.heap.size, 12, none⟩ (.slice none 0 0)).setCell ⟨w.heap.size, 13, none⟩ (.slice none 0 0)) := (((((((((((((((Keep.refl (fun q => w.heap.size = q) W0).setCell (p := ⟨w.heap.size, 0, none⟩) (fun _ => rfl) _).setCell (p := ⟨w.heap.size, 1, none⟩) (fun _ => rfl) _).setCell (p := ⟨w.heap.size, 2, none⟩) (fun _ => rfl) _).setCell (p := ⟨w.heap.size, 3, none⟩) (fun _ => rfl) _).setCell (p := ⟨w.heap.size, 4, none⟩) (fun _ => rfl) _).setCell (p := ⟨w.heap.size, 5, none⟩) (fun _ => rfl) _).setCell (p := ⟨w.heap.size, 6, none⟩) (fun _ => rfl) _).setCell (p := ⟨w.heap.size, 7, none⟩) (fun _ => rfl) _).setCell (p := ⟨w.heap.size, 8, none⟩) (fun _ => rfl) _).setCell (p := ⟨w.heap.size, 9, none⟩) (fun _ => rfl) _).setCell (p := ⟨w.heap.size, 10, none⟩) (fun _ => rfl) _).setCell (p := ⟨w.heap.size, 11, none⟩) (fun _ => rfl) _).setCell (p := ⟨w.heap.size, 12, none⟩) (fun _ => rfl) _).setCell (p := ⟨w.heap.size, 13, none⟩) (fun _ => rfl) _)
  generalize ((((((((((((((W0.setCell ⟨w.heap.size, 0, none⟩ (.int .u8 0)).setCell ⟨w.heap.size, 1, none⟩ (.int .i64 0)).setCell ⟨w.heap.size, 2, none⟩ (.int .i64 0)).setCell ⟨w.heap.size, 3, none⟩ (.int .i64 0)).setCell ⟨w.heap.size, 4, none⟩ (.int .i64 0)).setCell ⟨w.heap.size, 5, none⟩ (.int .i64 0)).setCell ⟨w.heap.size, 6, none⟩ (.int .i64 0)).setCell ⟨w.heap.size, 7, none⟩ (.int .i64 0)).setCell ⟨w.heap.size, 8, none⟩ (.int .i64 0)).setCell ⟨w.heap.size, 9, none⟩ (.slice none 0 0)).setCell ⟨w.heap.size, 10, none⟩ (.slice none 0 0)).setCell ⟨w.heap.size, 11, none⟩ (.slice none 0 0)).setCell ⟨w.heap.size, 12, none⟩ (.slice none 0 0)).setCell ⟨w.heap.size, 13, none⟩ (.slice none 0 0)) = WF at *
  have x0 := hbf.cell 0
  have x1 := hbf.cell 1
  have x2 := hbf.cell 2
  have x3 := hbf.cell 3
  have x4 := hbf.cell 4
  have x5 := hbf.cell 5
  have x6 := hbf.cell 6
  have x7 := hbf.cell 7
  have x8 := hbf.cell 8
  have x9 := hbf.cell 9
  have x10 := hbf.cell 10
  have x11 := hbf.cell 11
  have x12 := hbf.cell 12
  have x13 := hbf.cell 13
  simp at x0 x1 x2 x3 x4 x5 x6 x7 x8 x9 x10 x11 x12 x13
  refine ⟨rfl, .tuple #[zfrV, .int .i64 40], ?_, ⟨rfl, HK.out.trans (hkf.mono fun q _ e => .inr (by omega))⟩⟩
  unfold results
  go_simp
set_option maxHeartbeats 2000000 in
theorem dec_short (s : Bs) (h : s.length < 4) (w : World) : Calls Tryz.prog 13 #[.string (bs s)] w (Tell (.tuple #[zfrV, .int .i64 8]) w) := by
  obtain ⟨W0, hW0⟩ : ∃ W0, w.alloc (.cells #[.int .u8 0, .int .i64 0, .int .i64 0, .int .i64 0, .int .i64 0, .int .i64 0, .int .i64 0, .int .i64 0, .int .i64 0, .slice none 0 0, .slice none 0 0, .slice none 0 0, .slice none 0 0, .slice none 0 0] 39) = W0 := ⟨_, rfl⟩
  have hb : Blk W0 w.heap.size 39 #[.int .u8 0, .int .i64 0, .int .i64 0, .int .i64 0, .int .i64 0, .int .i64 0, .int .i64 0, .int .i64 0, .int .i64 0, .slice none 0 0, .slice none 0 0, .slice none 0 0, .slice none 0 0, .slice none 0 0] := by rw [← hW0]; exact Blk.new _ _ _
  have hk0 : Keep (fun _ => False) w W0 := by rw [← hW0]; exact (Keep.refl _ w).alloc _
  have HB := Lib.hid hb
  have HK := Lib.hid hk0
  have q1 : ¬ (8192 : Int) < (s.length : Int) := by omega
  have q2 : (s.length : Int) - 4 < 0 := by omega
  have q3 : IntKind.i64.wrap ((s.length : Int) - 4) = (s.length : Int) - 4 := IntWalk.i64_in _ (by omega)
  have z0 := hb.cell 0
  have f0 := hb.frozen 0
  have z1 := hb.cell 1
  have f1 := hb.frozen 1
  have z2 := hb.cell 2
  have f2 := hb.frozen 2
  have z3 := hb.cell 3
  have f3 := hb.frozen 3
  have z4 := hb.cell 4
  have f4 := hb.frozen 4
  have z5 := hb.cell 5
  have f5 := hb.frozen 5
  have z6 := hb.cell 6
  have f6 := hb.frozen 6
  have z7 := hb.cell 7
  have f7 := hb.frozen 7
  have z8 := hb.cell 8
  have f8 := hb.frozen 8
  have z9 := hb.cell 9
  have f9 := hb.frozen 9
  have z10 := hb.cell 10
  have f10 := hb.frozen 10
  have z11 := hb.cell 11
  have f11 := hb.frozen 11
  have z12 := hb.cell 12
  have f12 := hb.frozen 12
  have z13 := hb.cell 13
  have f13 := hb.frozen 13
  simp at z0 z1 z2 z3 z4 z5 z6 z7 z8 z9 z10 z11 z12 z13
  clear hb hk0
  go_enter Tryz.func13, Tryz.ntmps13
  go_wp2
  have hbf : Blk ((((((((((((((W0.setCell ⟨w.heap.size, 0, none⟩ (.int .u8 0)).setCell ⟨w.heap.size, 1, none⟩ (.int .i64 0)).setCell ⟨w.heap.size, 2, none⟩ (.int .i64 0)).setCell ⟨w.heap.size, 3, none⟩ (.int .i64 0)).setCell ⟨w.heap.size, 4, none⟩ (.int .i64 0)).setCell ⟨w.heap.size, 5, none⟩ (.int .i64 0)).setCell ⟨w.heap.size, 6, none⟩ (.int .i64 0)).setCell ⟨w.heap.size, 7, none⟩ (.int .i64 0)).setCell ⟨w.heap.size, 8, none⟩ (.int .i64 0)).setCell ⟨w.heap.size, 9, none⟩ (.slice none 0 0)).setCell ⟨w.heap.size, 10, none⟩ (.slice none 0 0)).setCell ⟨w.heap.size, 11, none⟩ (.slice none 0 0)).setCell ⟨w.heap.size, 12, none⟩ (.slice none 0 0)).setCell ⟨w.heap.size, 13, none⟩ (.slice none 0 0)) w.heap.size 39 #[.int .u8 0, .int .i64 0, .int .i64 0, .int .i64 0, .int .i64 0, .int .i64 0, .int .i64 0, .int .i64 0, .int .i64 0, .slice none 0 0, .slice none 0 0, .slice none 0 0, .slice none 0 0, .slice none 0 0] := by
    have h := ((((((((((((((HB.out.set_ 0 (.int .u8 0)).set_ 1 (.int .i64 0)).set_ 2 (.int .i64 0)).set_ 3 (.int .i64 0)).set_ 4 (.int .i64 0)).set_ 5 (.int .i64 0)).set_ 6 (.int .i64 0)).set_ 7 (.int .i64 0)).set_ 8 (.int .i64 0)).set_ 9 (.slice none 0 0)).set_ 10 (.slice none 0 0)).set_ 11 (.slice none 0 0)).set_ 12 (.slice none 0 0)).set_ 13 (.slice none 0 0))
    simpa using h
  have hkf : Keep (fun q => w.heap.size = q) W0 ((((((((((((((W0.setCell ⟨w.heap.size, 0, none⟩ (.int .u8 0)).setCell ⟨w.heap.size, 1, none⟩ (.int .i64 0)).setCell ⟨w.heap.size, 2, none⟩ (.int .i64 0)).setCell ⟨w.heap.size, 3, none⟩ (.int .i64 0)).setCell ⟨w.heap.size, 4, none⟩ (.int .i64 0)).setCell ⟨w.heap.size, 5, none⟩ (.int .i64 0)).setCell ⟨w.heap.size, 6, none⟩ (.int .i64 0)).setCell ⟨w.heap.size, 7, none⟩ (.int .i64 0)).setCell ⟨w.heap.size, 8, none⟩ (.int .i64 0)).setCell ⟨w.heap.size, 9, none⟩ (.slice none 0 0)).setCell ⟨w.heap.size, 10, none⟩ (.slice none 0 0)).setCell ⟨w.heap.size, 11, none⟩ (.slice none 0 0)).setCell ⟨w.heap.size, 12, none⟩ (.slice none 0 0)).setCell ⟨w.heap.size, 13, none⟩ (.slice none 0 0)) := (((((((((((((((Keep.refl (fun q => w.heap.size = q) W0).setCell (p := ⟨w.heap.size, 0, none⟩) (fun _ => rfl) _).setCell (p := ⟨w.heap.size, 1, none⟩) (fun _ => rfl) _).setCell (p := ⟨w.heap.size, 2, none⟩) (fun _ => rfl) _).setCell (p := ⟨w.heap.size, 3, none⟩) (fun _ => rfl) _).setCell (p := ⟨w.heap.size, 4, none⟩) (fun _ => rfl) _).setCell (p := ⟨w.heap.size, 5, none⟩) (fun _ => rfl) _).setCell (p := ⟨w.heap.size, 6, none⟩) (fun _ => rfl) _).setCell (p := ⟨w.heap.size, 7, none⟩) (fun _ => rfl) _).setCell (p := ⟨w.heap.size, 8, none⟩) (fun _ => rfl) _).setCell (p := ⟨w.heap.size, 9, none⟩) (fun _ => rfl) _).setCell (p := ⟨w.heap.size, 10, none⟩) (fun _ => rfl) _).setCell (p := ⟨w.heap.size, 11, none⟩) (fun _ => rfl) _).setCell (p := ⟨w.heap.size, 12, none⟩) (fun _ => rfl) _).setCell (p := ⟨w.heap.size, 13, none⟩) (fun _ => rfl) _)
  generalize ((((((((((((((W0.setCell ⟨w.heap.size, 0, none⟩ (.int .u8 0)).setCell ⟨w.heap.size, 1, none⟩ (.int .i64 0)).setCell ⟨w.heap.size, 2, none⟩ (.int .i64 0)).setCell ⟨w.heap.size, 3, none⟩ (.int .i64 0)).setCell ⟨w.heap.size, 4, none⟩ (.int .i64 0)).setCell ⟨w.heap.size, 5, none⟩ (.int .i64 0)).setCell ⟨w.heap.size, 6, none⟩ (.int .i64 0)).setCell ⟨w.heap.size, 7, none⟩ (.int .i64 0)).setCell ⟨w.heap.size, 8, none⟩ (.int .i64 0)).setCell ⟨w.heap.size, 9, none⟩ (.slice none 0 0)).setCell ⟨w.heap.size, 10, none⟩ (.slice none 0 0)).setCell ⟨w.heap.size, 11, none⟩ (.slice none 0 0)).setCell ⟨w.heap.size, 12, none⟩ (.slice none 0 0)).setCell ⟨w.heap.size, 13, none⟩ (.slice none 0 0)) = WF at *
  have x0 := hbf.cell 0
  have x1 := hbf.cell 1
  have x2 := hbf.cell 2
  have x3 := hbf.cell 3
  have x4 := hbf.cell 4
  have x5 := hbf.cell 5
  have x6 := hbf.cell 6
  have x7 := hbf.cell 7
  have x8 := hbf.cell 8
  have x9 := hbf.cell 9
  have x10 := hbf.cell 10
  have x11 := hbf.cell 11
  have x12 := hbf.cell 12
  have x13 := hbf.cell 13
  simp at x0 x1 x2 x3 x4 x5 x6 x7 x8 x9 x10 x11 x12 x13
  refine ⟨rfl, .tuple #[zfrV, .int .i64 8], ?_, ⟨rfl, HK.out.trans (hkf.mono fun q _ e => .inr (by omega))⟩⟩
  unfold results
  go_simp
set_option maxHeartbeats 4000000 in
theorem dec_sum (s : Bs) (n : Nat) (hn : s.length = n + 4) (h : s.length ≤ 8192) (hd : s.drop n ≠ le4 (sumM (s.take n))) (w : World) : Calls Tryz.prog 13 #[.string (bs s)] w (Tell (.tuple #[zfrV, .int .i64 9]) w) := by
  obtain ⟨W0, hW0⟩ : ∃ W0, w.alloc (.cells #[.int .u8 0, .int .i64 0, .int .i64 0, .int .i64 0, .int .i64 0, .int .i64 0, .int .i64 0, .int .i64 0, .int .i64 0, .slice none 0 0, .slice none 0 0, .slice none 0 0, .slice none 0 0, .slice none 0 0] 39) = W0 := ⟨_, rfl⟩
  have hb : Blk W0 w.heap.size 39 #[.int .u8 0, .int .i64 0, .int .i64 0, .int .i64 0, .int .i64 0, .int .i64 0, .int .i64 0, .int .i64 0, .int .i64 0, .slice none 0 0, .slice none 0 0, .slice none 0 0, .slice none 0 0, .slice none 0 0] := by rw [← hW0]; exact Blk.new _ _ _
  have hk0 : Keep (fun _ => False) w W0 := by rw [← hW0]; exact (Keep.refl _ w).alloc _
  have HB := Lib.hid hb
  have HK := Lib.hid hk0
  have q1 : ¬ (8192 : Int) < (s.length : Int) := by omega
  have q3 : IntKind.i64.wrap ((s.length : Int) - 4) = (n : Int) := by rw [IntWalk.i64_in _ (by omega)]; omega
  have q4 : ¬ (n : Int) < 0 := by omega
  have q5 : (n : Int) ≤ (s.length : Int) := by omega
  have hlt : (s.take n).length ≤ 1000000000 := by rw [List.length_take]; omega
  have hdr : (s.drop n).take (s.length - n) = s.drop n := List.take_of_length_le (by rw [List.length_drop]; omega)
  have htk : (s.drop 0).take (n - 0) = s.take n := by simp
  have hne : (s.drop n == le4 (sumM (s.take n))) = false := by rw [beq_eq_false_iff_ne]; exact hd
  have HNl := Lib.hid hn
  clear hb hk0 hn h
  go_enter Tryz.func13, Tryz.ntmps13
  go_wp2_with fail
  refine wp_region_krip (Keep (fun _ => False)) (Keep.refl _) keep0_trans 9 (by kernel_rfl) (by kernel_rfl) (Ts := [none, none, some (.inl (.string (bs (s.drop n)))), none, none, some (.inl (.string (bs (s.take n)))), some (.inl (.string (bs (le4 (sumM (s.take n)))))), some (.inl (.bool true)), none]) ?_
  simp only [List.take, List.drop]
  refine kAll_p (fun K hK => ?_)
  go_simp
  generalize hZ : (Act.mk _ _) = Z
  refine hK Z ?_
  subst hZ
  clear hK K
  refine kAll_p (fun K hK => ?_)
  go_simp
  generalize hZ : (Act.mk _ _) = Z
  refine hK Z ?_
  subst hZ
  clear hK K
  refine kAll_dn _ (fun W hW hF => kStep_of fun K Q hK => ?_) (fun K hK => ?_)
  · go_simp
    first | exact hK _ _ (Keep.refl _ _) rfl | (rw [bs_extract, hdr]; exact hK _ _ (Keep.refl _ _) rfl)
  go_simp
  generalize hZ : (Act.mk _ _) = Z
  refine hK Z ?_
  subst hZ
  clear hK K
  refine kAll_p (fun K hK => ?_)
  go_simp
  generalize hZ : (Act.mk _ _) = Z
  refine hK Z ?_
  subst hZ
  clear hK K
  refine kAll_p (fun K hK => ?_)
  go_simp
  generalize hZ : (Act.mk _ _) = Z
  refine hK Z ?_
  subst hZ
  clear hK K
  refine kAll_dn _ (fun W hW hF => kStep_of fun K Q hK => ?_) (fun K hK => ?_)
  · go_simp
    first | exact hK _ _ (Keep.refl _ _) rfl | (rw [bs_extract, htk]; exact hK _ _ (Keep.refl _ _) rfl)
  go_simp
  generalize hZ : (Act.mk _ _) = Z
  refine hK Z ?_
  subst hZ
  clear hK K
  refine kAll_dn _ (fun W hW hF => kStep_of fun K Q hK => ?_) (fun K hK => ?_)
  · go_simp
    refine (fsum_any (s.take n) hlt W).mono ?_
    rintro e w' ⟨rfl, hk⟩
    exact hK _ _ hk rfl
  go_simp
  generalize hZ : (Act.mk _ _) = Z
  refine hK Z ?_
  subst hZ
  clear hK K
  refine kAll_dn _ (fun W hW hF => kStep_of fun K Q hK => ?_) (fun K hK => ?_)
  · go_simp
    first | exact hK _ _ (Keep.refl _ _) rfl | (rw [hne]; exact hK _ _ (Keep.refl _ _) rfl)
  go_simp
  generalize hZ : (Act.mk _ _) = Z
  refine hK Z ?_
  subst hZ
  clear hK K
  refine kAll_p (fun K hK => ?_)
  go_simp
  generalize hZ : (Act.mk _ _) = Z
  refine hK Z ?_
  subst hZ
  clear hK K
  refine kAll_nil (fun W hW hF => ?_)
  clear hF
  have hb := HB.out.keep (keepD (Keep.refl _ _) hW) (fun h => h)
  have HB2 := Lib.hid hb
  have HK2 := Lib.hid (keep0_trans _ _ _ HK.out (keepD (Keep.refl _ _) hW))
  have z0 := hb.cell 0
  have f0 := hb.frozen 0
  have z1 := hb.cell 1
  have f1 := hb.frozen 1
  have z2 := hb.cell 2
  have f2 := hb.frozen 2
  have z3 := hb.cell 3
  have f3 := hb.frozen 3
  have z4 := hb.cell 4
  have f4 := hb.frozen 4
  have z5 := hb.cell 5
  have f5 := hb.frozen 5
  have z6 := hb.cell 6
  have f6 := hb.frozen 6
  have z7 := hb.cell 7
  have f7 := hb.frozen 7
  have z8 := hb.cell 8
  have f8 := hb.frozen 8
  have z9 := hb.cell 9
  have f9 := hb.frozen 9
  have z10 := hb.cell 10
  have f10 := hb.frozen 10
  have z11 := hb.cell 11
  have f11 := hb.frozen 11
  have z12 := hb.cell 12
  have f12 := hb.frozen 12
  have z13 := hb.cell 13
  have f13 := hb.frozen 13
  simp at z0 z1 z2 z3 z4 z5 z6 z7 z8 z9 z10 z11 z12 z13
  clear hW hb
  go_wp2
  have hbf : Blk ((((((((((((((W.setCell ⟨w.heap.size, 0, none⟩ (.int .u8 0)).setCell ⟨w.heap.size, 1, none⟩ (.int .i64 0)).setCell ⟨w.heap.size, 2, none⟩ (.int .i64 0)).setCell ⟨w.heap.size, 3, none⟩ (.int .i64 0)).setCell ⟨w.heap.size, 4, none⟩ (.int .i64 0)).setCell ⟨w.heap.size, 5, none⟩ (.int .i64 0)).setCell ⟨w.heap.size, 6, none⟩ (.int .i64 0)).setCell ⟨w.heap.size, 7, none⟩ (.int .i64 0)).setCell ⟨w.heap.size, 8, none⟩ (.int .i64 0)).setCell ⟨w.heap.size, 9, none⟩ (.slice none 0 0)).setCell ⟨w.heap.size, 10, none⟩ (.slice none 0 0)).setCell ⟨w.heap.size, 11, none⟩ (.slice none 0 0)).setCell ⟨w.heap.size, 12, none⟩ (.slice none 0 0)).setCell ⟨w.heap.size, 13, none⟩ (.slice none 0 0)) w.heap.size 39 #[.int .u8 0, .int .i64 0, .int .i64 0, .int .i64 0, .int .i64 0, .int .i64 0, .int .i64 0, .int .i64 0, .int .i64 0, .slice none 0 0, .slice none 0 0, .slice none 0 0, .slice none 0 0, .slice none 0 0] := by
    have h := ((((((((((((((HB2.out.set_ 0 (.int .u8 0)).set_ 1 (.int .i64 0)).set_ 2 (.int .i64 0)).set_ 3 (.int .i64 0)).set_ 4 (.int .i64 0)).set_ 5 (.int .i64 0)).set_ 6 (.int .i64 0)).set_ 7 (.int .i64 0)).set_ 8 (.int .i64 0)).set_ 9 (.slice none 0 0)).set_ 10 (.slice none 0 0)).set_ 11 (.slice none 0 0)).set_ 12 (.slice none 0 0)).set_ 13 (.slice none 0 0))
    simpa using h
  have hkf : Keep (fun q => w.heap.size = q) W ((((((((((((((W.setCell ⟨w.heap.size, 0, none⟩ (.int .u8 0)).setCell ⟨w.heap.size, 1, none⟩ (.int .i64 0)).setCell ⟨w.heap.size, 2, none⟩ (.int .i64 0)).setCell ⟨w.heap.size, 3, none⟩ (.int .i64 0)).setCell ⟨w.heap.size, 4, none⟩ (.int .i64 0)).setCell ⟨w.heap.size, 5, none⟩ (.int .i64 0)).setCell ⟨w.heap.size, 6, none⟩ (.int .i64 0)).setCell ⟨w.heap.size, 7, none⟩ (.int .i64 0)).setCell ⟨w.heap.size, 8, none⟩ (.int .i64 0)).setCell ⟨w.heap.size, 9, none⟩ (.slice none 0 0)).setCell ⟨w.heap.size, 10, none⟩ (.slice none 0 0)).setCell ⟨w.heap.size, 11, none⟩ (.slice none 0 0)).setCell ⟨w.heap.size, 12, none⟩ (.slice none 0 0)).setCell ⟨w.heap.size, 13, none⟩ (.slice none 0 0)) := (((((((((((((((Keep.refl (fun q => w.heap.size = q) W).setCell (p := ⟨w.heap.size, 0, none⟩) (fun _ => rfl) _).setCell (p := ⟨w.heap.size, 1, none⟩) (fun _ => rfl) _).setCell (p := ⟨w.heap.size, 2, none⟩) (fun _ => rfl) _).setCell (p := ⟨w.heap.size, 3, none⟩) (fun _ => rfl) _).setCell (p := ⟨w.heap.size, 4, none⟩) (fun _ => rfl) _).setCell (p := ⟨w.heap.size, 5, none⟩) (fun _ => rfl) _).setCell (p := ⟨w.heap.size, 6, none⟩) (fun _ => rfl) _).setCell (p := ⟨w.heap.size, 7, none⟩) (fun _ => rfl) _).setCell (p := ⟨w.heap.size, 8, none⟩) (fun _ => rfl) _).setCell (p := ⟨w.heap.size, 9, none⟩) (fun _ => rfl) _).setCell (p := ⟨w.heap.size, 10, none⟩) (fun _ => rfl) _).setCell (p := ⟨w.heap.size, 11, none⟩) (fun _ => rfl) _).setCell (p := ⟨w.heap.size, 12, none⟩) (fun _ => rfl) _).setCell (p := ⟨w.heap.size, 13, none⟩) (fun _ => rfl) _)
  generalize ((((((((((((((W.setCell ⟨w.heap.size, 0, none⟩ (.int .u8 0)).setCell ⟨w.heap.size, 1, none⟩ (.int .i64 0)).setCell ⟨w.heap.size, 2, none⟩ (.int .i64 0)).setCell ⟨w.heap.size, 3, none⟩ (.int .i64 0)).setCell ⟨w.heap.size, 4, none⟩ (.int .i64 0)).setCell ⟨w.heap.size, 5, none⟩ (.int .i64 0)).setCell ⟨w.heap.size, 6, none⟩ (.int .i64 0)).setCell ⟨w.heap.size, 7, none⟩ (.int .i64 0)).setCell ⟨w.heap.size, 8, none⟩ (.int .i64 0)).setCell ⟨w.heap.size, 9, none⟩ (.slice none 0 0)).setCell ⟨w.heap.size, 10, none⟩ (.slice none 0 0)).setCell ⟨w.heap.size, 11, none⟩ (.slice none 0 0)).setCell ⟨w.heap.size, 12, none⟩ (.slice none 0 0)).setCell ⟨w.heap.size, 13, none⟩ (.slice none 0 0)) = WF at *
  have x0 := hbf.cell 0
  have x1 := hbf.cell 1
  have x2 := hbf.cell 2
  have x3 := hbf.cell 3
  have x4 := hbf.cell 4
  have x5 := hbf.cell 5
  have x6 := hbf.cell 6
  have x7 := hbf.cell 7
  have x8 := hbf.cell 8
  have x9 := hbf.cell 9
  have x10 := hbf.cell 10
  have x11 := hbf.cell 11
  have x12 := hbf.cell 12
  have x13 := hbf.cell 13
  simp at x0 x1 x2 x3 x4 x5 x6 x7 x8 x9 x10 x11 x12 x13
  refine ⟨rfl, .tuple #[zfrV, .int .i64 9], ?_, ⟨rfl, HK2.out.trans (hkf.mono fun q _ e => .inr (by omega))⟩⟩
  unfold results
  go_simp
end Go.Proofs.YtgoldgamjogadaaGreat
