/-
  The reference's watch: Heard, Watched; its detector's Copy.
-/
import Derived.Test.YtenphdgnaknbeaaRefWA
import Derived.Test.YtenphdgnaknbeaaKpiv
namespace Go.Proofs.Ytenphdgnaknbeaa
open Go.RowKit
set_option maxRecDepth 100000

theorem ent_mem {L : List Ent} {k : Nat} (hk : k < L.length) : L.getD k ent0 ∈ L := by
  have : L.getD k ent0 = L[k] := by simp [List.getD, hk]
  rw [this]; exact List.getElem_mem hk
/-- a call on one detector of the reference's watch -/
theorem RWt.turn {w w' : World} {b : Nat} {S : Nat → Prop} {mn mx wd : Int} {L : List Ent} {md : Nat → R} {row : Option Nat} {A : Option Addr} {c : Nat} {ρ : Nat → Option Nat}
    (h1 : Blk w b 66 #[.int .i64 mn, .int .i64 mx, .int .i64 wd, .slice A L.length c]) (h2 : SlK w 69 3 row A L.length c (L.flatMap cO)) (h3 : S b) (h4 : ∀ g, row = some g → S g) (h5 : RDets w S L ρ md)
    {e : Ent} (he : e ∈ L) {r' : R} (ok : r'.Ok) {x : Ending} (ht : RTurns e.2 (ρ e.2) r' w x w') :
    x = .returned (.tuple #[]) ∧ RWt w' b (grow S w w') mn mx wd L (fun y => if y = e.2 then r' else md y) ∧ Keep S w w' := by
  obtain ⟨hx, ⟨ρ', hd⟩, hk, hkS⟩ := h5.turn he ok ht
  have hh := (h5.has e he).1
  have n1 := (hh.ne_blk h1 (by decide) (by decide)).1
  have n2 : ∀ g, row = some g → ¬ g = e.2 := fun g hg e1 => by
    obtain ⟨cs, hb⟩ := h2.row_at g hg
    exact (hh.ne_blk hb (by decide) (by decide)).1 e1
  exact ⟨hx, ⟨row, A, c, ρ', h1.keep hk n1, h2.keep hk n2, .inl h3, fun g hg => .inl (h4 g hg), hd⟩, hkS⟩
set_option maxHeartbeats 1000000 in
theorem rwheard_any {w : World} {b : Nat} {S : Nat → Prop} {mn mx wd : Int} {L : List Ent} {md : Nat → R} (h : RWt w b S mn mx wd L md) (hL : L.length ≤ 1000) (hg : ∀ e ∈ L, (md e.2).gaps.length ≤ 4000) (x : ID) (now : Int) :
    Calls Try.prog 20 #[.pointer (some ⟨b, 0, none⟩), idV x, .int .i64 now] w fun e w' => (e = .returned (.bool false) ∧ (∀ f ∈ L, f.1 ≠ x) ∧ Keep (fun _ => False) w w') ∨
      ∃ f ∈ L, f.1 = x ∧ e = .returned (.bool true) ∧ ∃ S', RWt w' b S' mn mx wd L (fun y => if y = f.2 then (md f.2).heard now else md y) ∧ (∀ g, S' g → S g ∨ w.heap.size ≤ g) ∧ Keep S w w' := by
  obtain ⟨a, i⟩ := x
  have HW := Lib.hid h
  have HG := Lib.hid hg
  have hI := Blk.new w 33 #[.int .i64 a, .int .i64 i]
  have hk0 := (Keep.refl (fun _ => False) w).alloc (.cells #[.int .i64 a, .int .i64 i] 33)
  have HI := Lib.hid hI
  have HK0 := Lib.hid hk0
  clear h hI hk0 hg
  go_enter Try.func20, Try.ntmps20
  go_wp2_with fail
  refine (rfind_any (HW.out.keep0 HK0.out) (by omega) (a, i)).mono ?_
  rintro e w1 ⟨j, rfl, hf, hk⟩
  have HK1 := Lib.hid (keep0_trans _ _ _ HK0.out hk)
  clear hk
  rcases hf with ⟨rfl, hno⟩ | ⟨k, rfl, hkl, hkx⟩
  · have HN := Lib.hid hno
    clear hno
    go_wp2
    go_ret
    exact .inl ⟨rfl, HN.out, HK1.out⟩
  · obtain ⟨row, A, c, ρ, h1, h2, h3, h4, h5⟩ := HW.out.keep0 HK1.out
    have q1 : ¬ (k : Int) < 0 := by omega
    have q2 : (0 : Int) ≤ (k : Int) := by omega
    have q3 : (k : Int) < (L.length : Int) := by omega
    have hm := ent_mem hkl
    obtain ⟨g, off, hA, p0, p1, p2⟩ := h2.ent rfl hkl
    have HX := Lib.hid hkx
    clear hkx
    generalize L.getD k ent0 = f at hm p0 p1 p2 HX
    have c3 := h1.cell 3
    simp at c3
    subst hA
    have H1 := Lib.hid h1
    have H2 := Lib.hid h2
    have H3 := Lib.hid h3
    have H4 := Lib.hid h4
    have H5 := Lib.hid h5
    have HM := Lib.hid hm
    obtain ⟨k1, k2, _, _⟩ := h5.has f hm
    have HHas := Lib.hid k1
    have HOk := Lib.hid k2
    clear h1 h2 h3 h4 h5 hm k1 k2 p0 p1
    go_wp2_with fail
    refine (rheard_any f.2 (ρ f.2) (md f.2) now w1 HHas.out HOk.out (by have := HG.out f HM.out; omega)).mono ?_
    intro e w2 ht
    obtain ⟨rfl, hw, hkS⟩ := RWt.turn H1.out H2.out H3.out H4.out H5.out HM.out (HOk.out.heard now) ht
    have HQ := Lib.hid (show ∃ S', RWt w2 b S' mn mx wd L (fun y => if y = f.2 then (md f.2).heard now else md y) ∧ (∀ g, S' g → S g ∨ w.heap.size ≤ g) ∧ Keep S w w2 from ⟨_, hw, fun y hy => hy.imp id fun h => Nat.le_trans HK1.out.size h.1, keepS0 HK1.out hkS⟩)
    clear ht hw hkS
    go_wp2
    go_ret
    exact .inr ⟨f, HM.out, HX.out, rfl, HQ.out⟩
theorem setM_next {L : List Ent} {k : Nat} (hk : k < L.length) : setM (setM ((L.take k).map Prod.fst) ++ [(L.getD k ent0).1]) = setM ((L.take (k + 1)).map Prod.fst) := by
  have e : L.getD k ent0 = L[k] := by simp [List.getD, hk]
  rw [e, List.take_succ_eq_append_getElem hk, List.map_append]
  exact setM_ext fun x => by simp [List.mem_append, setM_mem]
set_option maxHeartbeats 1000000 in
theorem rwwatched_any {w : World} {b : Nat} {S : Nat → Prop} {mn mx wd : Int} {L : List Ent} {md : Nat → R} (h : RWt w b S mn mx wd L md) (hL : L.length ≤ 1000) :
    Calls Try.prog 22 #[.pointer (some ⟨b, 0, none⟩)] w (GotI (setM (L.map Prod.fst)) w) := by
  obtain ⟨row, A, c, ρ, hb, hs, _⟩ := h
  have HB := Lib.hid hb
  have HS := Lib.hid hs
  clear hb hs
  go_enter Try.func22, Try.ntmps22
  go_wp2
  go_loopw [3, 4] (fun v j wr => ∃ (k : Nat) (A1 : Option Addr) (n1 c1 : Nat), k ≤ L.length ∧ v = .slice A1 n1 c1 ∧ j = .int .i64 (k : Int) ∧ Hid (ISl wr A1 n1 c1 (setM ((L.take k).map Prod.fst))) ∧ Hid (Keep (fun _ => False) w wr)) (fun _ j _ => L.length - (intOf j).toNat)
  case atStart => exact ⟨0, none, 0, 0, Nat.zero_le _, rfl, rfl, Lib.hid (by simp only [List.take_zero, List.map_nil, setM_nil]; exact ISl.nil_ _), Lib.hid (Keep.refl _ _)⟩
  case round =>
    obtain ⟨k, A1, n1, c1, hk, rfl, rfl, HO, HK⟩ := hrel
    have e2 : IntKind.i64.wrap ((k : Int) + 1) = (k : Int) + 1 := IntWalk.i64_in _ (by omega)
    have c3 := (HB.out.keep HK.out (fun h => h)).cell 3
    simp at c3
    by_cases hkl : k < L.length
    · obtain ⟨g, off, hA, p0, p1, _⟩ := (HS.out.keep HK.out (fun _ _ h => h)).ent rfl hkl
      have HX := Lib.hid (setM_next hkl)
      have hn1 : n1 ≤ 1000 := by have h1 := HO.out.1.1; have h2 := setM_len ((L.take k).map Prod.fst); simp only [List.length_map, List.length_take] at h2; omega
      subst hA
      generalize (L.getD k ent0).1 = y at p0 p1 HX
      obtain ⟨ya, yi⟩ := y
      simp only at p0 p1
      have q1 : (k : Int) < (L.length : Int) := by omega
      have q2 : (0 : Int) ≤ (k : Int) := by omega
      go_wp2_with fail
      refine (putSR_any A1 n1 c1 _ (ya, yi) _ HO.out.1 (by omega)).mono ?_
      rintro e w1 ⟨A2, n2, c2, rfl, hs2, hk2⟩
      have HS2 := Lib.hid hs2
      have HK2 := Lib.hid (keep0_trans _ _ _ HK.out hk2)
      clear hs2 hk2
      go_wp2
      go_roundw
      case rel => exact ⟨k + 1, A2, n2, c2, by omega, rfl, by go_num, Lib.hid (by rw [← HX.out]; exact HS2.out), HK2⟩
      case measure => simp [intOf]; omega
    · obtain rfl : k = L.length := by omega
      go_wp2
      go_ret
      refine ⟨A1, n1, c1, rfl, ?_, HK.out⟩
      have := HO.out
      rwa [List.take_length] at this
end Go.Proofs.Ytenphdgnaknbeaa
namespace Go.Proofs.Ytenphdgnaknbeaa
open Go.RowKit
set_option maxRecDepth 100000

theorem keepDT {T : Nat → Prop} {a b : World} (h : Keep T a.drew b) : Keep T a b := ((Keep.refl T a).drew).trans (h.mono fun _ _ e => .inl e)
theorem keepT_trans (T : Nat → Prop) (a b c : World) (h : Keep T a b) (k : Keep T b c) : Keep T a c := h.trans (k.mono fun _ _ e => .inl e)
theorem infoInt : (Try.prog.info? 3).map (fun i => (i.zero, i.size, i.bytes)) = some (some (.int .i64 0), 1, 8) := by kernel_rfl
theorem one_ints (l : List Int) : ∀ u ∈ l.map (Value.int .i64), u.oneCell' = true := by
  intro u hu
  obtain ⟨x, _, rfl⟩ := List.mem_map.1 hu
  rfl
theorem SlK.empty1 {w : World} {g : Nat} (h : Blk w g 3 #[]) : SlK w 3 1 (some g) (some ⟨g, 0, none⟩) 0 0 [] :=
  ⟨rfl, Nat.le_refl _, by simp [maxLen], .inr ⟨g, 0, #[], rfl, rfl, h, by simp, fun j hj => by omega⟩⟩
set_option maxHeartbeats 1000000 in
theorem rdcopy_any {b : Nat} {row : Option Nat} {r : R} (w : World) (h : RHas w b row r) (hlen : r.gaps.length ≤ 100000) :
    Calls Try.prog 36 #[.pointer (some ⟨b, 0, none⟩)] w fun e w' => ∃ b' row', e = .returned (.pointer (some ⟨b', 0, none⟩)) ∧ RHas w' b' row' r ∧ w.heap.size ≤ b' ∧ (∀ g, row' = some g → w.heap.size ≤ g) ∧ Keep (fun _ => False) w w' := by
  obtain ⟨A, n, c, hb, hs⟩ := h
  obtain ⟨i0, hi, hz0, hz1, hz2⟩ := info_parts infoInt
  have HI0 := Lib.hid hi
  have HZ0 := Lib.hid hz0
  have HZ1 := Lib.hid hz1
  have HZ2 := Lib.hid hz2
  have hn : n ≤ 100000 := by have := hs.1; simp at this; omega
  have hc0 := hb.cell 0
  have hc1 := hb.cell 1
  have hc2 := hb.cell 2
  have hc3 := hb.cell 3
  have hc4 := hb.cell 4
  have hc5 := hb.cell 5
  simp at hc0 hc1 hc2 hc3 hc4 hc5
  have hlt := hb.lt
  have HB := Lib.hid hb
  have HS := Lib.hid hs
  clear hi hz0 hz1 hz2 hb hs
  go_enter Try.func36, Try.ntmps36
  go_upto_region 2 with (fail)
  have hb1 := Blk.new w 79 #[.int .i64 r.mn, .int .i64 r.mx, .int .i64 r.wd, .bool r.yes, .int .i64 r.last, .slice A n c]
  have hk1 : Keep (fun _ => False) w (w.alloc (.cells #[.int .i64 r.mn, .int .i64 r.mx, .int .i64 r.wd, .bool r.yes, .int .i64 r.last, .slice A n c] 79)) := (Keep.refl _ w).alloc _
  obtain ⟨B1, hB1⟩ : ∃ B1, w.heap.size = B1 := ⟨_, rfl⟩
  have HBn := Lib.hid hB1
  rw [hB1] at hb1 ⊢
  generalize hw : w.alloc (.cells #[.int .i64 r.mn, .int .i64 r.mx, .int .i64 r.wd, .bool r.yes, .int .i64 r.last, .slice A n c] 79) = W1 at *
  have d5 := (HB.out.keep hk1 (fun h => h)).cell 5
  simp at d5
  have hlt1 := (HB.out.keep hk1 (fun h => h)).lt
  have HB1 := Lib.hid hb1
  have HK1 := Lib.hid hk1
  have HS1 := Lib.hid (HS.out.keep hk1 (fun _ _ h => h))
  clear hw hb1 hk1 hB1 hc0 hc1 hc2 hc3 hc4 hc5
  go_wp2_with (at_builtin; refine wpList_append_slK rfl _ _ _ rfl i0 _ 8 Try.underlying31 HI0.out HZ0.out HZ1.out HZ2.out rfl (by omega) (SlK.empty1 (Blk.new _ _ _)) rfl rfl ((HS1.out.keep ((Keep.refl (fun _ => False) _).alloc _) (fun _ _ h => h)).rd) (one_ints _) (by unfold maxLen; omega) (by omega) ?_; intro row2 A2 c2 w2 hs2 hr2
               obtain ⟨hk2, hw2⟩ := grew_new hr2 ((Keep.refl (fun _ => False) W1).alloc _) (fun y hy => by injection hy with hy; omega)
               have HB2 := HB1.out.keep hk2 (fun h => h)
               have q5 := HB2.cell 5
               have f5 := HB2.frozen 5
               simp at q5
               have HBb := Lib.hid HB2
               have HK2 := Lib.hid hk2
               have HS2 := Lib.hid hs2
               have HR2 := Lib.hid hw2
               clear HB2 hs2 hr2 hk2 hw2)
  go_wp2
  go_ret
  have hne : ∀ y, row2 = some y → ¬ y = B1 := fun y hy e => by
    have h1 := HR2.out y hy; have h2 := HB1.out.lt; omega
  have hkk : Keep (fun k => k = B1) w2 (w2.setCell ⟨B1, 5, none⟩ (.slice A2 (0 + n) c2)) := (Keep.refl (fun k => k = B1) w2).setCell (fun _ => rfl) _
  have hsz := HK1.out.size
  simp only [Nat.zero_add, List.nil_append] at HS2 hkk ⊢
  refine ⟨B1, row2, rfl, ⟨A2, n, c2, ?_, HS2.out.keep hkk hne⟩, by have := HBn.out; omega, fun y hy => by have := HR2.out y hy; omega, (keep0_trans _ _ _ HK1.out HK2.out).trans (hkk.mono fun k _ e => .inr (by have := HBn.out; omega))⟩
  simpa using HBb.out.set_ 5 (.slice A2 n c2)
end Go.Proofs.Ytenphdgnaknbeaa
