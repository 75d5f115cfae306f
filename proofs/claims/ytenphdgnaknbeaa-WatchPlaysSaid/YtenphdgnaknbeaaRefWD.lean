/-
  The reference's watch: Copy. Written by gen_rd.py.
-/
import Derived.Test.YtenphdgnaknbeaaRefWB
namespace Go.Proofs.Ytenphdgnaknbeaa
open Go.RowKit
attribute [local irreducible] kAll kAllP
attribute [local go_sem] kQuiet kQuietUpon
set_option maxRecDepth 100000

def vw (L : List Ent) (md : Nat → R) : List (ID × R) := L.map (fun e => (e.1, md e.2))
theorem vw_len (L : List Ent) (md : Nat → R) : (vw L md).length = L.length := by simp [vw]
theorem vw_add {L : List Ent} {md : Nat → R} {x : ID} {g : Nat} {r : R} (h : ∀ f ∈ L, f.2 ≠ g) : vw (L ++ [(x, g)]) (fun y => if y = g then r else md y) = vw L md ++ [(x, r)] := by
  unfold vw
  rw [List.map_append]
  congr 1
  · refine List.map_congr_left fun f hf => ?_
    show (f.1, if f.2 = g then r else md f.2) = (f.1, md f.2)
    rw [if_neg (h f hf)]
  · simp
theorem RDets.add {w : World} {S : Nat → Prop} {L : List Ent} {ρ : Nat → Option Nat} {md : Nat → R} (h : RDets w S L ρ md) {x : ID} {g : Nat} {row : Option Nat} {r : R} (hh : RHas w g row r) (ok : r.Ok) (hS : S g) (hSr : ∀ q, row = some q → S q)
    (h1 : ∀ f ∈ L, f.2 ≠ g) (h2 : ∀ f ∈ L, ∀ q, row = some q → ρ f.2 ≠ some q) : RDets w S (L ++ [(x, g)]) (fun y => if y = g then row else ρ y) (fun y => if y = g then r else md y) := by
  refine ⟨fun f hf => ?_, fun f hf f2 hf2 q hq hq2 => ?_, ?_, h.lt⟩
  · rcases List.mem_append.1 hf with hf | hf
    · rw [if_neg (h1 f hf), if_neg (h1 f hf)]; exact h.has f hf
    · rw [List.mem_singleton] at hf; subst hf
      simp only [if_true]
      exact ⟨hh, ok, hS, hSr⟩
  · rcases List.mem_append.1 hf with hf | hf <;> rcases List.mem_append.1 hf2 with hf2 | hf2
    · rw [if_neg (h1 f hf)] at hq; rw [if_neg (h1 f2 hf2)] at hq2
      exact h.ap f hf f2 hf2 q hq hq2
    · rw [List.mem_singleton] at hf2; subst hf2
      rw [if_neg (h1 f hf)] at hq; simp only [if_true] at hq2
      exact absurd hq (h2 f hf q hq2)
    · rw [List.mem_singleton] at hf; subst hf
      rw [if_neg (h1 f2 hf2)] at hq2; simp only [if_true] at hq
      exact absurd hq2 (h2 f2 hf2 q hq)
    · rw [List.mem_singleton] at hf hf2; rw [hf, hf2]
  · rw [List.map_append, List.nodup_append]
    refine ⟨h.one, by simp, fun a ha b hb e => ?_⟩
    simp only [List.map_cons, List.map_nil, List.mem_singleton] at hb
    obtain ⟨f, hf, rfl⟩ := List.mem_map.1 ha
    exact h1 f hf (e.trans hb)
theorem RDets.keepB {w w' : World} {S : Nat → Prop} {L L2 : List Ent} {ρ : Nat → Option Nat} {md : Nat → R} (h : RDets w S L ρ md) {row : Option Nat} {A : Option Addr} {n c : Nat} (hs : SlK w 69 3 row A n c (L2.flatMap cO)) (hk : Keep (fun y => row = some y) w w') : RDets w' S L ρ md :=
  ⟨fun e he => by
    obtain ⟨h1, h2, h3, h4⟩ := h.has e he
    refine ⟨h1.keepS hk (fun hr => ?_) (fun q hq hr => ?_), h2, h3, h4⟩
    · obtain ⟨cs, hb⟩ := hs.row_at _ hr
      exact (h1.ne_blk hb (by decide) (by decide)).1 rfl
    · obtain ⟨cs, hb⟩ := hs.row_at _ hr
      exact (h1.ne_blk hb (by decide) (by decide)).2 hq, h.ap, h.one, fun g hg => Nat.lt_of_lt_of_le (h.lt g hg) hk.size⟩
theorem infoO : (Try.prog.info? 69).map (fun i => (i.zero, i.size, i.bytes)) = some (some (.agg #[.int .i64 0, .int .i64 0, .pointer none]), 3, 24) := by kernel_rfl
theorem one_flatO (l : List Ent) : ∀ u ∈ l.flatMap cO, u.oneCell' = true := by
  intro u hu
  rw [List.mem_flatMap] at hu
  obtain ⟨x, _, hx⟩ := hu
  simp at hx
  rcases hx with rfl | rfl | rfl <;> rfl
set_option maxHeartbeats 4000000 in
theorem rwcopy_any {w : World} {b : Nat} {S : Nat → Prop} {mn mx wd : Int} {L : List Ent} {md : Nat → R} (h : RWt w b S mn mx wd L md) (hL : L.length ≤ 1000) (hg : ∀ e ∈ L, (md e.2).gaps.length ≤ 4000) :
    Calls Try.prog 19 #[.pointer (some ⟨b, 0, none⟩)] w fun e w' => ∃ b' S' L' md', e = .returned (.pointer (some ⟨b', 0, none⟩)) ∧ RWt w' b' S' mn mx wd L' md' ∧ vw L' md' = vw L md ∧ (∀ g, S' g → w.heap.size ≤ g) ∧ Keep (fun _ => False) w w' := by
  obtain ⟨row, A, c, ρ, hb, hs, h3, h4, hd⟩ := h
  have HB := Lib.hid hb
  have HS := Lib.hid hs
  have HD := Lib.hid hd
  have HG := Lib.hid hg
  obtain ⟨i0, hi, hz0, hz1, hz2⟩ := info_parts infoO
  have HI0 := Lib.hid hi
  have HZ0 := Lib.hid hz0
  have HZ1 := Lib.hid hz1
  have HZ2 := Lib.hid hz2
  clear hi hz0 hz1 hz2 hb hs hd h3 h4 hg
  go_enter Try.func19, Try.ntmps19
  go_upto_region 1 with (fail)
  refine wp_region_krip (Keep (fun _ => False)) (Keep.refl _) keep0_trans 12 (by kernel_rfl) (by kernel_rfl) (Ts := [none, none, none, some (.inl (.int .i64 mn)), none, none, none, some (.inl (.int .i64 mx)), none, none, none, some (.inl (.int .i64 wd))]) ?_
  simp only [List.take, List.drop]
  refine kAll_p (fun K hK => ?_)
  go_simp
  generalize hZ : (Act.mk _ _) = Z
  refine hK Z ?_
  subst hZ
  clear hK K
  refine kAll_p (fun K hK => ?_)
  go_simp
  generalize hZ : (Act.mk _ _) = Z
  refine hK Z ?_
  subst hZ
  clear hK K
  refine kAll_p (fun K hK => ?_)
  go_simp
  generalize hZ : (Act.mk _ _) = Z
  refine hK Z ?_
  subst hZ
  clear hK K
  refine kAll_d _ (fun W hW hF => kStep_of fun K Q hK => ?_) ?_
  · have hcell := (HB.out.drew.keep hW (fun h => h)).cell 0
    simp at hcell
    go_simp
    exact hK _ _ (Keep.refl _ _) rfl
  refine kAll_p (fun K hK => ?_)
  go_simp
  generalize hZ : (Act.mk _ _) = Z
  refine hK Z ?_
  subst hZ
  clear hK K
  refine kAll_p (fun K hK => ?_)
  go_simp
  generalize hZ : (Act.mk _ _) = Z
  refine hK Z ?_
  subst hZ
  clear hK K
  refine kAll_p (fun K hK => ?_)
  go_simp
  generalize hZ : (Act.mk _ _) = Z
  refine hK Z ?_
  subst hZ
  clear hK K
  refine kAll_d _ (fun W hW hF => kStep_of fun K Q hK => ?_) ?_
  · have hcell := (HB.out.drew.keep hW (fun h => h)).cell 1
    simp at hcell
    go_simp
    exact hK _ _ (Keep.refl _ _) rfl
  refine kAll_p (fun K hK => ?_)
  go_simp
  generalize hZ : (Act.mk _ _) = Z
  refine hK Z ?_
  subst hZ
  clear hK K
  refine kAll_p (fun K hK => ?_)
  go_simp
  generalize hZ : (Act.mk _ _) = Z
  refine hK Z ?_
  subst hZ
  clear hK K
  refine kAll_p (fun K hK => ?_)
  go_simp
  generalize hZ : (Act.mk _ _) = Z
  refine hK Z ?_
  subst hZ
  clear hK K
  refine kAll_d _ (fun W hW hF => kStep_of fun K Q hK => ?_) ?_
  · have hcell := (HB.out.drew.keep hW (fun h => h)).cell 2
    simp at hcell
    go_simp
    exact hK _ _ (Keep.refl _ _) rfl
  refine kAll_nil (fun W1 hW hF => ?_)
  have HK1 := Lib.hid (keepD (Keep.refl _ _) hW)
  clear hF hW
  go_wp2
  have hbc := Blk.new W1 66 #[.int .i64 mn, .int .i64 mx, .int .i64 wd, .slice none 0 0]
  have hkc : Keep (fun _ => False) W1 (W1.alloc (.cells #[.int .i64 mn, .int .i64 mx, .int .i64 wd, .slice none 0 0] 66)) := (Keep.refl _ W1).alloc _
  obtain ⟨bc, hbcn⟩ : ∃ bc, W1.heap.size = bc := ⟨_, rfl⟩
  have HBcn := Lib.hid (show w.heap.size ≤ bc by rw [← hbcn]; exact HK1.out.size)
  rw [hbcn] at hbc ⊢
  generalize hw : W1.alloc (.cells #[.int .i64 mn, .int .i64 mx, .int .i64 wd, .slice none 0 0] 66) = W2 at *
  have HBc := Lib.hid hbc
  have HK2 := Lib.hid (keep0_trans _ _ _ HK1.out hkc)
  clear hw hbc hkc hbcn HK1
  go_loopw [4] (fun j wr => ∃ (k : Nat) (L2 : List Ent) (md2 : Nat → R) (ρ2 : Nat → Option Nat) (row2 : Option Nat) (A2 : Option Addr) (c2 : Nat), k ≤ L.length ∧ j = .int .i64 (k : Int) ∧ Hid (Blk wr bc 66 #[.int .i64 mn, .int .i64 mx, .int .i64 wd, .slice A2 k c2]) ∧
      Hid (SlK wr 69 3 row2 A2 k c2 (L2.flatMap cO)) ∧ Hid (∀ g, row2 = some g → bc < g) ∧ Hid (RDets wr (fun g => bc ≤ g ∧ g < wr.heap.size) L2 ρ2 md2) ∧ Hid (vw L2 md2 = (vw L md).take k) ∧ Hid (L2.length = k) ∧ Hid (Keep (fun _ => False) w wr)) (fun j _ => L.length - (intOf j).toNat)
  case atStart => exact ⟨0, [], md, ρ, none, none, 0, Nat.zero_le _, rfl, HBc, Lib.hid (SlK.nil_ _ _ _), Lib.hid (fun g hg => by cases hg), Lib.hid (RDets.nil_ _ _ (fun g hg => hg.2) _ _), Lib.hid (by simp [vw]), Lib.hid rfl, HK2⟩
  case round =>
    obtain ⟨k, L2, md2, ρ2, row2, A2, c2, hk, rfl, HBk, HS2, HRw, HD2, HV, HLn, HK⟩ := hrel
    have e2 : IntKind.i64.wrap ((k : Int) + 1) = (k : Int) + 1 := IntWalk.i64_in _ (by omega)
    have c3 := (HB.out.keep HK.out (fun h => h)).cell 3
    simp at c3
    by_cases hkl : k < L.length
    · obtain ⟨g0, off0, hA, p0, p1, p2⟩ := (HS.out.keep HK.out (fun _ _ h => h)).ent rfl hkl
      have hmem := ent_mem hkl
      obtain ⟨h1, h2, _, _⟩ := HD.out.has _ hmem
      have HVn := Lib.hid (show (vw L md).take (k + 1) = (vw L md).take k ++ [((L.getD k ent0).1, md (L.getD k ent0).2)] from by
        have hl : k < (vw L md).length := by rw [vw_len]; exact hkl
        rw [List.take_succ_eq_append_getElem hl]
        congr 1
        simp [vw, List.getD, hkl])
      have hgl := HG.out _ hmem
      subst hA
      generalize L.getD k ent0 = f at p0 p1 p2 h1 h2 HVn hgl
      obtain ⟨⟨a, i⟩, g⟩ := f
      simp only at p0 p1 p2
      have HG0 := Lib.hid (show g0 < w.heap.size from HS.out.lt g0 (by
        rcases HS.out.2.2.2 with ⟨_, e3, _⟩ | ⟨g4, off4, cur, e1, e3, _⟩
        · cases e3
        · injection e3 with e3; injection e3 with e3 _; rw [e1, e3]))
      have HH := Lib.hid h1
      have HOk := Lib.hid h2
      have HGl := Lib.hid hgl
      have HP0 := Lib.hid p0
      have HP1 := Lib.hid p1
      have HP2 := Lib.hid p2
      have HRl := Lib.hid HS2.out.lt
      have q1 : (k : Int) < (L.length : Int) := by omega
      have q2 : (0 : Int) ≤ (k : Int) := by omega
      have HNb := Lib.hid (show ¬ row2 = some b from fun e => by have := HRw.out b e; have := HB.out.lt; have := HBcn.out; omega)
      have HNc := Lib.hid (show ¬ row2 = some bc from fun e => by have := HRw.out bc e; omega)
      have HNg := Lib.hid (show ¬ row2 = some g0 from fun e => by have := HRw.out g0 e; have := HG0.out; have := HBcn.out; omega)
      have HNd := Lib.hid (show ¬ row2 = some g from fun e => by have := HRw.out g e; have := h1.blk_lt; have := HBcn.out; omega)
      have HNr := Lib.hid (show ∀ y, ρ g = some y → ¬ row2 = some y from fun y hy e => by have := HRw.out y e; have := h1.row_lt y hy; have := HBcn.out; omega)
      clear p0 p1 p2 h1 h2 hgl hmem
      go_upto_region 5 with (fail)
      refine wp_region_kpiv (Keep (fun y => row2 = some y)) (Keep (fun _ => False)) 24 (Keep.refl _) (keepT_trans _) (Keep.refl _) keep0_trans (fun _ _ h => h.mono fun _ _ e => e.elim) 25 (by kernel_rfl) (by kernel_rfl) (Ts := [none, none, none, none, some (.inl (.slice A2 k c2)), none, none, none, some (.inl (.slice (some ⟨g0, off0, none⟩) L.length c)), none, none, none, some (.inl (idV (a, i))), none, none, none, some (.inl (.slice (some ⟨g0, off0, none⟩) L.length c)), none, none, none, some (.inl (.pointer (some ⟨g, 0, none⟩))), some (.inr (fun v W => ∃ (g2 : Nat) (row3 : Option Nat), v = .pointer (some ⟨g2, 0, none⟩) ∧ RHas W g2 row3 (md g) ∧ wr.heap.size ≤ g2 ∧ ∀ y, row3 = some y → wr.heap.size ≤ y)), some (.inr (fun v W => ∃ (g2 : Nat) (row3 : Option Nat), v = .agg #[.int .i64 a, .int .i64 i, .pointer (some ⟨g2, 0, none⟩)] ∧ RHas W g2 row3 (md g) ∧ wr.heap.size ≤ g2 ∧ ∀ y, row3 = some y → wr.heap.size ≤ y)), some (.inr (fun v W => ∃ (gB g2 : Nat) (row3 : Option Nat), v = .slice (some ⟨gB, 0, none⟩) 1 1 ∧ (Blk W gB 69 #[.int .i64 a, .int .i64 i, .pointer (some ⟨g2, 0, none⟩)] ∧ wr.heap.size ≤ gB) ∧ RHas W g2 row3 (md g) ∧ wr.heap.size ≤ g2 ∧ ∀ y, row3 = some y → wr.heap.size ≤ y)), some (.inr (fun v W => ∃ (row4 : Option Nat) (A4 : Option Addr) (c4 g2 : Nat) (row3 : Option Nat), v = .slice A4 (k + 1) c4 ∧ (SlK W 69 3 row4 A4 (k + 1) c4 ((L2 ++ [((a, i), g2)]).flatMap cO) ∧ (row4 = row2 ∨ ∃ y, row4 = some y ∧ wr.heap.size ≤ y)) ∧ RHas W g2 row3 (md g) ∧ wr.heap.size ≤ g2 ∧ ∀ y, row3 = some y → wr.heap.size ≤ y))]) ?_
      simp only [List.take, List.drop]
      refine kAllP_p (fun K hK => ?_)
      go_simp
      generalize hZ : (Act.mk _ _) = Z
      refine hK Z ?_
      subst hZ
      clear hK K
      refine kAllP_p (fun K hK => ?_)
      go_simp
      generalize hZ : (Act.mk _ _) = Z
      refine hK Z ?_
      subst hZ
      clear hK K
      refine kAllP_p (fun K hK => ?_)
      go_simp
      generalize hZ : (Act.mk _ _) = Z
      refine hK Z ?_
      subst hZ
      clear hK K
      refine kAllP_p (fun K hK => ?_)
      go_simp
      generalize hZ : (Act.mk _ _) = Z
      refine hK Z ?_
      subst hZ
      clear hK K
      refine kAllP_d _ (by decide) (fun W hW hF => kStep_of fun K Q hK => ?_) ?_
      · have hcell := (HBk.out.keep (keepDT hW) HNc.out).cell 3
        simp at hcell
        go_simp
        exact hK _ _ (Keep.refl _ _) rfl
      refine kAllP_p (fun K hK => ?_)
      go_simp
      generalize hZ : (Act.mk _ _) = Z
      refine hK Z ?_
      subst hZ
      clear hK K
      refine kAllP_p (fun K hK => ?_)
      go_simp
      generalize hZ : (Act.mk _ _) = Z
      refine hK Z ?_
      subst hZ
      clear hK K
      refine kAllP_p (fun K hK => ?_)
      go_simp
      generalize hZ : (Act.mk _ _) = Z
      refine hK Z ?_
      subst hZ
      clear hK K
      refine kAllP_d _ (by decide) (fun W hW hF => kStep_of fun K Q hK => ?_) ?_
      · have hcell := ((HB.out.keep HK.out (fun h => h)).keep (keepDT hW) HNb.out).cell 3
        simp at hcell
        go_simp
        exact hK _ _ (Keep.refl _ _) rfl
      refine kAllP_p (fun K hK => ?_)
      go_simp
      generalize hZ : (Act.mk _ _) = Z
      refine hK Z ?_
      subst hZ
      clear hK K
      refine kAllP_p (fun K hK => ?_)
      go_simp
      generalize hZ : (Act.mk _ _) = Z
      refine hK Z ?_
      subst hZ
      clear hK K
      refine kAllP_p (fun K hK => ?_)
      go_simp
      generalize hZ : (Act.mk _ _) = Z
      refine hK Z ?_
      subst hZ
      clear hK K
      refine kAllP_d _ (by decide) (fun W hW hF => kStep_of fun K Q hK => ?_) ?_
      · have e0 := (keepDT hW).cell HP0.out HNg.out
        have e1 := (keepDT hW).cell HP1.out HNg.out
        go_simp
        exact hK _ _ (Keep.refl _ _) rfl
      refine kAllP_p (fun K hK => ?_)
      go_simp
      generalize hZ : (Act.mk _ _) = Z
      refine hK Z ?_
      subst hZ
      clear hK K
      refine kAllP_p (fun K hK => ?_)
      go_simp
      generalize hZ : (Act.mk _ _) = Z
      refine hK Z ?_
      subst hZ
      clear hK K
      refine kAllP_p (fun K hK => ?_)
      go_simp
      generalize hZ : (Act.mk _ _) = Z
      refine hK Z ?_
      subst hZ
      clear hK K
      refine kAllP_d _ (by decide) (fun W hW hF => kStep_of fun K Q hK => ?_) ?_
      · have hcell := ((HB.out.keep HK.out (fun h => h)).keep (keepDT hW) HNb.out).cell 3
        simp at hcell
        go_simp
        exact hK _ _ (Keep.refl _ _) rfl
      refine kAllP_p (fun K hK => ?_)
      go_simp
      generalize hZ : (Act.mk _ _) = Z
      refine hK Z ?_
      subst hZ
      clear hK K
      refine kAllP_p (fun K hK => ?_)
      go_simp
      generalize hZ : (Act.mk _ _) = Z
      refine hK Z ?_
      subst hZ
      clear hK K
      refine kAllP_p (fun K hK => ?_)
      go_simp
      generalize hZ : (Act.mk _ _) = Z
      refine hK Z ?_
      subst hZ
      clear hK K
      refine kAllP_d _ (by decide) (fun W hW hF => kStep_of fun K Q hK => ?_) ?_
      · have e0 := (keepDT hW).cell HP2.out HNg.out
        go_simp
        exact hK _ _ (Keep.refl _ _) rfl
      refine kAllP_u _ (by decide) (fun _ _ _ hk h => by obtain ⟨g2, row3, e, h1, h2, h3⟩ := h; exact ⟨g2, row3, e, h1.keepS hk (fun q => by have := HRl.out _ q; omega) (fun y hy q => by have := HRl.out _ q; have := h3 y hy; omega), h2, h3⟩) (fun W hW hF => kStep_of fun K Q hK => ?_) (fun u0 => ?_)
      · go_simp
        refine (rdcopy_any W ((HH.out.keepS HK.out (fun h => h) (fun _ _ h => h)).keepS (keepDT hW) HNd.out HNr.out) (by have := HGl.out; omega)).mono ?_
        rintro e w' ⟨g2, row3, rfl, h1, h2, h3, hk⟩
        have hs := (keepDT hW).size
        exact hK _ _ hk ⟨g2, row3, rfl, h1, by omega, fun y hy => by have := h3 y hy; omega⟩
      refine kAllP_u _ (by decide) (fun _ _ _ hk h => by obtain ⟨g2, row3, e, h1, h2, h3⟩ := h; exact ⟨g2, row3, e, h1.keepS hk (fun q => by have := HRl.out _ q; omega) (fun y hy q => by have := HRl.out _ q; have := h3 y hy; omega), h2, h3⟩) (fun W hW hF => kStep_of fun K Q hK => ?_) (fun u1 => ?_)
      · obtain ⟨g2, row3, rfl, h1, h2, h3⟩ := kHas_at hF 0 rfl (by kernel_rfl)
        go_simp
        exact hK _ _ (Keep.refl _ _) ⟨g2, row3, rfl, h1, h2, h3⟩
      refine kAllP_u _ (by decide) (fun _ _ _ hk h => by obtain ⟨gB, g2, row3, e, ⟨hb, hl⟩, h1, h2, h3⟩ := h; exact ⟨gB, g2, row3, e, ⟨hb.keep hk (fun q => by have := HRl.out _ q; omega), hl⟩, h1.keepS hk (fun q => by have := HRl.out _ q; omega) (fun y hy q => by have := HRl.out _ q; have := h3 y hy; omega), h2, h3⟩) (fun W hW hF => kStep_of fun K Q hK => ?_) (fun u2 => ?_)
      · obtain ⟨g2, row3, rfl, h1, h2, h3⟩ := kHas_at hF 0 rfl (by kernel_rfl)
        go_simp
        have hs := (keepDT hW).size
        exact hK _ _ ((Keep.refl _ _).alloc _) ⟨_, g2, row3, rfl, ⟨Blk.new _ _ _, hs⟩, h1.keepS ((Keep.refl (fun _ => False) _).alloc _) (fun h => h) (fun _ _ h => h), h2, h3⟩
      refine kAllP_t _ rfl (fun _ _ _ hk h => by obtain ⟨row4, A4, c4, g2, row3, e, ⟨hs, hr⟩, h1, h2, h3⟩ := h; exact ⟨row4, A4, c4, g2, row3, e, ⟨hs.keep hk (fun _ _ h => h), hr⟩, h1.keepS hk (fun h => h) (fun _ _ h => h), h2, h3⟩) (fun W hW hF => kStep_of fun K Q hK => ?_) (fun u3 => ?_)
      · obtain ⟨gB, g2, row3, rfl, ⟨hb, hl⟩, h1, h2, h3⟩ := kHas_at hF 0 rfl (by kernel_rfl)
        refine wp_append_slK _ _ _ rfl i0 _ 24 Try.underlying64 HI0.out HZ0.out HZ1.out HZ2.out rfl (by omega) (HS2.out.keep (keepDT hW) (fun _ _ h => h)) rfl rfl (RdK.of_blk hb 1 3 rfl) (one_flatO [((a, i), g2)]) (by unfold maxLen; omega) (by omega) (fun row4 A4 c4 w4 hs4 hr4 => ?_)
        have hgr : Grew row2 A2 c2 W row4 A4 c4 w4 := hr4.resolve_left (fun h => by have := h.1; omega)
        have hs := (keepDT hW).size
        refine hK _ _ hgr.keep ⟨row4, A4, c4, g2, row3, rfl, ⟨by rw [List.flatMap_append]; exact hs4, ?_⟩, h1.keepS hgr.keep (fun q => by have := HRl.out _ q; omega) (fun y hy q => by have := HRl.out _ q; have := h3 y hy; omega), h2, h3⟩
        rcases hgr with ⟨e, _⟩ | ⟨_, y, e, hy⟩
        · exact .inl e
        · exact .inr ⟨y, e, by omega⟩
      refine kAllP_nil (fun W5 hW hF => ?_)
      obtain ⟨row4, A4, c4, g2, row3, rfl, ⟨hs4, hr4⟩, hh, hg2, hr3⟩ : ∃ (row4 : Option Nat) (A4 : Option Addr) (c4 g2 : Nat) (row3 : Option Nat), u3 = .slice A4 (k + 1) c4 ∧ (SlK W5 69 3 row4 A4 (k + 1) c4 ((L2 ++ [((a, i), g2)]).flatMap cO) ∧ (row4 = row2 ∨ ∃ y, row4 = some y ∧ wr.heap.size ≤ y)) ∧ RHas W5 g2 row3 (md g) ∧ wr.heap.size ≤ g2 ∧ ∀ y, row3 = some y → wr.heap.size ≤ y := kAllHas_at hF 0 rfl
      have hq := keepDT hW
      have hbk := HBk.out.keep hq HNc.out
      have q5 := hbk.cell 3
      have f5 := hbk.frozen 3
      simp at q5
      have HBk5 := Lib.hid hbk
      have HD5 := Lib.hid (HD2.out.keepB HS2.out hq)
      have HK5 := Lib.hid (HK.out.trans (hq.mono fun y _ e => .inr (by have := HRw.out y e; have := HBcn.out; omega)))
      have HSz5 := Lib.hid hq.size
      have HS5 := Lib.hid hs4
      have HR5 := Lib.hid hr4
      have HH5 := Lib.hid hh
      have HG5 := Lib.hid hg2
      have HR3 := Lib.hid hr3
      clear hF hW hq hbk hs4 hr4 hh hg2 hr3
      go_wp2
      have hbl := HBk.out.lt
      have hkk : Keep (fun y => y = bc) W5 (W5.setCell ⟨bc, 3, none⟩ (.slice A4 (k + 1) c4)) := (Keep.refl (fun y => y = bc) W5).setCell (fun _ => rfl) _
      have hne4 : ∀ y, row4 = some y → bc < y := fun y hy => by
        rcases HR5.out with e | ⟨z, e, hz⟩
        · exact HRw.out y (by rw [← e, hy])
        · rw [hy] at e; injection e with e; omega
      have hsz := HSz5.out
      have hg5 := HG5.out
      have hh6 : RHas (W5.setCell ⟨bc, 3, none⟩ (.slice A4 (k + 1) c4)) g2 row3 (md g) := HH5.out.keepS hkk (fun e => by omega) (fun y hy e => by have := HR3.out y hy; omega)
      have hd6 : RDets (W5.setCell ⟨bc, 3, none⟩ (.slice A4 (k + 1) c4)) (fun y => bc ≤ y ∧ y < (W5.setCell ⟨bc, 3, none⟩ (.slice A4 (k + 1) c4)).heap.size) L2 ρ2 md2 := by
        refine RDets.more (S := fun y => bc ≤ y ∧ y < wr.heap.size) ⟨fun e he => ?_, HD5.out.ap, HD5.out.one, fun y hy => Nat.lt_of_lt_of_le (HD5.out.lt y hy) hkk.size⟩ (fun y hy => ⟨hy.1, by have := hkk.size; omega⟩) (fun y hy => hy.2)
        obtain ⟨z1, z2, z3, z4⟩ := HD5.out.has e he
        exact ⟨z1.keepS hkk (fun h => (z1.ne_blk HBk5.out (by decide) (by decide)).1 h.symm) (fun y hy h => (z1.ne_blk HBk5.out (by decide) (by decide)).2 (h ▸ hy)), z2, z3, z4⟩
      have hfr : ∀ f ∈ L2, f.2 ≠ g2 := fun f hf e => by
        have := (HD2.out.has f hf).1.blk_lt; omega
      have hadd := hd6.add (x := (a, i)) hh6 HOk.out ⟨by omega, hh6.blk_lt⟩ (fun y hy => ⟨by have := HR3.out y hy; omega, hh6.row_lt y hy⟩) hfr (fun f hf y hy hy2 => by
        have := (HD2.out.has f hf).1.row_lt y hy2; have := HR3.out y hy; omega)
      have HBk6 := Lib.hid (show Blk (W5.setCell ⟨bc, 3, none⟩ (.slice A4 (k + 1) c4)) bc 66 #[.int .i64 mn, .int .i64 mx, .int .i64 wd, .slice A4 (k + 1) c4] from by simpa using HBk5.out.set_ 3 (.slice A4 (k + 1) c4))
      have HS6 := Lib.hid (HS5.out.keep hkk (fun y hy e => by have := hne4 y hy; omega))
      have HD6 := Lib.hid hadd
      have HN4 := Lib.hid hne4
      have HV6 := Lib.hid (show vw (L2 ++ [((a, i), g2)]) (fun y => if y = g2 then md g else md2 y) = (vw L md).take (k + 1) from by rw [vw_add hfr, HV.out, HVn.out])
      have HK6 := Lib.hid (HK5.out.trans (hkk.mono fun y _ e => .inr (by have := HBcn.out; omega)))
      clear hkk hne4 hh6 hd6 hfr hadd
      go_roundw
      case rel => exact ⟨k + 1, L2 ++ [((a, i), g2)], _, _, row4, A4, c4, by omega, by go_num, HBk6, HS6, HN4, HD6, HV6, Lib.hid (by have := HLn.out; simp; omega), HK6⟩
      case measure => simp [intOf]; omega
    · obtain rfl : k = L.length := by omega
      go_wp2
      go_ret
      have e6 : (vw L md).take L.length = vw L md := List.take_of_length_le (by rw [vw_len]; omega)
      have hv := HV.out
      rw [e6] at hv
      have hln := HLn.out
      refine ⟨bc, fun y => bc ≤ y ∧ y < wr.heap.size, L2, md2, rfl, ⟨row2, A2, c2, ρ2, ?_, ?_, ⟨Nat.le_refl _, HBk.out.lt⟩, fun y hy => ⟨Nat.le_of_lt (HRw.out y hy), HS2.out.lt y hy⟩, HD2.out⟩, hv, fun y hy => Nat.le_trans HBcn.out hy.1, HK.out⟩
      · rw [hln]; exact HBk.out
      · rw [hln]; exact HS2.out
end Go.Proofs.Ytenphdgnaknbeaa
