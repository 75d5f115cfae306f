/-
  ident.Compare: it lays blocks and draws, and no more: as the sort asks it ('CmpLays').
-/
import Derived.Test.YtenphdgnaknbeaaSetP
import Derived.Shelf.SlSortCmp.NoneTotal
namespace Go.Proofs.Ytenphdgnaknbeaa
open Go.RowKit Go.Sort Go.Lib
attribute [local go_sem] kQuiet kQuietUpon

/-- new memory at most, and draws -/
def KD (w w' : World) : Prop := Keep (fun _ => False) w w' ∧ w.drawn ≤ w'.drawn
theorem KD.refl (w : World) : KD w w := ⟨Keep.refl _ w, Nat.le_refl _⟩
theorem KD.trans (a b c : World) (h : KD a b) (k : KD b c) : KD a c := ⟨keep0_trans _ _ _ h.1 k.1, Nat.le_trans h.2 k.2⟩
theorem KD.alloc (w : World) (o : Obj) : KD w (w.alloc o) := ⟨(Keep.refl _ w).alloc o, Nat.le_refl _⟩
theorem KD.grows {w w' : World} (h : KD w w') : ∃ q os, w' = grow (w.drewN q) os := by
  obtain ⟨⟨h1, h2, h3, h4, h5⟩, h6⟩ := h
  refine ⟨w'.drawn - w.drawn, w'.heap.extract w.heap.size w'.heap.size, ?_⟩
  obtain ⟨hp, tp, dr, os, ou⟩ := w'
  obtain ⟨hp0, tp0, dr0, os0, ou0⟩ := w
  simp only at h1 h2 h3 h4 h5 h6
  subst h1 h2 h3
  unfold grow World.drewN
  simp only [World.mk.injEq, and_true, true_and]
  refine ⟨?_, by omega⟩
  apply Array.ext_getElem?
  intro i
  by_cases hi : i < hp0.size
  · rw [h5 i hi (fun h => h), Array.getElem?_append_left hi]
  · rw [Array.getElem?_append_right (by omega), Array.getElem?_extract]
    by_cases h7 : i < hp.size
    · rw [if_pos (by omega)]; congr 1; omega
    · rw [if_neg (by omega), Array.getElem?_eq_none (by omega)]
set_option maxRecDepth 100000 in
set_option maxHeartbeats 1000000 in
theorem cmpID_kd (p q : ID) (w : World) : Calls Try.prog 56 #[idV p, idV q] w (fun e w' => e = .returned (.int .i64 (cmpID p q)) ∧ KD w w') := by
  obtain ⟨a, i⟩ := p
  obtain ⟨b, j⟩ := q
  have b0 := (Blk.new w 33 #[.int .i64 a, .int .i64 i]).alloc (.cells #[.int .i64 b, .int .i64 j] 33)
  have b1 := Blk.new_ (w := w.alloc (.cells #[.int .i64 a, .int .i64 i] 33)) (B := w.heap.size + 1) (by simp) 33 #[.int .i64 b, .int .i64 j]
  have B0 := Lib.hid b0
  have B1 := Lib.hid b1
  have hk0 := ((Keep.refl (fun _ => False) w).alloc (.cells #[.int .i64 a, .int .i64 i] 33)).alloc (.cells #[.int .i64 b, .int .i64 j] 33)
  have HK0 := Lib.hid hk0
  clear b0 b1 hk0
  go_enter Try.func56, Try.ntmps56
  go_wp2
  refine wp_region_krip KD KD.refl KD.trans 13 (by kernel_rfl) (by kernel_rfl) (Ts := [none, some (.inl (.int .i64 a)), none, some (.inl (.int .i64 b)), some (.inl (.int .i64 (cmpI a b))), none, some (.inl (.int .i64 i)), none, some (.inl (.int .i64 j)), some (.inl (.int .i64 (cmpI i j))), some (.inr (fun v W => ∃ g, v = .slice (some ⟨g, 0, none⟩) 2 2 ∧ W.cell? ⟨g, 0, none⟩ = some (.int .i64 (cmpI a b)) ∧ W.cell? ⟨g, 0 + 1, none⟩ = some (.int .i64 (cmpI i j)))), some (.inl (.int .i64 (cmpID (a, i) (b, j)))), none]) ?_
  simp only [List.take, List.drop]
  refine kAll_p (fun K hK => ?_)
  go_simp
  refine hK _ ?_
  clear hK K
  refine kAll_d _ (fun W hW hF => kStep_of fun K Q hK => ?_) ?_
  · have hcell := (B0.out.drew.keep hW.1 (fun h => h)).cell 0
    go_simp
    exact hK _ _ (KD.refl _) rfl
  refine kAll_p (fun K hK => ?_)
  go_simp
  refine hK _ ?_
  clear hK K
  refine kAll_d _ (fun W hW hF => kStep_of fun K Q hK => ?_) ?_
  · have hcell := (B1.out.drew.keep hW.1 (fun h => h)).cell 0
    go_simp
    exact hK _ _ (KD.refl _) rfl
  refine kAll_d _ (fun W hW hF => kStep_of fun K Q hK => ?_) ?_
  · go_simp
    refine (cmp_any a b W).mono ?_
    rintro e w' ⟨rfl, rfl⟩
    exact hK _ _ (KD.refl _) rfl
  refine kAll_p (fun K hK => ?_)
  go_simp
  refine hK _ ?_
  clear hK K
  refine kAll_d _ (fun W hW hF => kStep_of fun K Q hK => ?_) ?_
  · have hcell := (B0.out.drew.keep hW.1 (fun h => h)).cell 1
    go_simp
    exact hK _ _ (KD.refl _) rfl
  refine kAll_p (fun K hK => ?_)
  go_simp
  refine hK _ ?_
  clear hK K
  refine kAll_d _ (fun W hW hF => kStep_of fun K Q hK => ?_) ?_
  · have hcell := (B1.out.drew.keep hW.1 (fun h => h)).cell 1
    go_simp
    exact hK _ _ (KD.refl _) rfl
  refine kAll_d _ (fun W hW hF => kStep_of fun K Q hK => ?_) ?_
  · go_simp
    refine (cmp_any i j W).mono ?_
    rintro e w' ⟨rfl, rfl⟩
    exact hK _ _ (KD.refl _) rfl
  refine kAll_t _ (fun v W W' hk ⟨g, h1, h2, h3⟩ => ⟨g, h1, hk.1.cell h2 (fun h => h), hk.1.cell h3 (fun h => h)⟩) (fun W hW hF => kStep_of fun K Q hK => ?_) (fun _ => ?_)
  · go_simp
    exact hK _ _ (KD.alloc _ _) ⟨W.heap.size, rfl, (Blk.new W _ _).cell 0, (Blk.new W _ _).cell 1⟩
  refine kAll_d _ (fun W hW hF => kStep_of fun K Q hK => ?_) ?_
  · go_simp
    obtain ⟨g, rfl, h1, h2⟩ := kHas_at hF 0 rfl (by kernel_rfl)
    refine (or_any g 0 _ _ W h1 h2).mono ?_
    rintro e w' ⟨rfl, rfl⟩
    exact hK _ _ (KD.refl _) rfl
  refine kAll_p (fun K hK => ?_)
  go_simp
  refine hK _ ?_
  clear hK K
  refine kAll_nil (fun W hW hF => ?_)
  clear hF
  go_wp2
  go_ret
  exact ⟨rfl, keepD HK0.out hW.1, Nat.le_trans (Nat.le_succ _) hW.2⟩
end Go.Proofs.Ytenphdgnaknbeaa
