/-
  Contracts of accrual's Begin and Heard.
-/
import Derived.Test.YtenphdgnaknbeaaAccB
import Derived.Deep.RegionLaw
import Derived.Deep.DeepCutAuto
import Derived.BigRegion
namespace Go.Proofs.Ytenphdgnaknbeaa
open Go.RowKit

/-- What a call does to a detector: d' is there now, its gaps in row'; of the old memory only its own two blocks may have turned. -/
def Turns (b : Nat) (row : Option Nat) (d' : D) (w : World) (e : Ending) (w' : World) : Prop :=
  e = .returned (.tuple #[]) ∧ ∃ row', Has w' b row' d' ∧ Keep (fun k => k = b ∨ row = some k) w w' ∧ (row' = row ∨ ∃ g, row' = some g ∧ w.heap.size ≤ g)

theorem int_info : (Try.prog.info? 3).map (fun i => (i.zero, i.size, i.bytes)) = some (some (.int .i64 0), 1, 8) := by kernel_rfl

set_option maxHeartbeats 400000 in
theorem begin_none (b : Nat) (row : Option Nat) (d : D) (now : Int) (w : World) (h : Has w b row d) (h0 : d.last = -1) :
    Calls Try.prog 29 #[.pointer (some ⟨b, 0, none⟩), .int .i64 now] w (Turns b row (d.begin_ now) w) := by
  have hd : d.begin_ now = { d with last := atv d.last now } := by simp [D.begin_, h0]
  have H := Lib.hid hd
  obtain ⟨A, n, c, hb, hs⟩ := h
  have hc3 := hb.cell 3
  have hf3 := hb.frozen 3
  simp [h0] at hc3
  have HB := Lib.hid hb
  have HS := Lib.hid hs
  have HL := Lib.hid h0
  clear hd hb hs h0
  go_enter Try.func29, Try.ntmps29
  go_wp2_with (go_at_call 44; refine (at_any b (-1) now _ (by simpa using hc3)).mono ?_; rintro e w' ⟨rfl, rfl⟩)
  go_end0
  refine ⟨rfl, row, ⟨A, n, c, ?_, ?_⟩, (Keep.refl _ w).setCell (fun _ => .inl rfl) _, .inl rfl⟩
  · have := HB.out.set_ 3 (.int .i64 (atv (-1) now))
    rw [H.out]
    simpa [HL.out] using this
  · rw [H.out]
    exact HS.out.keep ((Keep.refl (fun k => k = b) w).setCell (fun _ => rfl) _) (fun g hg => by
      rintro rfl
      rcases HS.out.2.2.2 with ⟨h1, _⟩ | ⟨g', off, cur, h1, _, hbb, _⟩
      · rw [h1] at hg; cases hg
      · rw [hg] at h1; injection h1 with h1; subst h1
        exact Blk.ne_ HB.out hbb (by decide) rfl)

set_option maxHeartbeats 400000 in
theorem begin_some (b : Nat) (row : Option Nat) (d : D) (now : Int) (w : World) (h : Has w b row d) (h0 : ¬ d.last = -1) :
    Calls Try.prog 29 #[.pointer (some ⟨b, 0, none⟩), .int .i64 now] w (Turns b row (d.begin_ now) w) := by
  have hd : d.begin_ now = d := by simp [D.begin_, h0]
  have hh := h
  obtain ⟨A, n, c, hb, hs⟩ := h
  have hc3 := hb.cell 3
  simp at hc3
  have hne : (d.last == -1) = false := by simpa using h0
  have H : Hid (Has w b row (d.begin_ now)) := Lib.hid (by rw [hd]; exact hh)
  clear hd hb hs hh h0
  go_enter Try.func29, Try.ntmps29
  go_wp2
  go_end0
  exact ⟨rfl, row, H.out, Keep.refl _ _, .inl rfl⟩

theorem begin_any (b : Nat) (row : Option Nat) (d : D) (now : Int) (w : World) (h : Has w b row d) :
    Calls Try.prog 29 #[.pointer (some ⟨b, 0, none⟩), .int .i64 now] w (Turns b row (d.begin_ now) w) := by
  by_cases h0 : d.last = -1
  · exact begin_none b row d now w h h0
  · exact begin_some b row d now w h h0

theorem Has.row_ne {w : World} {b : Nat} {row : Option Nat} {d : D} (h : Has w b row d) : ∀ g, row = some g → g ≠ b := by
  rintro g hg rfl
  obtain ⟨A, n, c, hb, hs⟩ := h
  rcases hs.2.2.2 with ⟨h1, _⟩ | ⟨g', off, cur, h1, _, hbb, _⟩
  · rw [h1] at hg; cases hg
  · rw [hg] at h1; injection h1 with h1; subst h1
    exact Blk.ne_ hb hbb (by decide) rfl

set_option maxRecDepth 100000 in
set_option maxHeartbeats 1000000 in
theorem heard_none (b : Nat) (row : Option Nat) (d : D) (now : Int) (w : World) (h : Has w b row d) (h0 : d.last = -1) :
    Calls Try.prog 27 #[.pointer (some ⟨b, 0, none⟩), .int .i64 now] w (Turns b row (d.heard now) w) := by
  have hd : d.heard now = { d with last := atv d.last now } := by simp [D.heard, h0]
  have H := Lib.hid hd
  have HR := Lib.hid h.row_ne
  obtain ⟨A, n, c, hb, hs⟩ := h
  have hc3 := hb.cell 3
  have hf3 := hb.frozen 3
  simp [h0] at hc3
  have HB := Lib.hid hb
  have HS := Lib.hid hs
  have HL := Lib.hid h0
  clear hd hb hs h0
  go_enter Try.func27, Try.ntmps27
  go_wp2_with (go_at_call 44; refine (at_any b (-1) now _ (by simpa using hc3)).mono ?_; rintro e w' ⟨rfl, rfl⟩)
  go_end0
  refine ⟨rfl, row, ⟨A, n, c, ?_, ?_⟩, (Keep.refl _ w).setCell (fun _ => .inl rfl) _, .inl rfl⟩
  · have := HB.out.set_ 3 (.int .i64 (atv (-1) now))
    rw [H.out]
    simpa [HL.out] using this
  · rw [H.out]
    exact HS.out.keep ((Keep.refl (fun k => k = b) w).setCell (fun _ => rfl) _) HR.out


/-- The world behind the append: what the walk wants of the detector's own cells. -/
theorem behind_append {w w1 : World} {row : Option Nat} {o : Obj} (hk : Keep (fun g => row = some g) (w.drew.alloc o) w1) : Keep (fun g => row = some g) w w1 :=
  ((Keep.refl (fun g => row = some g) w).drew.alloc o).trans (hk.mono fun _ _ h => .inl h)

theorem close_turns {w w1 w2 : World} {b : Nat} {row row1 : Option Nat} {d d' : D} {A : Option Addr} {n c : Nat} {xs : List Value} {t : Int} {gs : List Int} (hblt : b < w.heap.size) (hR : ∀ g, row = some g → g ≠ b) (hk : Keep (fun g => row = some g) w w1)
    (hr1 : row1 = row ∨ ∃ g, row1 = some g ∧ w.heap.size ≤ g) (hk2 : Keep (fun k => k = b) w1 w2)
    (hB : Blk w2 b 74 #[.int .i64 d.mn, .int .i64 d.mx, .int .i64 d.wd, .int .i64 t, .slice A n c]) (hs : Sl w1 3 row1 A n c xs) (hd : d' = { d with last := t, gaps := gs }) (hx : xs = gs.map (.int .i64) := by simp) :
    Turns b row d' w (.returned (.tuple #[])) w2 := by
  subst hd hx
  have h1 : ∀ g, row1 = some g → g ≠ b := by
    intro g hg
    rcases hr1 with h | ⟨g', h, hle⟩
    · exact hR g (h ▸ hg)
    · rw [h] at hg; injection hg with hg; omega
  refine ⟨rfl, row1, ⟨A, n, c, hB, hs.keep hk2 h1⟩, ?_, hr1⟩
  exact (hk.mono fun k _ h => .inr h).trans (hk2.mono fun k _ h => .inl (.inl h))

set_option maxRecDepth 100000 in
set_option maxHeartbeats 1000000 in
theorem heard_short (b : Nat) (row : Option Nat) (d : D) (now : Int) (w : World) (h : Has w b row d) (h0 : ¬ d.last = -1) (ok : d.Ok) (hsh : (d.gaps.length : Int) + 1 ≤ d.wd) :
    Calls Try.prog 27 #[.pointer (some ⟨b, 0, none⟩), .int .i64 now] w (Turns b row (d.heard now) w) := by
  have hp : ∀ x, d.push x = d.gaps ++ [x] := by
    intro x
    unfold D.push
    rw [show d.gaps.length + 1 - d.wd.toNat = 0 by omega]; rfl
  have hd : d.heard now = { d with last := atv d.last now, gaps := d.gaps ++ [atv d.last now - d.last] } := by simp [D.heard, h0, hp]
  have H := Lib.hid hd
  have HR := Lib.hid h.row_ne
  have ha := atv_bd (now := now) ok.last1 ok.last2
  have hl1 := ok.last1
  obtain ⟨A, n, c, hb, hs⟩ := h
  have hc2 := hb.cell 2
  have hc3 := hb.cell 3
  have hc4 := hb.cell 4
  have hf3 := hb.frozen 3
  have hf4 := hb.frozen 4
  simp at hc2 hc3 hc4
  have hblt := hb.lt
  have hln : d.gaps.length = n := by simpa using hs.1
  have hn : n ≤ 4096 := by have := ok.len; have := ok.wd2; omega
  rw [hln] at hsh
  have hw1 := ok.wd1
  have hw2 := ok.wd2
  have hne : (d.last != -1) = true := by simpa using h0
  have HB := Lib.hid hb
  have HS := Lib.hid hs
  obtain ⟨i0, hi, hz0, hz1, hz2⟩ := info_parts int_info
  have cAt := Lib.hid (at_any b d.last now w (by simpa using hc3))
  obtain ⟨t, ht⟩ : ∃ t, t = atv d.last now := ⟨_, rfl⟩
  rw [← ht] at cAt ha H
  have e1 : IntKind.i64.wrap (t - d.last) = t - d.last := IntWalk.i64_in _ (by omega)
  have e2 : IntKind.i64.wrap ((n : Int) + 1 - d.wd) = (n : Int) + 1 - d.wd := IntWalk.i64_in _ (by omega)
  clear hd hb hs h0 ht ok hp hln
  go_enter Try.func27, Try.ntmps27
  go_wp2_with (go_at_call 44; refine cAt.out.mono ?_; rintro e w' ⟨rfl, rfl⟩)
  go_region_law (refine step_append_sl rfl _ _ _ rfl i0 _ 8 Try.underlying31 hi hz0 hz1 hz2 rfl ((HS.out.keep (((Keep.refl (fun _ => False) w).drew).alloc _) (fun _ _ h => h))) (by rfl) ⟨w.heap.size, 0, none⟩ (.int .i64 (t - d.last)) 1 (by rfl) (by simp) rfl (by unfold maxLen; omega) (by omega) ?_; intro row1 A1 c1 w1 hs1 hk1 hr1; have hkk := behind_append hk1; have hq : row ≠ some b := fun e => HR.out b e rfl; have g2 := hkk.cell hc2 hq; have g3 := hkk.cell hc3 hq; have g4 := hkk.cell hc4 hq; have f3 := hkk.frozen hf3 hblt hq; have f4 := hkk.frozen hf4 hblt hq; have HK := Lib.hid hkk; have HSl := Lib.hid hs1; have HR1 := Lib.hid hr1; clear hk1 hkk hs1 hr1 hq)
  all_goals
    go_wp2
    go_quiet (fail)
    go_wp2
    go_end0
    have hB1 := HB.out.keep HK.out (fun e => HR.out b e rfl)
    refine close_turns (A := A1) (n := n + 1) (c := c1) (t := t) hblt HR.out HK.out (HR1.out.imp id fun ⟨g, e, h⟩ => ⟨g, e, by simp at h; omega⟩) ?_ ?_ HSl.out H.out
    · exact (((Keep.refl (fun k => k = b) w1).setCell (fun _ => rfl) _).drewN _).setCell (fun _ => rfl) _
    · simpa using ((hB1.set_ 4 _).drewN nq).set_ 3 _
set_option maxRecDepth 100000 in
set_option maxHeartbeats 1000000 in
theorem heard_long (b : Nat) (row : Option Nat) (d : D) (now : Int) (w : World) (h : Has w b row d) (h0 : ¬ d.last = -1) (ok : d.Ok) (hsh : d.wd < (d.gaps.length : Int) + 1) :
    Calls Try.prog 27 #[.pointer (some ⟨b, 0, none⟩), .int .i64 now] w (Turns b row (d.heard now) w) := by
  obtain ⟨k, hk⟩ : ∃ k : Nat, k = d.gaps.length + 1 - d.wd.toNat := ⟨_, rfl⟩
  have hp : ∀ x, d.push x = (d.gaps ++ [x]).drop k := by
    intro x
    unfold D.push
    rw [← hk]
  have hd : d.heard now = { d with last := atv d.last now, gaps := (d.gaps ++ [atv d.last now - d.last]).drop k } := by simp [D.heard, h0, hp]
  have H := Lib.hid hd
  have HR := Lib.hid h.row_ne
  have ha := atv_bd (now := now) ok.last1 ok.last2
  have hl1 := ok.last1
  obtain ⟨A, n, c, hb, hs⟩ := h
  have hc2 := hb.cell 2
  have hc3 := hb.cell 3
  have hc4 := hb.cell 4
  have hf3 := hb.frozen 3
  have hf4 := hb.frozen 4
  simp at hc2 hc3 hc4
  have hblt := hb.lt
  have hln : d.gaps.length = n := by simpa using hs.1
  have hn : n ≤ 4096 := by have := ok.len; have := ok.wd2; omega
  rw [hln] at hsh hk
  have hw1 := ok.wd1
  have hw2 := ok.wd2
  have hne : (d.last != -1) = true := by simpa using h0
  have HB := Lib.hid hb
  have HS := Lib.hid hs
  obtain ⟨i0, hi, hz0, hz1, hz2⟩ := info_parts int_info
  have cAt := Lib.hid (at_any b d.last now w (by simpa using hc3))
  obtain ⟨t, ht⟩ : ∃ t, t = atv d.last now := ⟨_, rfl⟩
  rw [← ht] at cAt ha H
  have e1 : IntKind.i64.wrap (t - d.last) = t - d.last := IntWalk.i64_in _ (by omega)
  have e2 : IntKind.i64.wrap ((n : Int) + 1 - d.wd) = (k : Int) := by rw [IntWalk.i64_in _ (by omega)]; omega
  have hkn : k < n + 1 := by omega
  have hk1 : 0 < k := by omega
  have hki : (0 : Int) ≤ (k : Int) := by omega
  have hki2 : (k : Int) ≤ (n : Int) + 1 := by omega
  clear hd hb hs h0 ht ok hp hln hk
  go_enter Try.func27, Try.ntmps27
  go_wp2_with (go_at_call 44; refine cAt.out.mono ?_; rintro e w' ⟨rfl, rfl⟩)
  go_region_law (refine step_append_sl rfl _ _ _ rfl i0 _ 8 Try.underlying31 hi hz0 hz1 hz2 rfl ((HS.out.keep (((Keep.refl (fun _ => False) w).drew).alloc _) (fun _ _ h => h))) (by rfl) ⟨w.heap.size, 0, none⟩ (.int .i64 (t - d.last)) 1 (by rfl) (by simp) rfl (by unfold maxLen; omega) (by omega) ?_; intro row1 A1 c1 w1 hs1 hk1 hr1; obtain ⟨g1, off1, rfl, hs3⟩ := hs1.cut3 hkn; have HS3 := Lib.hid hs3; have hcap1 : n + 1 ≤ c1 := hs1.2.1; clear hs3; have hkk := behind_append hk1; have hq : row ≠ some b := fun e => HR.out b e rfl; have g2 := hkk.cell hc2 hq; have g3 := hkk.cell hc3 hq; have g4 := hkk.cell hc4 hq; have f3 := hkk.frozen hf3 hblt hq; have f4 := hkk.frozen hf4 hblt hq; have HK := Lib.hid hkk; have HSl := Lib.hid hs1; have HR1 := Lib.hid hr1; clear hk1 hkk hs1 hr1 hq)
  all_goals
    go_wp2
    go_quiet (fail)
    go_wp2
    have hB1 := (HB.out.keep HK.out (fun e => HR.out b e rfl)).set_ 4 (.slice (some ⟨g1, off1, none⟩) (n + 1) c1)
    have hK1 := ((Keep.refl (fun k => k = b) w1).setCell (p := ⟨b, 4, none⟩) (fun _ => rfl) (.slice (some ⟨g1, off1, none⟩) (n + 1) c1)).drewN nq
    replace hB1 := hB1.drewN nq
    simp at hB1
    generalize (w1.setCell ⟨b, 4, none⟩ (.slice (some ⟨g1, off1, none⟩) (n + 1) c1)).drewN nq = w2 at hB1 hK1 ⊢
    clear g2 g3 g4 f3 f4 hc2 hc3 hc4 hf3 hf4
    have q3 := hB1.cell 3
    have q4 := hB1.cell 4
    have f3 := hB1.frozen 3
    have f4 := hB1.frozen 4
    simp at q3 q4
    have HB1 := Lib.hid hB1
    have HK1 := Lib.hid hK1
    clear hB1 hK1
    go_region
    all_goals
      go_wp2
      go_end0
      refine close_turns (A := some ⟨g1, off1 + k, none⟩) (n := n + 1 - k) (c := n + 1 - k) (t := t) hblt HR.out HK.out (HR1.out.imp id fun ⟨g, e, h⟩ => ⟨g, e, by simp at h; omega⟩) (HK1.out.trans (Keep.mono (S := fun k => k = b) ?_ (fun _ _ h => .inl h))) ?_ HS3.out H.out (by simp [List.map_drop])
      · exact (((Keep.refl (fun k => k = b) w2).setCell (fun _ => rfl) _).setCell (fun _ => rfl) _).drew
      · simpa using ((HB1.out.set_ 4 _).set_ 3 _).drew

theorem heard_any (b : Nat) (row : Option Nat) (d : D) (now : Int) (w : World) (h : Has w b row d) (ok : d.Ok) :
    Calls Try.prog 27 #[.pointer (some ⟨b, 0, none⟩), .int .i64 now] w (Turns b row (d.heard now) w) := by
  by_cases h0 : d.last = -1
  · exact heard_none b row d now w h h0
  · by_cases h1 : (d.gaps.length : Int) + 1 ≤ d.wd
    · exact heard_short b row d now w h h0 ok h1
    · exact heard_long b row d now w h h0 ok (by omega)
end Go.Proofs.Ytenphdgnaknbeaa
