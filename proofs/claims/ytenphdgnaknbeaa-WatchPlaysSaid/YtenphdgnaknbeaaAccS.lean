/-
  Contracts of coveyref15's Begin, Heard.
-/
import Derived.Test.YtenphdgnaknbeaaAccR
namespace Go.Proofs.Ytenphdgnaknbeaa
open Go.RowKit

def RTurns (b : Nat) (row : Option Nat) (r' : R) (w : World) (e : Ending) (w' : World) : Prop :=
  e = .returned (.tuple #[]) ∧ ∃ row', RHas w' b row' r' ∧ Keep (fun k => k = b) w w' ∧ (row' = row ∨ ∀ g, row' = some g → w.heap.size ≤ g)
theorem RHas.row_ne {w : World} {b : Nat} {row : Option Nat} {r : R} (h : RHas w b row r) : ∀ g, row = some g → g ≠ b := by
  rintro g hg rfl
  obtain ⟨A, n, c, hb, hs⟩ := h
  exact hs.row_ne hb (by decide) hg

set_option maxHeartbeats 400000 in
theorem rbegin_any (b : Nat) (row : Option Nat) (r : R) (now : Int) (w : World) (h : RHas w b row r) :
    Calls Try.prog 39 #[.pointer (some ⟨b, 0, none⟩), .int .i64 now] w (RTurns b row (r.begin_ now) w) := by
  have hr := h.row_ne
  have hh := h
  obtain ⟨mn, mx, wd, yes, last, gaps⟩ := r
  obtain ⟨A, n, c, hb, hs⟩ := h
  simp only at hb hs
  have c3 := hb.cell 3
  have c4 := hb.cell 4
  have f3 := hb.frozen 3
  have f4 := hb.frozen 4
  simp at c3 c4
  have HB := Lib.hid hb
  have HS := Lib.hid hs
  have HR := Lib.hid hr
  have HH := Lib.hid hh
  clear hb hs hr hh
  cases yes
  · have HT := Lib.hid (show R.begin_ ⟨mn, mx, wd, false, last, gaps⟩ now = ⟨mn, mx, wd, true, ratT false last now, gaps⟩ by simp [R.begin_])
    go_enter Try.func39, Try.ntmps39
    go_wp2_with (go_at_call 49; refine (rat_any b false last now _ c3 c4).mono ?_; rintro e w' ⟨rfl, rfl⟩)
    go_end0
    rw [HT.out]
    refine ⟨rfl, row, ⟨A, n, c, ?_, ?_⟩, ((Keep.refl (fun k => k = b) w).setCell (fun _ => rfl) _).setCell (fun _ => rfl) _, .inl rfl⟩
    · simpa using (HB.out.set_ 4 (.int .i64 (ratT false last now))).set_ 3 (.bool true)
    · exact HS.out.keep (((Keep.refl (fun k => k = b) w).setCell (fun _ => rfl) _).setCell (fun _ => rfl) _) HR.out
  · have HT := Lib.hid (show R.begin_ ⟨mn, mx, wd, true, last, gaps⟩ now = ⟨mn, mx, wd, true, last, gaps⟩ by simp [R.begin_])
    go_enter Try.func39, Try.ntmps39
    go_wp2
    go_end0
    rw [HT.out]
    exact ⟨rfl, row, HH.out, Keep.refl _ _, .inl rfl⟩

theorem ints_one (l : List Int) : ∀ u ∈ l.map (Value.int .i64), u.oneCell' = true := by
  intro u hu
  obtain ⟨x, _, rfl⟩ := List.mem_map.1 hu
  rfl
set_option maxHeartbeats 1000000 in
theorem rheard_any (b : Nat) (row : Option Nat) (r : R) (now : Int) (w : World) (h : RHas w b row r) (ok : r.Ok) (hlen : r.gaps.length ≤ 100000) :
    Calls Try.prog 38 #[.pointer (some ⟨b, 0, none⟩), .int .i64 now] w (RTurns b row (r.heard now) w) := by
  have hr := h.row_ne
  have hh := h
  obtain ⟨mn, mx, wd, yes, last, gaps⟩ := r
  obtain ⟨A, n, c, hb, hs⟩ := h
  have ha := ratT_bd (yes := yes) now ok.last1 ok.last2
  have hl1 := ok.last1
  have hl2 := ok.last2
  simp only at hb hs hlen hl1 hl2 ha
  have c3 := hb.cell 3
  have c4 := hb.cell 4
  have c5 := hb.cell 5
  have f3 := hb.frozen 3
  have f4 := hb.frozen 4
  have f5 := hb.frozen 5
  simp at c3 c4 c5
  have hn : n ≤ 100000 := by have := hs.1; simp at this; omega
  have hblt := hb.lt
  have HB := Lib.hid hb
  have HS := Lib.hid hs
  have HR := Lib.hid hr
  have HH := Lib.hid hh
  clear hb hs hr hh ok
  cases yes
  · have HT := Lib.hid (show R.heard ⟨mn, mx, wd, false, last, gaps⟩ now = ⟨mn, mx, wd, true, ratT false last now, gaps⟩ by simp [R.heard])
    clear ha
    go_enter Try.func38, Try.ntmps38
    go_wp2_with (go_at_call 49; refine (rat_any b false last now _ c3 c4).mono ?_; rintro e w' ⟨rfl, rfl⟩)
    go_end0
    rw [HT.out]
    refine ⟨rfl, row, ⟨A, n, c, ?_, ?_⟩, ((Keep.refl (fun k => k = b) w).setCell (fun _ => rfl) _).setCell (fun _ => rfl) _, .inl rfl⟩
    · simpa using (HB.out.set_ 4 (.int .i64 (ratT false last now))).set_ 3 (.bool true)
    · exact HS.out.keep (((Keep.refl (fun k => k = b) w).setCell (fun _ => rfl) _).setCell (fun _ => rfl) _) HR.out
  · have HT := Lib.hid (show R.heard ⟨mn, mx, wd, true, last, gaps⟩ now = ⟨mn, mx, wd, true, ratT true last now, gaps ++ [ratT true last now - last]⟩ by simp [R.heard])
    have cAt := Lib.hid (rat_any b true last now w c3 c4)
    generalize ratT true last now = t at *
    have e1 : IntKind.i64.wrap (t - last) = t - last := IntWalk.i64_in _ (by omega)
    have H1 := Lib.hid (ints_one gaps)
    obtain ⟨i0, hi, hz0, hz1, hz2⟩ := info_parts int_info
    have HI := Lib.hid hi
    have HZ0 := Lib.hid hz0
    have HZ1 := Lib.hid hz1
    have HZ2 := Lib.hid hz2
    clear hi hz0 hz1 hz2
    have n5 := World.new_ne w _ c5
    have n4 := World.new_ne w _ c4
    go_enter Try.func38, Try.ntmps38
    go_wp2_with (go_at_call 49; refine cAt.out.mono ?_; rintro e w' ⟨rfl, rfl⟩)
    go_region_law
      (first
        | (refine step_append_slK (by rfl) _ _ _ (by rfl) i0 _ 8 Try.underlying31 HI.out HZ0.out HZ1.out HZ2.out rfl (by omega) (SlK.empty ((Blk.new w.drew 3 #[]).alloc (.cells #[.int .i64 (t - last)] 3))) (by rfl) (B := A) (m := n) (d := c) (by rfl) (HS.out.rd.keep0 (((Keep.refl _ w).drew.alloc (.cells #[] 3)).alloc (.cells #[.int .i64 (t - last)] 3))) H1.out (by unfold maxLen; omega) (by omega) ?_; intro row1 A1 k1 w1 hs1 hg1; rw [Nat.zero_add, List.nil_append] at hs1; simp only [Nat.zero_add]; obtain ⟨hk1, hr1⟩ := grew_both hg1 (w0 := w) (((Keep.refl _ w).drew.alloc (.cells #[] 3)).alloc (.cells #[.int .i64 (t - last)] 3)) (by intro g hg; injection hg with hg; (try simp at hg); omega); have HB1 := Lib.hid ((Blk.new_ (w := w.drew.alloc (.cells #[] 3)) (B := w.heap.size + 1) (by simp) 3 #[.int .i64 (t - last)]).keep (grew_keep hg1) (by simp)); have q5 := hk1.cell c5 (fun h => h); have q4 := hk1.cell c4 (fun h => h); have n5 := World.new_ne w1 _ q5; have n4 := World.new_ne w1 _ q4; have HK1 := Lib.hid hk1; have HS1 := Lib.hid hs1; have HR1 := Lib.hid hr1; clear hk1 hs1 hr1 hg1)
        | (refine step_append_slK (by rfl) _ _ _ (by rfl) i0 _ 8 Try.underlying31 HI.out HZ0.out HZ1.out HZ2.out rfl (by omega) (SlK.empty (Blk.new w.drew 3 #[])) (by rfl) (B := A) (m := n) (d := c) (by rfl) (HS.out.rd.keep0 ((Keep.refl _ w).drew.alloc (.cells #[] 3))) H1.out (by unfold maxLen; omega) (by omega) ?_; intro row1 A1 k1 w1 hs1 hg1; rw [Nat.zero_add, List.nil_append] at hs1; simp only [Nat.zero_add]; obtain ⟨hk1, hr1⟩ := grew_both hg1 (w0 := w) ((Keep.refl _ w).drew.alloc (.cells #[] 3)) (by intro g hg; injection hg with hg; (try simp at hg); omega); have q5 := hk1.cell c5 (fun h => h); have q4 := hk1.cell c4 (fun h => h); have n5 := World.new_ne w1 _ q5; have n4 := World.new_ne w1 _ q4; have HK1 := Lib.hid hk1; have HS1 := Lib.hid hs1; have HR1 := Lib.hid hr1; clear hk1 hs1 hr1 hg1)
        | (refine step_append_slK (by rfl) _ _ _ (by rfl) i0 _ 8 Try.underlying31 HI.out HZ0.out HZ1.out HZ2.out rfl (by omega) (SlK.empty (Blk.new_ (w := w.drew.alloc (.cells #[.int .i64 (t - last)] 3)) (B := w.heap.size + 1) (by simp) 3 #[])) (by rfl) (B := A) (m := n) (d := c) (by rfl) (HS.out.rd.keep0 (((Keep.refl _ w).drew.alloc (.cells #[.int .i64 (t - last)] 3)).alloc (.cells #[] 3))) H1.out (by unfold maxLen; omega) (by omega) ?_; intro row1 A1 k1 w1 hs1 hg1; rw [Nat.zero_add, List.nil_append] at hs1; simp only [Nat.zero_add]; obtain ⟨hk1, hr1⟩ := grew_both hg1 (w0 := w) (((Keep.refl _ w).drew.alloc (.cells #[.int .i64 (t - last)] 3)).alloc (.cells #[] 3)) (by intro g hg; injection hg with hg; (try simp at hg); omega); have HB1 := Lib.hid (((Blk.new w.drew 3 #[.int .i64 (t - last)]).alloc (.cells #[] 3)).keep (grew_keep hg1) (by simp)); have q5 := hk1.cell c5 (fun h => h); have q4 := hk1.cell c4 (fun h => h); have n5 := World.new_ne w1 _ q5; have n4 := World.new_ne w1 _ q4; have HK1 := Lib.hid hk1; have HS1 := Lib.hid hs1; have HR1 := Lib.hid hr1; clear hk1 hs1 hr1 hg1)
        | (refine step_append_slK (by rfl) _ _ _ (by rfl) i0 _ 8 Try.underlying31 HI.out HZ0.out HZ1.out HZ2.out rfl (by omega) (by first | exact HS1.out | exact HS1.out.keep ((Keep.refl (fun _ => False) w1).alloc _) (fun _ _ h => h)) (by rfl) (by rfl) (RdK.one (by first | exact HB1.out | exact Blk.new _ _ _)) (by simp [Value.oneCell']) (by unfold maxLen; omega) (by omega) ?_; intro row2 A2 k2 w2 hs2 hg2; obtain ⟨hk2, hr2⟩ := grew_both hg2 (w0 := w) (by first | exact HK1.out | exact HK1.out.alloc _) HR1.out; have p5 := hk2.cell c5 (fun h => h); have p4 := hk2.cell c4 (fun h => h); have m5 := hk2.frozen f5 hblt (fun h => h); have HK2 := Lib.hid hk2; have HS2 := Lib.hid hs2; have HR2 := Lib.hid hr2; clear hk2 hs2 hr2 hg2))
    all_goals
      have m3 := HK2.out.frozen f3 hblt (fun h => h)
      have m4 := HK2.out.frozen f4 hblt (fun h => h)
      have p3 := HK2.out.cell c3 (fun h => h)
      clear c3 c4 c5 f3 f4 f5 n4 n5
      go_wp2
      go_end0
      rw [HT.out]
      have hK : Keep (fun k => k = b) w2 (((w2.setCell ⟨b, 5, none⟩ (.slice A2 (n + 1) k2)).setCell ⟨b, 4, none⟩ (.int .i64 t)).setCell ⟨b, 3, none⟩ (.bool true)) := (((Keep.refl (fun k => k = b) w2).setCell (fun _ => rfl) _).setCell (fun _ => rfl) _).setCell (fun _ => rfl) _
      refine ⟨rfl, row2, ⟨A2, n + 1, k2, ?_, ?_⟩, (HK2.out.mono (fun _ _ h => h.elim)).trans (hK.mono fun k _ e => .inl e), .inr HR2.out⟩
      · simpa using (((HB.out.keep HK2.out (fun h => h)).set_ 5 (.slice A2 (n + 1) k2)).set_ 4 (.int .i64 t)).set_ 3 (.bool true)
      · have := HS2.out.keep hK (fun g hg e => by have := HR2.out g hg; omega)
        simpa using this
end Go.Proofs.Ytenphdgnaknbeaa
