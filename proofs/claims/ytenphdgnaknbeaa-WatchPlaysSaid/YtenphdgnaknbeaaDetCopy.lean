/-
  slices.Clone of a slice of ints; a detector's Copy (of acc/XAccF).
-/
import Derived.Test.YtenphdgnaknbeaaAccC
namespace Go.Proofs.Ytenphdgnaknbeaa
open Go.RowKit

section
variable {w : World} {e : TypeId} {row : Option Nat} {A : Option Addr} {n c : Nat} {xs : List Value}
/-- all of a slice, appended to an empty one without room -/
theorem run_append_copy {P : Program} (t ty : TypeId) (i : TypeInfo) (z : Value) (bytes : Nat) (ht : P.underlying t = some (.slice e)) (hi : P.info? e = some i) (hz : i.zero = some z)
    (hsize : i.size = 1) (hby : i.bytes = bytes) (hzs : z.cells.size = 1) (h : Sl w e row A n c xs) (hA : A ≠ none) (g0 : Nat) (h0 : Blk w g0 e #[])
    (hbytes : n * bytes ≤ 140737488355328) :
    ∃ row' A' c' w', (Builtin.append_ #[t, t] ty #[.slice (some ⟨g0, 0, none⟩) 0 0, .slice A n c]).run P w = .ok (.slice A' n c') w' ∧ Sl w' e row' A' n c' xs ∧
      Keep (fun _ => False) w w' ∧ (∀ g, row' = some g → g = g0 ∨ w.heap.size ≤ g) := by
  have hsz := h.1
  have hmx : n ≤ maxLen := by have := h.2.1; have := h.2.2.1; omega
  rcases h.2.2.2 with ⟨_, h3, _⟩ | ⟨g, off, cur, h2, h3, hb, hs, hc⟩
  · exact absurd h3 hA
  · subst h3
    have hnews : ∀ j u, xs[j]? = some u → w.cell? ((⟨g, off, none⟩ : Addr).add j) = some u := fun j u hj => by
      have hlt : j < n := by rw [← hsz]; exact (List.getElem?_eq_some_iff.1 hj).1
      rw [Addr.add_lit, hb.cell, hc j hlt, hj]
    by_cases hn : n = 0
    · subst hn
      obtain rfl : xs = [] := List.eq_nil_of_length_eq_zero hsz
      have hrun := run_append_room_cells (P := P) w t ty e i ht hi g0 0 0 0 ⟨g, off, none⟩ 0 c [] (by simp) hnews (by simp) (Nat.le_refl _) (by simp) (by simp)
      refine ⟨some g0, _, _, _, hrun, ⟨rfl, Nat.le_refl _, by simp [maxLen], .inr ⟨g0, 0, #[], rfl, rfl, ?_, by simp, by simp⟩⟩, ?_, fun g hg => .inl (by injection hg with hg; exact hg.symm)⟩
      · simpa [World.setCells] using h0
      · simpa [World.setCells] using Keep.refl _ w
    · obtain ⟨v', w', hrun, r1, r2⟩ := run_append_arg_grows (P := P) w t ty e i z 1 bytes ht hi hz hsize hby hzs (by decide) ⟨g0, 0, none⟩ 0 0 [] (by simp) (by simp)
        ⟨g, off, none⟩ n c xs (by simp [hsz]) hnews (by omega) (by omega) (by simpa using hbytes)
      obtain ⟨row', A', c', rfl, hsl, hb'⟩ := Sl.of_own r1
      simp only [Nat.zero_add, List.nil_append] at hrun hsl
      exact ⟨row', A', c', w', hrun, hsl, Keep.grown r2 (by intro k hk; cases hk), fun g hg => .inr (hb' g hg)⟩
theorem wpList_append_copy {P : Program} {ops : Array Oper} {rest : List Oper} {o : Oper} {a : Act} {Q : Exit → Act → World → Prop} (hgd : o.guard = none) (s x : Operand) (t : TypeId)
    (ho : o.op = .call { callee := .builtin .append, args := #[s, x], argTypes := #[t, t] })
    (i : TypeInfo) (z : Value) (bytes : Nat) (ht : P.underlying t = some (.slice e)) (hi : P.info? e = some i) (hz : i.zero = some z)
    (hsize : i.size = 1) (hby : i.bytes = bytes) (hzs : z.cells.size = 1) (h : Sl w e row A n c xs) (hA : A ≠ none) (g0 : Nat) (h0 : Blk w g0 e #[])
    (hs : a.eval s = .slice (some ⟨g0, 0, none⟩) 0 0) (hx : a.eval x = .slice A n c) (hbytes : n * bytes ≤ 140737488355328)
    (hK : ∀ row' A' c' w', Sl w' e row' A' n c' xs → Keep (fun _ => False) w w' → (∀ g, row' = some g → g = g0 ∨ w.heap.size ≤ g) → wpList P ops Q rest (a.put o.dst (.slice A' n c')) w') : wpList P ops Q (o :: rest) a w := by
  refine wpList_plain hgd fun _ hK' => ?_
  obtain ⟨row', A', c', w', hr, h2, h3, h4⟩ := run_append_copy (P := P) t o.type i z bytes ht hi hz hsize hby hzs h hA g0 h0 hbytes
  unfold Oper.wp execOp
  simp only [ho, resolve, invoke, builtin, Sem.run_bind, Sem.run_pure, Result.andThen_ok, List.map_toArray, List.map_cons, List.map_nil, hs, hx, hr]
  exact hK' _ _ (hK row' A' c' w' h2 h3 h4)
end

/-- The call hands back a slice of the same cells, in new memory. -/
def Cloned (e : TypeId) (n : Nat) (xs : List Value) (w : World) (en : Ending) (w' : World) : Prop :=
  ∃ row' A' c', en = .returned (.slice A' n c') ∧ Sl w' e row' A' n c' xs ∧ Keep (fun _ => False) w w' ∧ (∀ g, row' = some g → w.heap.size ≤ g)

set_option maxRecDepth 100000 in
set_option maxHeartbeats 1000000 in
theorem clone_any {row : Option Nat} {A : Option Addr} {n c : Nat} {xs : List Value} (w : World) (h : Sl w 3 row A n c xs) (hn : n ≤ 1000000) :
    Calls Try.prog 48 #[.slice A n c] w (Cloned 3 n xs w) := by
  have hnil := fun w => Lib.run_eql_slice_nil (P := Try.prog) w 31 3 A n c 0 0 Try.underlying31
  cases A with
  | none =>
    have h0 : n = 0 ∧ xs = [] := by
      rcases h.2.2.2 with ⟨_, _, h1⟩ | ⟨g, off, cur, _, h1, _⟩
      · have h2 := h.2.1
        have : n = 0 := by omega
        subst this
        exact ⟨rfl, List.eq_nil_of_length_eq_zero h.1⟩
      · cases h1
    obtain ⟨rfl, rfl⟩ := h0
    clear h
    go_enter Try.func48, Try.ntmps48
    go_wp2
    go_ret
    exact ⟨none, none, 0, rfl, Sl.nil_ _ _, Keep.refl _ _, fun g hg => by cases hg⟩
  | some a =>
    obtain ⟨i0, hi, hz0, hz1, hz2⟩ := info_parts int_info
    have HS := Lib.hid h
    clear h
    go_enter Try.func48, Try.ntmps48
    go_wp2_with (at_builtin; refine wpList_append_copy rfl _ _ _ rfl i0 _ 8 Try.underlying31 hi hz0 hz1 hz2 rfl (HS.out.keep ((Keep.refl (fun _ => False) w).alloc _) (fun _ _ h => h)) (by simp) w.heap.size (Blk.new _ _ _) rfl rfl (by omega) ?_; intro row1 A1 c1 w1 hs1 hk1 hr1)
    go_ret
    refine ⟨row1, A1, c1, rfl, hs1, ?_, fun g hg => ?_⟩
    · exact ((Keep.refl (fun _ => False) w).alloc _).trans (hk1.mono fun _ _ h => .inl h)
    · rcases hr1 g hg with h | h
      · omega
      · simp at h; omega

/-- The call hands back a copy in new memory. -/
def Copied (b : Nat) (row : Option Nat) (d : D) (w : World) (en : Ending) (w' : World) : Prop :=
  ∃ b' row', en = .returned (.pointer (some ⟨b', 0, none⟩)) ∧ Has w' b row d ∧ Has w' b' row' d ∧ w.heap.size ≤ b' ∧ (∀ g, row' = some g → w.heap.size ≤ g) ∧ Keep (fun _ => False) w w'

set_option maxRecDepth 100000 in
set_option maxHeartbeats 1000000 in
theorem copy_any {b : Nat} {row : Option Nat} {d : D} (w : World) (h : Has w b row d) (ok : d.Ok) :
    Calls Try.prog 35 #[.pointer (some ⟨b, 0, none⟩)] w (Copied b row d w) := by
  have HH := Lib.hid h
  have HR := Lib.hid h.row_ne
  obtain ⟨A, n, c, hb, hs⟩ := h
  have hc0 := hb.cell 0
  have hc1 := hb.cell 1
  have hc2 := hb.cell 2
  have hc3 := hb.cell 3
  have hc4 := hb.cell 4
  simp at hc0 hc1 hc2 hc3 hc4
  have hlt := hb.lt
  have HB := Lib.hid hb
  have HS := Lib.hid hs
  have hn : n ≤ 4096 := by have := ok.len; have := ok.wd2; have := hs.1; simp at this; omega
  clear hb hs ok
  go_enter Try.func35, Try.ntmps35
  go_wp2_with fail
  refine (clone_any _ (HS.out.keep (((Keep.refl (fun _ => False) w).alloc _)) (fun _ _ h => h)) (by omega)).mono ?_
  rintro e w1 ⟨row1, A1, c1, rfl, hs1, hk1, hr1⟩
  have hk2 := ((Keep.refl (fun _ => False) w).alloc _).trans (hk1.mono fun _ _ h => .inl h)
  have hB1 := (Blk.new w 74 #[.int .i64 d.mn, .int .i64 d.mx, .int .i64 d.wd, .int .i64 d.last, .slice A n c]).keep hk1 (fun h => h)
  have q4 := hB1.cell 4
  have f4 := hB1.frozen 4
  simp at q4
  have HK2 := Lib.hid hk2
  have HB1 := Lib.hid hB1
  have HS1 := Lib.hid hs1
  have HR1 := Lib.hid hr1
  clear hk2 hk1 hB1 hs1 hr1 hc0 hc1 hc2 hc3 hc4
  go_wp2
  go_ret
  have hkk : Keep (fun k => k = w.heap.size) w1 (w1.setCell ⟨w.heap.size, 4, none⟩ (.slice A1 n c1)) := (Keep.refl (fun k => k = w.heap.size) w1).setCell (fun _ => rfl) _
  have hkall : Keep (fun _ => False) w (w1.setCell ⟨w.heap.size, 4, none⟩ (.slice A1 n c1)) := HK2.out.trans (hkk.mono fun k _ h => .inr (by omega))
  have hsl : Sl (w1.setCell ⟨w.heap.size, 4, none⟩ (.slice A1 n c1)) 3 row1 A1 n c1 (d.gaps.map (.int .i64)) := HS1.out.keep hkk (fun g hg e => by have := HR1.out g hg; simp at this; omega)
  refine ⟨w.heap.size, row1, rfl, ?_, ⟨A1, n, c1, ?_, hsl⟩, Nat.le_refl _, ?_, hkall⟩
  · obtain ⟨A', n', c', hb', hs'⟩ := HH.out
    exact ⟨A', n', c', hb'.keep hkall (fun h => h), hs'.keep hkall (fun _ _ h => h)⟩
  · simpa using HB1.out.set_ 4 (.slice A1 n c1)
  · intro g hg; have := HR1.out g hg; simp at this; omega

end Go.Proofs.Ytenphdgnaknbeaa
