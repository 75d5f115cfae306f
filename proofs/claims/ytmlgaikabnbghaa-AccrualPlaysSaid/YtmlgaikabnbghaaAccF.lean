/-
  slices.Clone of a slice of ints; Copy; two detectors beside each other.
-/
import Derived.Test.YtmlgaikabnbghaaAccE
namespace Go.Proofs.Ytmlgaikabnbghaa
open Go.RowKit

section
variable {w : World} {e : TypeId} {row : Option Nat} {A : Option Addr} {n c : Nat} {xs : List Value}
/-- all of a slice, appended to an empty one without room -/
theorem run_append_copy {P : Program} (t ty : TypeId) (i : TypeInfo) (z : Value) (bytes : Nat) (ht : P.underlying t = some (.slice e)) (hi : P.info? e = some i) (hz : i.zero = some z)
    (hsize : i.size = 1) (hby : i.bytes = bytes) (hzs : z.cells.size = 1) (h : Sl w e row A n c xs) (hA : A ≠ none) (g0 : Nat) (h0 : Blk w g0 e #[])
    (hbytes : n * bytes ≤ 140737488355328) :
    ∃ row' A' c' w', (Builtin.append_ #[t, t] ty #[.slice (some ⟨g0, 0, none⟩) 0 0, .slice A n c]).run P w = .ok (.slice A' n c') w' ∧ Sl w' e row' A' n c' xs ∧
      Keep (fun _ => False) w w' ∧ (∀ g, row' = some g → g = g0 ∨ w.heap.size ≤ g) := by
  have hsz := h.1
  have hmx : n ≤ maxLen := by have := h.2.1; have := h.2.2.1; omega
  rcases h.2.2.2 with ⟨_, h3, _⟩ | ⟨g, off, cur, h2, h3, hb, hs, hc⟩
  · exact absurd h3 hA
  · subst h3
    have hnews : ∀ j u, xs[j]? = some u → w.cell? ((⟨g, off, none⟩ : Addr).add j) = some u := fun j u hj => by
      have hlt : j < n := by rw [← hsz]; exact (List.getElem?_eq_some_iff.1 hj).1
      rw [Addr.add_lit, hb.cell, hc j hlt, hj]
    by_cases hn : n = 0
    · subst hn
      obtain rfl : xs = [] := List.eq_nil_of_length_eq_zero hsz
      have hrun := run_append_room_cells (P := P) w t ty e i ht hi g0 0 0 0 ⟨g, off, none⟩ 0 c [] (by simp) hnews (by simp) (Nat.le_refl _) (by simp) (by simp)
      refine ⟨some g0, _, _, _, hrun, ⟨rfl, Nat.le_refl _, by simp [maxLen], .inr ⟨g0, 0, #[], rfl, rfl, ?_, by simp, by simp⟩⟩, ?_, fun g hg => .inl (by injection hg with hg; exact hg.symm)⟩
      · simpa [World.setCells] using h0
      · simpa [World.setCells] using Keep.refl _ w
    · obtain ⟨v', w', hrun, r1, r2⟩ := run_append_arg_grows (P := P) w t ty e i z 1 bytes ht hi hz hsize hby hzs (by decide) ⟨g0, 0, none⟩ 0 0 [] (by simp) (by simp)
        ⟨g, off, none⟩ n c xs (by simp [hsz]) hnews (by omega) (by omega) (by simpa using hbytes)
      obtain ⟨row', A', c', rfl, hsl, hb'⟩ := Sl.of_own r1
      simp only [Nat.zero_add, List.nil_append] at hrun hsl
      exact ⟨row', A', c', w', hrun, hsl, Keep.grown r2 (by intro k hk; cases hk), fun g hg => .inr (hb' g hg)⟩
theorem wpList_append_copy {P : Program} {ops : Array Oper} {rest : List Oper} {o : Oper} {a : Act} {Q : Exit → Act → World → Prop} (hgd : o.guard = none) (s x : Operand) (t : TypeId)
    (ho : o.op = .call { callee := .builtin .append, args := #[s, x], argTypes := #[t, t] })
    (i : TypeInfo) (z : Value) (bytes : Nat) (ht : P.underlying t = some (.slice e)) (hi : P.info? e = some i) (hz : i.zero = some z)
    (hsize : i.size = 1) (hby : i.bytes = bytes) (hzs : z.cells.size = 1) (h : Sl w e row A n c xs) (hA : A ≠ none) (g0 : Nat) (h0 : Blk w g0 e #[])
    (hs : a.eval s = .slice (some ⟨g0, 0, none⟩) 0 0) (hx : a.eval x = .slice A n c) (hbytes : n * bytes ≤ 140737488355328)
    (hK : ∀ row' A' c' w', Sl w' e row' A' n c' xs → Keep (fun _ => False) w w' → (∀ g, row' = some g → g = g0 ∨ w.heap.size ≤ g) → wpList P ops Q rest (a.put o.dst (.slice A' n c')) w') : wpList P ops Q (o :: rest) a w := by
  refine wpList_plain hgd fun _ hK' => ?_
  obtain ⟨row', A', c', w', hr, h2, h3, h4⟩ := run_append_copy (P := P) t o.type i z bytes ht hi hz hsize hby hzs h hA g0 h0 hbytes
  unfold Oper.wp execOp
  simp only [ho, resolve, invoke, builtin, Sem.run_bind, Sem.run_pure, Result.andThen_ok, List.map_toArray, List.map_cons, List.map_nil, hs, hx, hr]
  exact hK' _ _ (hK row' A' c' w' h2 h3 h4)
end

/-- The call hands back a slice of the same cells, in new memory. -/
def Cloned (e : TypeId) (n : Nat) (xs : List Value) (w : World) (en : Ending) (w' : World) : Prop :=
  ∃ row' A' c', en = .returned (.slice A' n c') ∧ Sl w' e row' A' n c' xs ∧ Keep (fun _ => False) w w' ∧ (∀ g, row' = some g → w.heap.size ≤ g)

set_option maxHeartbeats 1000000 in
theorem clone_any {row : Option Nat} {A : Option Addr} {n c : Nat} {xs : List Value} (w : World) (h : Sl w 3 row A n c xs) (hn : n ≤ 1000000) :
    Calls Try.prog 26 #[.slice A n c] w (Cloned 3 n xs w) := by
  have hnil := fun w => Lib.run_eql_slice_nil (P := Try.prog) w 38 3 A n c 0 0 Try.underlying38
  cases A with
  | none =>
    have h0 : n = 0 ∧ xs = [] := by
      rcases h.2.2.2 with ⟨_, _, h1⟩ | ⟨g, off, cur, _, h1, _⟩
      · have h2 := h.2.1
        have : n = 0 := by omega
        subst this
        exact ⟨rfl, List.eq_nil_of_length_eq_zero h.1⟩
      · cases h1
    obtain ⟨rfl, rfl⟩ := h0
    clear h
    go_enter Try.func26, Try.ntmps26
    go_wp2
    go_ret
    exact ⟨none, none, 0, rfl, Sl.nil_ _ _, Keep.refl _ _, fun g hg => by cases hg⟩
  | some a =>
    obtain ⟨i0, hi, hz0, hz1, hz2⟩ := info_parts int_info
    have HS := Lib.hid h
    clear h
    go_enter Try.func26, Try.ntmps26
    go_wp2_with (at_builtin; refine wpList_append_copy rfl _ _ _ rfl i0 _ 8 Try.underlying38 hi hz0 hz1 hz2 rfl (HS.out.keep ((Keep.refl (fun _ => False) w).alloc _) (fun _ _ h => h)) (by simp) w.heap.size (Blk.new _ _ _) rfl rfl (by omega) ?_; intro row1 A1 c1 w1 hs1 hk1 hr1)
    go_ret
    refine ⟨row1, A1, c1, rfl, hs1, ?_, fun g hg => ?_⟩
    · exact ((Keep.refl (fun _ => False) w).alloc _).trans (hk1.mono fun _ _ h => .inl h)
    · rcases hr1 g hg with h | h
      · omega
      · simp at h; omega

/-- The call hands back a copy in new memory. -/
def Copied (b : Nat) (row : Option Nat) (d : D) (w : World) (en : Ending) (w' : World) : Prop :=
  ∃ b' row', en = .returned (.pointer (some ⟨b', 0, none⟩)) ∧ Has w' b row d ∧ Has w' b' row' d ∧ w.heap.size ≤ b' ∧ (∀ g, row' = some g → w.heap.size ≤ g) ∧ Keep (fun _ => False) w w'

set_option maxHeartbeats 1000000 in
theorem copy_any {b : Nat} {row : Option Nat} {d : D} (w : World) (h : Has w b row d) (ok : d.Ok) :
    Calls Try.prog 17 #[.pointer (some ⟨b, 0, none⟩)] w (Copied b row d w) := by
  have HH := Lib.hid h
  have HR := Lib.hid h.row_ne
  obtain ⟨A, n, c, hb, hs⟩ := h
  have hc0 := hb.cell 0
  have hc1 := hb.cell 1
  have hc2 := hb.cell 2
  have hc3 := hb.cell 3
  have hc4 := hb.cell 4
  simp at hc0 hc1 hc2 hc3 hc4
  have hlt := hb.lt
  have HB := Lib.hid hb
  have HS := Lib.hid hs
  have hn : n ≤ 4096 := by have := ok.len; have := ok.wd2; have := hs.1; simp at this; omega
  clear hb hs ok
  go_enter Try.func17, Try.ntmps17
  go_wp2_with fail
  refine (clone_any _ (HS.out.keep (((Keep.refl (fun _ => False) w).alloc _)) (fun _ _ h => h)) (by omega)).mono ?_
  rintro e w1 ⟨row1, A1, c1, rfl, hs1, hk1, hr1⟩
  have hk2 := ((Keep.refl (fun _ => False) w).alloc _).trans (hk1.mono fun _ _ h => .inl h)
  have hB1 := (Blk.new w 49 #[.int .i64 d.mn, .int .i64 d.mx, .int .i64 d.wd, .int .i64 d.last, .slice A n c]).keep hk1 (fun h => h)
  have q4 := hB1.cell 4
  have f4 := hB1.frozen 4
  simp at q4
  have HK2 := Lib.hid hk2
  have HB1 := Lib.hid hB1
  have HS1 := Lib.hid hs1
  have HR1 := Lib.hid hr1
  clear hk2 hk1 hB1 hs1 hr1 hc0 hc1 hc2 hc3 hc4
  go_wp2
  go_ret
  have hkk : Keep (fun k => k = w.heap.size) w1 (w1.setCell ⟨w.heap.size, 4, none⟩ (.slice A1 n c1)) := (Keep.refl (fun k => k = w.heap.size) w1).setCell (fun _ => rfl) _
  have hkall : Keep (fun _ => False) w (w1.setCell ⟨w.heap.size, 4, none⟩ (.slice A1 n c1)) := HK2.out.trans (hkk.mono fun k _ h => .inr (by omega))
  have hsl : Sl (w1.setCell ⟨w.heap.size, 4, none⟩ (.slice A1 n c1)) 3 row1 A1 n c1 (d.gaps.map (.int .i64)) := HS1.out.keep hkk (fun g hg e => by have := HR1.out g hg; simp at this; omega)
  refine ⟨w.heap.size, row1, rfl, ?_, ⟨A1, n, c1, ?_, hsl⟩, Nat.le_refl _, ?_, hkall⟩
  · obtain ⟨A', n', c', hb', hs'⟩ := HH.out
    exact ⟨A', n', c', hb'.keep hkall (fun h => h), hs'.keep hkall (fun _ _ h => h)⟩
  · simpa using HB1.out.set_ 4 (.slice A1 n c1)
  · intro g hg; have := HR1.out g hg; simp at this; omega

/-- Two detectors of the law's own, apart. -/
def Now2 (w0 : World) (b : Nat) (d : D) (b' : Nat) (d' : D) (w : World) : Prop :=
  ∃ row row', St w0 w b row d ∧ St w0 w b' row' d' ∧ b ≠ b' ∧ ∀ g, row = some g → row' ≠ some g
theorem Has.row_far {w : World} {b b' : Nat} {row row' : Option Nat} {d d' : D} (h : Has w b row d) (h' : Has w b' row' d') : row ≠ some b' := by
  intro hg
  obtain ⟨A, n, c, _, hs⟩ := h
  obtain ⟨A', n', c', hb, _⟩ := h'
  rcases hs.2.2.2 with ⟨h1, _⟩ | ⟨g', off, cur, h1, _, hbb, _⟩
  · rw [h1] at hg; cases hg
  · rw [hg] at h1; injection h1 with h1; subst h1
    exact Blk.ne_ hb hbb (by decide) rfl
theorem Now2.swap {w0 w : World} {b b' : Nat} {d d' : D} (h : Now2 w0 b d b' d' w) : Now2 w0 b' d' b d w := by
  obtain ⟨row, row', h1, h2, hne, hr⟩ := h
  exact ⟨row', row, h2, h1, fun e => hne e.symm, fun g hg hg' => hr g hg' hg⟩
theorem Now2.fst {w0 w : World} {b b' : Nat} {d d' : D} (h : Now2 w0 b d b' d' w) : Now w0 b d w := by
  obtain ⟨row, row', h1, _⟩ := h
  exact ⟨row, h1⟩
theorem Now2.snd {w0 w : World} {b b' : Nat} {d d' : D} (h : Now2 w0 b d b' d' w) : Now w0 b' d' w := h.swap.fst
theorem Now2.old {w0 w : World} {b b' : Nat} {d d' : D} (h : Now2 w0 b d b' d' w) : Below w0.heap.size w0 w := h.fst.old
theorem Now2.keep {w0 w w' : World} {b b' : Nat} {d d' : D} (h : Now2 w0 b d b' d' w) {S : Nat → Prop} (hk : Keep S w w') (hS : ∀ k, S k → False) : Now2 w0 b d b' d' w' := by
  obtain ⟨row, row', ⟨o1, ⟨A1, n1, c1, hb1, hs1⟩, w1, r1, k1⟩, ⟨o2, ⟨A2, n2, c2, hb2, hs2⟩, w2, r2, k2⟩, hne, hr⟩ := h
  have hB : Below w0.heap.size w0 w' := o1.trans (hk.below o1.size fun k hk => (hS k hk).elim)
  exact ⟨row, row', ⟨hB, ⟨A1, n1, c1, hb1.keep hk (hS _), hs1.keep hk fun g _ => hS g⟩, w1, r1, k1⟩, ⟨hB, ⟨A2, n2, c2, hb2.keep hk (hS _), hs2.keep hk fun g _ => hS g⟩, w2, r2, k2⟩, hne, hr⟩
theorem Now2.turn {w0 w : World} {b b' : Nat} {row : Option Nat} {d d1 d' : D} {row' : Option Nat} (h : St w0 w b row d) (h' : St w0 w b' row' d') (hne : b ≠ b') (hr : ∀ g, row = some g → row' ≠ some g) (ok : d1.Ok) {e : Ending} {w' : World}
    (ht : Turns b row d1 w e w') : e = .returned (.tuple #[]) ∧ Now2 w0 b d1 b' d' w' := by
  have hst := h.turn ok ht
  obtain ⟨he, row1, hh, hk, hr1⟩ := ht
  refine ⟨he, row1, row', ⟨hst.2.old, hh, h.own, ?_, ok⟩, ⟨hst.2.old, ?_, h'.own, h'.rown, h'.ok⟩, hne, ?_⟩
  · rintro g rfl
    rcases hr1 with e | ⟨g', hg, hle⟩
    · exact h.rown g e.symm
    · injection hg with hg; subst hg; have := h.old.size; omega
  · have hf := h.has.row_far h'.has
    have hf' := h'.has.row_far h.has
    obtain ⟨A, n, c, hb, hs⟩ := h'.has
    refine ⟨A, n, c, hb.keep hk ?_, hs.keep hk ?_⟩
    · rintro (e | e)
      · exact hne e.symm
      · exact hf e
    · rintro g hg (e | e)
      · exact hf' (by rw [hg, e])
      · exact hr g e hg
  · rintro g rfl
    rcases hr1 with e | ⟨g', hg, hle⟩
    · exact hr g e.symm
    · injection hg with hg
      subst hg
      intro e
      obtain ⟨A, n, c, _, hs⟩ := h'.has
      have := hs.lt g e
      omega

theorem now2_begin {w0 w : World} {b b' : Nat} {d d' : D} (h : Now2 w0 b d b' d' w) (now : Int) :
    Calls Try.prog 16 #[.pointer (some ⟨b, 0, none⟩), .int .i64 now] w fun e w' => e = .returned (.tuple #[]) ∧ Now2 w0 b (d.begin_ now) b' d' w' := by
  obtain ⟨row, row', h1, h2, hne, hr⟩ := h
  exact (begin_any b row d now w h1.has).mono fun e w' ht => Now2.turn h1 h2 hne hr (h1.ok.begin_ now) ht
theorem now2_heard {w0 w : World} {b b' : Nat} {d d' : D} (h : Now2 w0 b d b' d' w) (now : Int) :
    Calls Try.prog 13 #[.pointer (some ⟨b, 0, none⟩), .int .i64 now] w fun e w' => e = .returned (.tuple #[]) ∧ Now2 w0 b (d.heard now) b' d' w' := by
  obtain ⟨row, row', h1, h2, hne, hr⟩ := h
  exact (heard_any b row d now w h1.has h1.ok).mono fun e w' ht => Now2.turn h1 h2 hne hr (h1.ok.heard now) ht
theorem now2_heard' {w0 w : World} {b b' : Nat} {d d' : D} (h : Now2 w0 b d b' d' w) (now : Int) :
    Calls Try.prog 13 #[.pointer (some ⟨b', 0, none⟩), .int .i64 now] w fun e w' => e = .returned (.tuple #[]) ∧ Now2 w0 b d b' (d'.heard now) w' :=
  (now2_heard h.swap now).mono fun _ _ ⟨he, h⟩ => ⟨he, h.swap⟩
theorem now2_limit {w0 w : World} {b b' : Nat} {d d' : D} (h : Now2 w0 b d b' d' w) (v : Int) (hv : d.limit = v) :
    Calls Try.prog 12 #[.pointer (some ⟨b, 0, none⟩)] w fun e w' => e = .returned (.int .i64 v) ∧ Now2 w0 b d b' d' w' := by
  have hN := h
  obtain ⟨row, row', h1, h2, hne, hr⟩ := h
  subst hv
  exact (limit_any b row d w h1.has h1.ok).mono fun e w' ⟨he, k, hk⟩ => ⟨he, by subst hk; exact hN.keep (S := fun _ => False) ((Keep.refl _ w).drewN k) (fun _ h => h)⟩
theorem now2_limit' {w0 w : World} {b b' : Nat} {d d' : D} (h : Now2 w0 b d b' d' w) (v : Int) (hv : d'.limit = v) :
    Calls Try.prog 12 #[.pointer (some ⟨b', 0, none⟩)] w fun e w' => e = .returned (.int .i64 v) ∧ Now2 w0 b d b' d' w' :=
  (now2_limit h.swap v hv).mono fun _ _ ⟨he, h⟩ => ⟨he, h.swap⟩
theorem now2_late {w0 w : World} {b b' : Nat} {d d' : D} (h : Now2 w0 b d b' d' w) (now : Int) (v : Bool) (hv : d.late now = v) :
    Calls Try.prog 14 #[.pointer (some ⟨b, 0, none⟩), .int .i64 now] w fun e w' => e = .returned (.bool v) ∧ Now2 w0 b d b' d' w' := by
  have hN := h
  obtain ⟨row, row', h1, h2, hne, hr⟩ := h
  subst hv
  exact (late_any b row d now w h1.has h1.ok).mono fun e w' ⟨he, k, hk⟩ => ⟨he, by subst hk; exact hN.keep (S := fun _ => False) ((Keep.refl _ w).drewN k) (fun _ h => h)⟩
theorem now2_late' {w0 w : World} {b b' : Nat} {d d' : D} (h : Now2 w0 b d b' d' w) (now : Int) (v : Bool) (hv : d'.late now = v) :
    Calls Try.prog 14 #[.pointer (some ⟨b', 0, none⟩), .int .i64 now] w fun e w' => e = .returned (.bool v) ∧ Now2 w0 b d b' d' w' :=
  (now2_late h.swap now v hv).mono fun _ _ ⟨he, h⟩ => ⟨he, h.swap⟩

/-- A second one, out of New or Copy: it lies behind all that was there. -/
theorem Now2.make {w0 w w' : World} {b b' : Nat} {d d' : D} {row' : Option Nat} (h : Now w0 b d w) (hk : Keep (fun _ => False) w w') (h' : Has w' b' row' d') (ok : d'.Ok) (hb : w.heap.size ≤ b') (hr : ∀ g, row' = some g → w.heap.size ≤ g) : Now2 w0 b d b' d' w' := by
  obtain ⟨row, h1⟩ := h
  have hN := (Now.keep ⟨row, h1⟩ hk (fun _ h => h)).old
  obtain ⟨A, n, c, hb1, hs1⟩ := h1.has
  have hlt := hb1.lt
  have hsz := h1.old.size
  refine ⟨row, row', ⟨hN, ⟨A, n, c, hb1.keep hk (fun h => h), hs1.keep hk (fun _ _ h => h)⟩, h1.own, h1.rown, h1.ok⟩, ⟨hN, h', by omega, fun g hg => by have := hr g hg; omega, ok⟩, by omega, ?_⟩
  intro g hg hg'
  have := hs1.lt g hg
  have := hr g hg'
  omega
theorem now_copy {w0 w : World} {b : Nat} {d : D} (h : Now w0 b d w) :
    Calls Try.prog 17 #[.pointer (some ⟨b, 0, none⟩)] w fun e w' => ∃ b', e = .returned (.pointer (some ⟨b', 0, none⟩)) ∧ Now2 w0 b d b' d w' := by
  obtain ⟨row, h1⟩ := h
  refine (copy_any w h1.has h1.ok).mono ?_
  rintro e w' ⟨b', row', rfl, _, h2, h3, h4, h5⟩
  exact ⟨b', rfl, Now2.make ⟨row, h1⟩ h5 h2 h1.ok h3 h4⟩
end Go.Proofs.Ytmlgaikabnbghaa
