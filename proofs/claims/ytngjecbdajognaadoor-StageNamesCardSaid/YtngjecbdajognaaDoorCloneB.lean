/-
  slices.Clone of a slice of bytes, in memory of the call's own.
-/
import Derived.Test.YtngjecbdajognaaDoorRows
import Derived.Test.YtngjecbdajognaaDoorLib
import Derived.WalkKit
import Derived.WalkSpells
import Derived.WalkLawsBesides
import Derived.Lib.Hide
namespace Go.Proofs.YtngjecbdajognaaDoor
open Go.RowKit

theorem clone_info : (Tryd.prog.info? 5).map (fun i => (i.zero, i.size, i.bytes)) = some (some (.int .u8 0), 1, 1) := by kernel_rfl

/-- a slice that can be read: its cells are xs -/
def Rd (w : World) (A : Option Addr) (n : Nat) (xs : List Value) : Prop :=
  xs.length = n ∧ ∀ k, k < n → ∃ g off v, A = some ⟨g, off, none⟩ ∧ xs[k]? = some v ∧ w.cell? ⟨g, off + k, none⟩ = some v
theorem Sl.rd {w : World} {e : TypeId} {row : Option Nat} {A : Option Addr} {n c : Nat} {xs : List Value} (h : Sl w e row A n c xs) : Rd w A n xs :=
  ⟨h.1, fun k hk => by obtain ⟨g, off, v, h1, _, h2, h3⟩ := h.at_ hk; exact ⟨g, off, v, h1, h2, h3⟩⟩
theorem Rd.keep {S : Nat → Prop} {w w' : World} {A : Option Addr} {n : Nat} {xs : List Value} (h : Rd w A n xs) (hk : Keep S w w') (hn : ∀ g, g < w.heap.size → ¬ S g) : Rd w' A n xs :=
  ⟨h.1, fun k hk' => by
    obtain ⟨g, off, v, h1, h2, h3⟩ := h.2 k hk'
    exact ⟨g, off, v, h1, h2, hk.cell h3 (hn g (World.block_lt_of_cell? w _ h3))⟩⟩
theorem Rd.below {w w' : World} {A : Option Addr} {n : Nat} {xs : List Value} (h : Rd w A n xs) (hk : Below w.heap.size w w') : Rd w' A n xs :=
  ⟨h.1, fun k hk' => by
    obtain ⟨g, off, v, h1, h2, h3⟩ := h.2 k hk'
    exact ⟨g, off, v, h1, h2, (hk.cell (p := ⟨g, off + k, none⟩) (World.block_lt_of_cell? w _ h3)).trans h3⟩⟩

section
variable {w : World} {e : TypeId} {A : Option Addr} {n c : Nat} {xs : List Value}
/-- all of a slice, appended to an empty one without room -/
theorem run_append_copy {P : Program} (t ty : TypeId) (i : TypeInfo) (z : Value) (bytes : Nat) (ht : P.underlying t = some (.slice e)) (hi : P.info? e = some i) (hz : i.zero = some z)
    (hsize : i.size = 1) (hby : i.bytes = bytes) (hzs : z.cells.size = 1) (h : Rd w A n xs) (hmx : n ≤ maxLen) (hA : A ≠ none) (g0 : Nat) (h0 : Blk w g0 e #[])
    (hbytes : n * bytes ≤ 140737488355328) :
    ∃ row' A' c' w', (Builtin.append_ #[t, t] ty #[.slice (some ⟨g0, 0, none⟩) 0 0, .slice A n c]).run P w = .ok (.slice A' n c') w' ∧ Sl w' e row' A' n c' xs ∧
      Keep (fun _ => False) w w' ∧ (∀ g, row' = some g → g = g0 ∨ w.heap.size ≤ g) := by
  have hsz := h.1
  cases A with
  | none => exact absurd rfl hA
  | some a =>
    have hnews : ∀ j u, xs[j]? = some u → w.cell? (a.add j) = some u := fun j u hj => by
      have hlt : j < n := by rw [← hsz]; exact (List.getElem?_eq_some_iff.1 hj).1
      obtain ⟨g, off, v, hA', hv, hc⟩ := h.2 j hlt
      injection hA' with hA'
      subst hA'
      rw [hj] at hv; injection hv with hv
      rw [Addr.add_lit, hc, hv]
    by_cases hn : n = 0
    · subst hn
      obtain rfl : xs = [] := List.eq_nil_of_length_eq_zero hsz
      have hrun := run_append_room_cells (P := P) w t ty e i ht hi g0 0 0 0 a 0 c [] (by simp) hnews (by simp) (Nat.le_refl _) (by simp) (by simp)
      refine ⟨some g0, _, _, _, hrun, ⟨rfl, Nat.le_refl _, by simp [maxLen], .inr ⟨g0, 0, #[], rfl, rfl, ?_, by simp, by simp⟩⟩, ?_, fun g hg => .inl (by injection hg with hg; exact hg.symm)⟩
      · simpa [World.setCells] using h0
      · simpa [World.setCells] using Keep.refl _ w
    · obtain ⟨v', w', hrun, r1, r2⟩ := run_append_arg_grows (P := P) w t ty e i z 1 bytes ht hi hz hsize hby hzs (by decide) ⟨g0, 0, none⟩ 0 0 [] (by simp) (by simp)
        a n c xs (by simp [hsz]) hnews (by omega) (by omega) (by simpa using hbytes)
      obtain ⟨row', A', c', rfl, hsl, hb'⟩ := Sl.of_own r1
      simp only [Nat.zero_add, List.nil_append] at hrun hsl
      exact ⟨row', A', c', w', hrun, hsl, Keep.grown r2 (by intro k hk; cases hk), fun g hg => .inr (hb' g hg)⟩
theorem wpList_append_copy {P : Program} {ops : Array Oper} {rest : List Oper} {o : Oper} {a : Act} {Q : Exit → Act → World → Prop} (hgd : o.guard = none) (s x : Operand) (t : TypeId)
    (ho : o.op = .call { callee := .builtin .append, args := #[s, x], argTypes := #[t, t] })
    (i : TypeInfo) (z : Value) (bytes : Nat) (ht : P.underlying t = some (.slice e)) (hi : P.info? e = some i) (hz : i.zero = some z)
    (hsize : i.size = 1) (hby : i.bytes = bytes) (hzs : z.cells.size = 1) (h : Rd w A n xs) (hmx : n ≤ maxLen) (hA : A ≠ none) (g0 : Nat) (h0 : Blk w g0 e #[])
    (hs : a.eval s = .slice (some ⟨g0, 0, none⟩) 0 0) (hx : a.eval x = .slice A n c) (hbytes : n * bytes ≤ 140737488355328)
    (hK : ∀ row' A' c' w', Sl w' e row' A' n c' xs → Keep (fun _ => False) w w' → (∀ g, row' = some g → g = g0 ∨ w.heap.size ≤ g) → wpList P ops Q rest (a.put o.dst (.slice A' n c')) w') : wpList P ops Q (o :: rest) a w := by
  refine wpList_plain hgd fun _ hK' => ?_
  obtain ⟨row', A', c', w', hr, h2, h3, h4⟩ := run_append_copy (P := P) (c := c) t o.type i z bytes ht hi hz hsize hby hzs h hmx hA g0 h0 hbytes
  unfold Oper.wp execOp
  simp only [ho, resolve, invoke, builtin, Sem.run_bind, Sem.run_pure, Result.andThen_ok, List.map_toArray, List.map_cons, List.map_nil, hs, hx, hr]
  exact hK' _ _ (hK row' A' c' w' h2 h3 h4)
end

/-- The call hands back a slice of the same cells, in new memory. -/
def Cloned (e : TypeId) (n : Nat) (xs : List Value) (w : World) (en : Ending) (w' : World) : Prop :=
  ∃ row' A' c', en = .returned (.slice A' n c') ∧ Sl w' e row' A' n c' xs ∧ Keep (fun _ => False) w w' ∧ (∀ g, row' = some g → w.heap.size ≤ g)

set_option maxHeartbeats 1000000 in
theorem clone_any {A : Option Addr} {n c : Nat} {xs : List Value} (w : World) (h : Rd w A n xs) (hn : n ≤ 1000000) :
    Calls Tryd.prog 21 #[.slice A n c] w (Cloned 5 n xs w) := by
  have hnil := fun w => Lib.run_eql_slice_nil (P := Tryd.prog) w 25 5 A n c 0 0 Tryd.underlying25
  cases A with
  | none =>
    have h0 : n = 0 ∧ xs = [] := by
      have : n = 0 := by
        rcases Nat.eq_zero_or_pos n with h1 | h1
        · exact h1
        · obtain ⟨g, off, v, h2, _⟩ := h.2 0 h1; cases h2
      subst this
      exact ⟨rfl, List.eq_nil_of_length_eq_zero h.1⟩
    obtain ⟨rfl, rfl⟩ := h0
    clear h
    go_enter Tryd.func21, Tryd.ntmps21
    go_wp2
    go_ret
    exact ⟨none, none, 0, rfl, Sl.nil_ _ _, Keep.refl _ _, fun g hg => by cases hg⟩
  | some a =>
    obtain ⟨i0, hi, hz0, hz1, hz2⟩ := info_parts clone_info
    have HS := Lib.hid h
    clear h
    go_enter Tryd.func21, Tryd.ntmps21
    go_wp2_with (at_builtin; refine wpList_append_copy rfl _ _ _ rfl i0 _ 1 Tryd.underlying25 hi hz0 hz1 hz2 rfl (HS.out.keep ((Keep.refl (fun _ => False) w).alloc _) (fun _ _ h => h)) (by unfold maxLen; omega) (by simp) w.heap.size (Blk.new _ _ _) rfl rfl (by omega) ?_; intro row1 A1 c1 w1 hs1 hk1 hr1)
    go_ret
    refine ⟨row1, A1, c1, rfl, hs1, ?_, fun g hg => ?_⟩
    · exact ((Keep.refl (fun _ => False) w).alloc _).trans (hk1.mono fun _ _ h => .inl h)
    · rcases hr1 g hg with h | h
      · omega
      · simp at h; omega


end Go.Proofs.YtngjecbdajognaaDoor
