/-
  append of one element, with the sharper end: in place, or in new memory.
-/
import Derived.Test.YtngjecbdajognaaDoorRows
import Derived.Test.YtngjecbdajognaaDoorLib
namespace Go.Proofs.YtngjecbdajognaaDoor
open Go.RowKit

section
variable {w w' : World} {e : TypeId} {row : Option Nat} {A : Option Addr} {n c : Nat} {xs : List Value}
/-- one element more -/
theorem run_append_sl2 {P : Program} (t ty : TypeId) (i : TypeInfo) (z : Value) (bytes : Nat) (ht : P.underlying t = some (.slice e)) (hi : P.info? e = some i) (hz : i.zero = some z)
    (hsize : i.size = 1) (hby : i.bytes = bytes) (hzs : z.cells.size = 1) (h : Sl w e row A n c xs) (a : Addr) (x : Value) (k : Nat) (hx : w.cell? a = some x) (h1 : x.oneCell' = true)
    (h63 : n + 1 ≤ maxLen) (hbytes : (n + 1) * bytes ≤ 140737488355328) :
    ∃ row' A' c' w', (Builtin.append_ #[t, t] ty #[.slice A n c, .slice (some a) 1 k]).run P w = .ok (.slice A' (n + 1) c') w' ∧ Sl w' e row' A' (n + 1) c' (xs ++ [x]) ∧
      ((row' = row ∧ A' = A ∧ c' = c ∧ Keep (fun g => row = some g) w w') ∨ (Keep (fun _ => False) w w' ∧ ∃ g, row' = some g ∧ w.heap.size ≤ g)) := by
  have hnews : ∀ j u, [x][j]? = some u → w.cell? (a.add j) = some u := by
    intro j u hu
    match j, hu with
    | 0, hu => simp at hu; subst hu; simpa [Addr.add] using hx
  have h1' : ∀ u ∈ [x], u.oneCell' = true := by intro u hu; simp at hu; subst hu; exact h1
  rcases h.2.2.2 with ⟨h2, h3, h4⟩ | ⟨g, off, cur, h2, h3, hb, hs, hc⟩
  · subst h2 h3 h4
    have hn : n = 0 := by have := h.2.1; omega
    subst hn
    obtain rfl : xs = [] := List.eq_nil_of_length_eq_zero h.1
    obtain ⟨v', w', hrun, r1, r2, _⟩ := run_append_own (P := P) w w.heap.size t ty e i z 1 bytes ht hi hz hsize hby hzs (by decide) (.slice none 0 0) 0 [] (World.ownsRow_nil w _ e 1) a 1 k [x] rfl hnews h1' h63 hbytes (Nat.le_refl _)
    obtain ⟨row', A', c', rfl, hsl, hb⟩ := Sl.of_own r1
    refine ⟨row', A', c', w', hrun, hsl, .inr ⟨Keep.grown r2 (by intro k hk; simp [Value.ownBlock] at hk), ?_⟩⟩
    rcases row' with _ | g
    · rcases hsl.2.2.2 with ⟨_, _, h5⟩ | ⟨g, _, _, h5, _⟩
      · have := hsl.2.1; omega
      · cases h5
    · exact ⟨g, rfl, hb g rfl⟩
  · subst h2 h3
    by_cases hr : n + 1 ≤ c
    · have hrun := run_append_room_cells (P := P) w t ty e i ht hi g off n c a 1 k [x] (by simp [hsize]) hnews h1' hr
        (by intro j hj; simp at hj; subst hj; rw [hb.cell, hsize]; simp; omega)
        (by intro j hj; exact hb.frozen _)
      have hset : w.setCells g (off + n * i.size) [x] = w.setCell ⟨g, off + n, none⟩ x := by simp [World.setCells, hsize]
      rw [hset] at hrun
      refine ⟨some g, some ⟨g, off, none⟩, c, _, hrun, ⟨by simp [h.1], hr, h.2.2.1, .inr ⟨g, off, _, rfl, rfl, hb.set_ _ _, by simpa using hs, ?_⟩⟩, .inl ⟨rfl, rfl, rfl, (Keep.refl (fun k => some g = some k) w).setCell (fun _ => rfl) _⟩⟩
      intro j hj
      by_cases hj' : j = n
      · subst hj'
        rw [Array.getElem?_setIfInBounds_self_of_lt (by omega)]
        simp [h.1]
      · rw [Array.getElem?_setIfInBounds_ne (by omega), hc j (by omega), List.getElem?_append_left (by rw [h.1]; omega)]
    · obtain ⟨v', w', hrun, r1, r2⟩ := run_append_arg_grows (P := P) w t ty e i z 1 bytes ht hi hz hsize hby hzs (by decide) ⟨g, off, none⟩ n c xs (by simp [h.1])
        (fun j u hj => by
          have hlt : j < n := by rw [← h.1]; exact (List.getElem?_eq_some_iff.1 hj).1
          rw [Addr.add_lit, hb.cell, hc j hlt, hj]) a 1 k [x] rfl hnews (by omega) h63 hbytes
      obtain ⟨row', A', c', rfl, hsl, hb'⟩ := Sl.of_own r1
      refine ⟨row', A', c', w', hrun, hsl, .inr ⟨Keep.grown r2 (by intro k hk; cases hk), ?_⟩⟩
      rcases row' with _ | g'
      · have := hsl.2.2.2
        rcases this with ⟨_, _, h5⟩ | ⟨g, _, _, h5, _⟩
        · have := hsl.2.1; omega
        · cases h5
      · exact ⟨g', rfl, hb' g' rfl⟩
theorem wp_append_sl2 {P : Program} {o : Oper} {a : Act} {K : Act → World → Prop} {Q : Exit → Act → World → Prop} (s x : Operand) (t : TypeId)
    (ho : o.op = .call { callee := .builtin .append, args := #[s, x], argTypes := #[t, t] })
    (i : TypeInfo) (z : Value) (bytes : Nat) (ht : P.underlying t = some (.slice e)) (hi : P.info? e = some i) (hz : i.zero = some z)
    (hsize : i.size = 1) (hby : i.bytes = bytes) (hzs : z.cells.size = 1) (h : Sl w e row A n c xs) (hs : a.eval s = .slice A n c) (ad : Addr) (v : Value) (k : Nat) (hx : a.eval x = .slice (some ad) 1 k)
    (hv : w.cell? ad = some v) (h1 : v.oneCell' = true) (h63 : n + 1 ≤ maxLen) (hbytes : (n + 1) * bytes ≤ 140737488355328)
    (hK : ∀ row' A' c' w', Sl w' e row' A' (n + 1) c' (xs ++ [v]) → ((row' = row ∧ A' = A ∧ c' = c ∧ Keep (fun g => row = some g) w w') ∨ (Keep (fun _ => False) w w' ∧ ∃ g, row' = some g ∧ w.heap.size ≤ g)) → K (a.put o.dst (.slice A' (n + 1) c')) w') : o.wp P a w K Q := by
  obtain ⟨row', A', c', w', hr, h2, h3⟩ := run_append_sl2 (P := P) t o.type i z bytes ht hi hz hsize hby hzs h ad v k hv h1 h63 hbytes
  unfold Oper.wp execOp
  simp only [ho, resolve, invoke, builtin, Sem.run_bind, Sem.run_pure, Result.andThen_ok, List.map_toArray, List.map_cons, List.map_nil, hs, hx, hr]
  exact hK row' A' c' w' h2 h3
theorem wpList_append_sl2 {P : Program} {ops : Array Oper} {rest : List Oper} {o : Oper} {a : Act} {Q : Exit → Act → World → Prop} (hgd : o.guard = none) (s x : Operand) (t : TypeId)
    (ho : o.op = .call { callee := .builtin .append, args := #[s, x], argTypes := #[t, t] })
    (i : TypeInfo) (z : Value) (bytes : Nat) (ht : P.underlying t = some (.slice e)) (hi : P.info? e = some i) (hz : i.zero = some z)
    (hsize : i.size = 1) (hby : i.bytes = bytes) (hzs : z.cells.size = 1) (h : Sl w e row A n c xs) (hs : a.eval s = .slice A n c) (ad : Addr) (v : Value) (k : Nat) (hx : a.eval x = .slice (some ad) 1 k)
    (hv : w.cell? ad = some v) (h1 : v.oneCell' = true) (h63 : n + 1 ≤ maxLen) (hbytes : (n + 1) * bytes ≤ 140737488355328)
    (hK : ∀ row' A' c' w', Sl w' e row' A' (n + 1) c' (xs ++ [v]) → ((row' = row ∧ A' = A ∧ c' = c ∧ Keep (fun g => row = some g) w w') ∨ (Keep (fun _ => False) w w' ∧ ∃ g, row' = some g ∧ w.heap.size ≤ g)) → wpList P ops Q rest (a.put o.dst (.slice A' (n + 1) c')) w') : wpList P ops Q (o :: rest) a w :=
  wpList_plain hgd fun _ hK' => wp_append_sl2 s x t ho i z bytes ht hi hz hsize hby hzs h hs ad v k hx hv h1 h63 hbytes fun r' A' c' w' h2 h3 => hK' _ _ (hK r' A' c' w' h2 h3)
theorem step_append_sl2 {P : Program} {ops : Array Oper} {o : Oper} {a : Act} {K : Act → World → Prop} {Q : Exit → Act → World → Prop} {E : Prop} (hgd : o.guard = none) (s x : Operand) (t : TypeId)
    (ho : o.op = .call { callee := .builtin .append, args := #[s, x], argTypes := #[t, t] })
    (i : TypeInfo) (z : Value) (bytes : Nat) (ht : P.underlying t = some (.slice e)) (hi : P.info? e = some i) (hz : i.zero = some z)
    (hsize : i.size = 1) (hby : i.bytes = bytes) (hzs : z.cells.size = 1) (h : Sl w e row A n c xs) (hs : a.eval s = .slice A n c) (ad : Addr) (v : Value) (k : Nat) (hx : a.eval x = .slice (some ad) 1 k)
    (hv : w.cell? ad = some v) (h1 : v.oneCell' = true) (h63 : n + 1 ≤ maxLen) (hbytes : (n + 1) * bytes ≤ 140737488355328)
    (hK : ∀ row' A' c' w', Sl w' e row' A' (n + 1) c' (xs ++ [v]) → ((row' = row ∧ A' = A ∧ c' = c ∧ Keep (fun g => row = some g) w w') ∨ (Keep (fun _ => False) w w' ∧ ∃ g, row' = some g ∧ w.heap.size ≤ g)) → K (a.put o.dst (.slice A' (n + 1) c')) w') :
    if Region.wanted o (yielded ops a.tmps) = true then Oper.wp P o a w K Q else E := by
  have hw : Region.wanted o (yielded ops a.tmps) = true := by simp [Region.wanted, hgd]
  rw [if_pos hw]
  exact wp_append_sl2 s x t ho i z bytes ht hi hz hsize hby hzs h hs ad v k hx hv h1 h63 hbytes hK
theorem Sl.front {v : Value} (h : Sl w e row A (n + 1) c (xs ++ [v])) : Sl w e row A n c xs := by
  have hl : xs.length = n := by have := h.1; simp at this; exact this
  refine ⟨hl, by have := h.2.1; omega, h.2.2.1, ?_⟩
  rcases h.2.2.2 with h' | ⟨g, off, cur, h1, h2, h3, h4, h5⟩
  · exact .inl h'
  · refine .inr ⟨g, off, cur, h1, h2, h3, h4, fun j hj => ?_⟩
    rw [h5 j (by omega), List.getElem?_append_left (by omega)]
end
end Go.Proofs.YtngjecbdajognaaDoor
