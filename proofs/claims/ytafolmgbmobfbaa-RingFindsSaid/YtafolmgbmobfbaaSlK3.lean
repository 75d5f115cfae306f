/-
  append to a slice without room: new memory alone.
-/
import Derived.Test.YtafolmgbmobfbaaSlK
namespace Go.Proofs.Ytafolmgbmobfbaa
open Go.RowKit
section
variable {w w' : World} {e : TypeId} {k : Nat} {row : Option Nat} {A : Option Addr} {xs : List Value}
theorem run_append_new {P : Program} (t ty : TypeId) (i : TypeInfo) (z : Value) (bytes : Nat) (ht : P.underlying t = some (.slice e)) (hi : P.info? e = some i) (hz : i.zero = some z)
    (hsize : i.size = k) (hby : i.bytes = bytes) (hzs : z.cells.size = k) (hk : 0 < k) (h : SlK w e k row A 0 0 xs) {B : Option Addr} {m d : Nat} {ys : List Value} (hy : RdK w k B m ys) (h1 : ∀ u ∈ ys, u.oneCell' = true)
    (h63 : m ≤ maxLen) (hbytes : m * bytes ≤ 140737488355328) :
    ∃ row' A' c' w', (Builtin.append_ #[t, t] ty #[.slice A 0 0, .slice B m d]).run P w = .ok (.slice A' m c') w' ∧ SlK w' e k row' A' m c' ys ∧ Keep (fun _ => False) w w' ∧ (row' = row ∨ ∃ g, row' = some g ∧ w.heap.size ≤ g) := by
  have hxs : xs = [] := List.eq_nil_of_length_eq_zero (by simpa using h.1)
  subst hxs
  by_cases hm : m = 0
  · subst hm
    have hys : ys = [] := List.eq_nil_of_length_eq_zero (by simpa using hy.1)
    subst hys
    refine ⟨row, A, 0, w, ?_, h, Keep.refl _ _, .inl rfl⟩
    cases A <;> cases B <;> simp [Builtin.append_, run_underlying ht, sizeOf, typeInfo, hi, Builtin.lenOf, Builtin.firstCells, storeCells, loadCells, loadCellsFrom]
  · obtain ⟨row', A', c', w', hr, h2, h3⟩ := run_append_slK (P := P) t ty i z bytes ht hi hz hsize hby hzs hk h (d := d) hy h1 (by omega) (by rw [Nat.zero_add]; exact hbytes)
    rw [Nat.zero_add] at hr h2
    refine ⟨row', A', c', w', hr, by simpa using h2, ?_⟩
    rcases h3 with ⟨h3, _⟩ | ⟨_, _, h4, _⟩ | ⟨h4, g, h5, h6⟩
    · exact absurd h3 hm
    · have := h2.2.1; omega
    · exact ⟨h4, .inr ⟨g, h5, h6⟩⟩
theorem wp_append_new {P : Program} {o : Oper} {a : Act} {K : Act → World → Prop} {Q : Exit → Act → World → Prop} (s x : Operand) (t : TypeId)
    (ho : o.op = .call { callee := .builtin .append, args := #[s, x], argTypes := #[t, t] })
    (i : TypeInfo) (z : Value) (bytes : Nat) (ht : P.underlying t = some (.slice e)) (hi : P.info? e = some i) (hz : i.zero = some z)
    (hsize : i.size = k) (hby : i.bytes = bytes) (hzs : z.cells.size = k) (hk : 0 < k) (h : SlK w e k row A 0 0 xs) (hs : a.eval s = .slice A 0 0) {B : Option Addr} {m d : Nat} {ys : List Value} (hx : a.eval x = .slice B m d) (hy : RdK w k B m ys) (h1 : ∀ u ∈ ys, u.oneCell' = true)
    (h63 : m ≤ maxLen) (hbytes : m * bytes ≤ 140737488355328)
    (hK : ∀ row' A' c' w', SlK w' e k row' A' m c' ys → Keep (fun _ => False) w w' → (row' = row ∨ ∃ g, row' = some g ∧ w.heap.size ≤ g) → K (a.put o.dst (.slice A' m c')) w') : o.wp P a w K Q := by
  obtain ⟨row', A', c', w', hr, h2, h3, h4⟩ := run_append_new (P := P) t o.type i z bytes ht hi hz hsize hby hzs hk h (d := d) hy h1 h63 hbytes
  unfold Oper.wp execOp
  simp only [ho, resolve, invoke, builtin, Sem.run_bind, Sem.run_pure, Result.andThen_ok, List.map_toArray, List.map_cons, List.map_nil, hs, hx, hr]
  exact hK row' A' c' w' h2 h3 h4
theorem wpList_append_new {P : Program} {ops : Array Oper} {rest : List Oper} {o : Oper} {a : Act} {Q : Exit → Act → World → Prop} (hgd : o.guard = none) (s x : Operand) (t : TypeId)
    (ho : o.op = .call { callee := .builtin .append, args := #[s, x], argTypes := #[t, t] })
    (i : TypeInfo) (z : Value) (bytes : Nat) (ht : P.underlying t = some (.slice e)) (hi : P.info? e = some i) (hz : i.zero = some z)
    (hsize : i.size = k) (hby : i.bytes = bytes) (hzs : z.cells.size = k) (hk : 0 < k) (h : SlK w e k row A 0 0 xs) (hs : a.eval s = .slice A 0 0) {B : Option Addr} {m d : Nat} {ys : List Value} (hx : a.eval x = .slice B m d) (hy : RdK w k B m ys) (h1 : ∀ u ∈ ys, u.oneCell' = true)
    (h63 : m ≤ maxLen) (hbytes : m * bytes ≤ 140737488355328)
    (hK : ∀ row' A' c' w', SlK w' e k row' A' m c' ys → Keep (fun _ => False) w w' → (row' = row ∨ ∃ g, row' = some g ∧ w.heap.size ≤ g) → wpList P ops Q rest (a.put o.dst (.slice A' m c')) w') : wpList P ops Q (o :: rest) a w :=
  wpList_plain hgd fun _ hK' => wp_append_new s x t ho i z bytes ht hi hz hsize hby hzs hk h hs hx hy h1 h63 hbytes fun r' A' c' w' h2 h3 h4 => hK' _ _ (hK r' A' c' w' h2 h3 h4)
end
end Go.Proofs.Ytafolmgbmobfbaa
