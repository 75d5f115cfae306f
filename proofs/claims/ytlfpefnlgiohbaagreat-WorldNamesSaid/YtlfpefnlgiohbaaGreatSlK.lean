/-
  Slices of elements of k cells: in memory of the call's own ('SlK'), and that can be read ('RdK'); append.
-/
import Derived.Test.YtlfpefnlgiohbaaGreatRows
import Derived.Test.YtlfpefnlgiohbaaGreatLib
import Derived.Deep.Upon
namespace Go.Proofs.YtlfpefnlgiohbaaGreat
set_option maxRecDepth 100000
open Go.RowKit

section
variable {w w' : World} {g : Nat} {t : TypeId} {cs : Array Value}
theorem Blk.setCells (h : Blk w g t cs) (o : Nat) (vs : List Value) : ∃ cs', Blk (w.setCells g o vs) g t cs' ∧ cs'.size = cs.size ∧ (∀ j, (j < o ∨ o + vs.length ≤ j) → cs'[j]? = cs[j]?) ∧ ∀ j u, vs[j]? = some u → o + j < cs.size → cs'[o + j]? = some u := by
  induction vs generalizing w cs o with
  | nil => exact ⟨cs, h, rfl, fun _ _ => rfl, fun j u hu => by simp at hu⟩
  | cons v vs ih =>
    obtain ⟨cs', h1, h2, h3, h4⟩ := ih (h.set_ o v) (o + 1)
    refine ⟨cs', h1, by simpa using h2, fun j hj => ?_, fun j u hu hlt => ?_⟩
    · rw [h3 j (by simp at hj; omega), Array.getElem?_setIfInBounds_ne (by simp at hj; omega)]
    · cases j with
      | zero =>
        simp at hu; subst hu
        rw [Nat.add_zero] at hlt ⊢
        rw [h3 o (by omega), Array.getElem?_setIfInBounds_self_of_lt hlt]
      | succ j =>
        have := h4 j u (by simpa using hu) (by simp; omega)
        rwa [show o + 1 + j = o + (j + 1) by omega] at this
theorem Keep.setCells {S : Nat → Prop} {w w' : World} (h : Keep S w w') {g : Nat} (hg : g < w.heap.size → S g) (o : Nat) (vs : List Value) : Keep S w (w'.setCells g o vs) := by
  induction vs generalizing w' o with
  | nil => exact h
  | cons v vs ih => exact ih (h.setCell (p := ⟨g, o, none⟩) hg v) (o + 1)
end

/-- n elements of k cells each, in memory that may be written; row: its block (none: it is nil); xs: the cells -/
def SlK (w : World) (e : TypeId) (k : Nat) (row : Option Nat) (A : Option Addr) (n c : Nat) (xs : List Value) : Prop :=
  xs.length = n * k ∧ n ≤ c ∧ c ≤ maxLen ∧
  ((row = none ∧ A = none ∧ c = 0) ∨
   ∃ g off cur, row = some g ∧ A = some ⟨g, off, none⟩ ∧ Blk w g e cur ∧ off + c * k ≤ cur.size ∧ ∀ j, j < n * k → cur[off + j]? = xs[j]?)
/-- .. that can be read -/
def RdK (w : World) (k : Nat) (A : Option Addr) (n : Nat) (xs : List Value) : Prop :=
  xs.length = n * k ∧ ∀ j, j < n * k → ∃ g off v, A = some ⟨g, off, none⟩ ∧ xs[j]? = some v ∧ w.cell? ⟨g, off + j, none⟩ = some v

section
variable {w w' : World} {e : TypeId} {k : Nat} {row : Option Nat} {A : Option Addr} {n c : Nat} {xs : List Value}
theorem SlK.nil_ (w : World) (e : TypeId) (k : Nat) : SlK w e k none none 0 0 [] := ⟨by simp, Nat.le_refl _, by simp [maxLen], .inl ⟨rfl, rfl, rfl⟩⟩
theorem SlK.lt (h : SlK w e k row A n c xs) : ∀ g, row = some g → g < w.heap.size := by
  rintro g rfl
  rcases h.2.2.2 with ⟨h1, _⟩ | ⟨g', off, cur, h1, _, hb, _⟩
  · cases h1
  · injection h1 with h1; subst h1; exact hb.lt
theorem SlK.keep {S : Nat → Prop} (h : SlK w e k row A n c xs) (hk : Keep S w w') (hn : ∀ g, row = some g → ¬ S g) : SlK w' e k row A n c xs :=
  ⟨h.1, h.2.1, h.2.2.1, h.2.2.2.imp id fun ⟨g, off, cur, h1, h2, h3, h4⟩ => ⟨g, off, cur, h1, h2, h3.keep hk (hn g h1), h4⟩⟩
theorem SlK.rd (h : SlK w e k row A n c xs) : RdK w k A n xs :=
  ⟨h.1, fun j hj => by
    rcases h.2.2.2 with ⟨_, _, h1⟩ | ⟨g, off, cur, h1, h2, hb, hs, hc⟩
    · have h2 := h.2.1
      have : n = 0 := by omega
      subst this; simp at hj
    · have hl : j < xs.length := by rw [h.1]; exact hj
      exact ⟨g, off, xs[j], h2, List.getElem?_eq_getElem hl, by rw [hb.cell, hc j hj, List.getElem?_eq_getElem hl]⟩⟩
theorem RdK.keep {S : Nat → Prop} (h : RdK w k A n xs) (hk : Keep S w w') (hn : ∀ g, g < w.heap.size → ¬ S g) : RdK w' k A n xs :=
  ⟨h.1, fun j hj => by
    obtain ⟨g, off, v, h1, h2, h3⟩ := h.2 j hj
    exact ⟨g, off, v, h1, h2, hk.cell h3 (hn g (World.block_lt_of_cell? w _ h3))⟩⟩
theorem RdK.keep0 (h : RdK w k A n xs) (hk : Keep (fun _ => False) w w') : RdK w' k A n xs := h.keep hk (fun _ _ h => h)
theorem RdK.below (h : RdK w k A n xs) (hk : Below w.heap.size w w') : RdK w' k A n xs :=
  ⟨h.1, fun j hj => by
    obtain ⟨g, off, v, h1, h2, h3⟩ := h.2 j hj
    exact ⟨g, off, v, h1, h2, (hk.cell (p := ⟨g, off + j, none⟩) (World.block_lt_of_cell? w _ h3)).trans h3⟩⟩
theorem SlK.of_own {base : Nat} {v : Value} (h : w.ownsRow base e k v n xs) : ∃ row A c, v = .slice A n c ∧ SlK w e k row A n c xs ∧ ∀ g, row = some g → base ≤ g := by
  have hl := h.1
  rcases h.2 with ⟨rfl, hn⟩ | ⟨g, cap, cur, rfl, hb, hh, hnc, hcm, hsz, ht⟩
  · subst hn
    exact ⟨none, none, 0, rfl, ⟨hl, Nat.le_refl _, by simp [maxLen], .inl ⟨rfl, rfl, rfl⟩⟩, fun g hg => by cases hg⟩
  · refine ⟨some g, some ⟨g, 0, none⟩, cap, rfl, ⟨hl, hnc, hcm, .inr ⟨g, 0, cur, rfl, rfl, hh, by omega, fun j hj => ?_⟩⟩, fun g' hg => by injection hg with hg; omega⟩
    rw [← ht]
    simp [hj]
theorem SlK.row_ne {g : Nat} {t : TypeId} {cs : Array Value} (h : SlK w e k row A n c xs) (hb : Blk w g t cs) (hne : t ≠ e) : row ≠ some g := by
  intro hg
  rcases h.2.2.2 with ⟨q1, _⟩ | ⟨g', off, cur, q1, _, hbb, _⟩
  · rw [q1] at hg; cases hg
  · rw [hg] at q1; injection q1 with q1; subst q1
    exact Blk.ne_ hb hbb hne rfl
/-- the slice's end behind an append: in place, or in new memory -/
def Grew (row : Option Nat) (A : Option Addr) (c : Nat) (w : World) (row' : Option Nat) (A' : Option Addr) (c' : Nat) (w' : World) : Prop :=
  (row' = row ∧ A' = A ∧ c' = c ∧ Keep (fun g => row = some g) w w') ∨ (Keep (fun _ => False) w w' ∧ ∃ g, row' = some g ∧ w.heap.size ≤ g)
theorem Grew.keep {row row' : Option Nat} {A A' : Option Addr} {c c' : Nat} {w w' : World} (h : Grew row A c w row' A' c' w') : Keep (fun g => row = some g) w w' := by
  rcases h with ⟨_, _, _, h⟩ | ⟨h, _⟩
  · exact h
  · exact h.mono fun _ _ h => h.elim
theorem Grew.own {row row' : Option Nat} {A A' : Option Addr} {c c' : Nat} {w0 w w' : World} (h : Grew row A c w row' A' c' w') (h0 : w0.heap.size ≤ w.heap.size) (hr : ∀ g, row = some g → w0.heap.size ≤ g) : ∀ g, row' = some g → w0.heap.size ≤ g := by
  intro g hg
  rcases h with ⟨e, _⟩ | ⟨_, g', e, hg'⟩
  · exact hr g (by rw [← e, hg])
  · rw [hg] at e; injection e with e; omega
theorem Grew.keep0 {row row' : Option Nat} {A A' : Option Addr} {c c' : Nat} {w0 w w' : World} (h : Grew row A c w row' A' c' w') (h0 : Keep (fun _ => False) w0 w) (hr : ∀ g, row = some g → w0.heap.size ≤ g) : Keep (fun _ => False) w0 w' :=
  h0.trans (h.keep.mono fun g _ e => .inr (hr g e))

theorem run_append_slK {P : Program} (t ty : TypeId) (i : TypeInfo) (z : Value) (bytes : Nat) (ht : P.underlying t = some (.slice e)) (hi : P.info? e = some i) (hz : i.zero = some z)
    (hsize : i.size = k) (hby : i.bytes = bytes) (hzs : z.cells.size = k) (hk : 0 < k) (h : SlK w e k row A n c xs) {B : Option Addr} {m d : Nat} {ys : List Value} (hy : RdK w k B m ys) (h1 : ∀ u ∈ ys, u.oneCell' = true)
    (h63 : n + m ≤ maxLen) (hbytes : (n + m) * bytes ≤ 140737488355328) :
    ∃ row' A' c' w', (Builtin.append_ #[t, t] ty #[.slice A n c, .slice B m d]).run P w = .ok (.slice A' (n + m) c') w' ∧ SlK w' e k row' A' (n + m) c' (xs ++ ys) ∧ ((m = 0 ∧ row' = row ∧ A' = A ∧ c' = c ∧ w' = w) ∨ Grew row A c w row' A' c' w') := by
  by_cases hm : m = 0
  · subst hm
    have hys : ys = [] := List.eq_nil_of_length_eq_zero (by simpa using hy.1)
    subst hys
    refine ⟨row, A, c, w, ?_, by simpa using h, .inl ⟨rfl, rfl, rfl, rfl, rfl⟩⟩
    have hle := h.2.1
    cases A <;> cases B <;> simp [Builtin.append_, run_underlying ht, sizeOf, typeInfo, hi, Builtin.lenOf, hle, Builtin.firstCells, storeCells, loadCells, loadCellsFrom]
  · obtain ⟨g2, off2, _, hB, _, _⟩ := hy.2 0 (by have := Nat.mul_pos (Nat.pos_of_ne_zero hm) hk; omega)
    subst hB
    have hnews : ∀ j u, ys[j]? = some u → w.cell? ((⟨g2, off2, none⟩ : Addr).add j) = some u := by
      intro j u hu
      have hlt : j < m * k := by rw [← hy.1]; exact (List.getElem?_eq_some_iff.1 hu).1
      obtain ⟨g', off', v, e1, e2, e3⟩ := hy.2 j hlt
      injection e1 with e1; injection e1 with e1 e1'; subst e1 e1'
      rw [Addr.add_lit, e3, ← e2, hu]
    rcases h.2.2.2 with ⟨h2, h3, h4⟩ | ⟨g, off, cur, h2, h3, hb, hs, hc⟩
    · subst h2 h3 h4
      have hn : n = 0 := by have := h.2.1; omega
      subst hn
      obtain rfl : xs = [] := List.eq_nil_of_length_eq_zero (by simpa using h.1)
      obtain ⟨v', w', hrun, r1, r2, _⟩ := run_append_own (P := P) w w.heap.size t ty e i z k bytes ht hi hz hsize hby hzs hk (.slice none 0 0) 0 [] (World.ownsRow_nil w _ e k) ⟨g2, off2, none⟩ m d ys hy.1 hnews h1 h63 hbytes (Nat.le_refl _)
      obtain ⟨row', A', c', rfl, hsl, hb⟩ := SlK.of_own r1
      refine ⟨row', A', c', w', hrun, hsl, .inr (.inr ⟨Keep.grown r2 (by intro k hk; simp [Value.ownBlock] at hk), ?_⟩)⟩
      rcases hsl.2.2.2 with ⟨_, _, h5⟩ | ⟨g, _, _, h5, _⟩
      · have := hsl.2.1; omega
      · exact ⟨g, h5, hb g h5⟩
    · subst h2 h3
      by_cases hr : n + m ≤ c
      · have hnk : (n + m) * k ≤ c * k := Nat.mul_le_mul_right k hr
        rw [Nat.add_mul] at hnk
        have hrun := run_append_room_cells (P := P) w t ty e i ht hi g off n c ⟨g2, off2, none⟩ m d ys (by rw [hy.1, hsize]) hnews h1 hr
          (by intro j hj; rw [hy.1] at hj; rw [hb.cell, hsize]; simp; omega)
          (by intro j hj; exact hb.frozen _)
        rw [hsize] at hrun
        obtain ⟨cs', b1, b2, b3, b4⟩ := hb.setCells (off + n * k) ys
        refine ⟨some g, some ⟨g, off, none⟩, c, _, hrun, ⟨by rw [List.length_append, h.1, hy.1, Nat.add_mul], hr, h.2.2.1, .inr ⟨g, off, cs', rfl, rfl, b1, by omega, ?_⟩⟩, .inr (.inl ⟨rfl, rfl, rfl, (Keep.refl (fun k => some g = some k) w).setCells (fun _ => rfl) _ _⟩)⟩
        intro j hj
        rw [Nat.add_mul] at hj
        by_cases hj' : j < n * k
        · rw [b3 (off + j) (by omega), hc j hj', List.getElem?_append_left (by rw [h.1]; exact hj')]
        · have hlt : j - n * k < ys.length := by rw [hy.1]; omega
          have := b4 (j - n * k) _ (List.getElem?_eq_getElem hlt) (by omega)
          rw [show off + n * k + (j - n * k) = off + j by omega] at this
          rw [this, List.getElem?_append_right (by rw [h.1]; omega), h.1, List.getElem?_eq_getElem hlt]
      · obtain ⟨v', w', hrun, r1, r2⟩ := run_append_arg_grows (P := P) w t ty e i z k bytes ht hi hz hsize hby hzs hk ⟨g, off, none⟩ n c xs h.1
          (fun j u hj => by
            have hlt : j < n * k := by rw [← h.1]; exact (List.getElem?_eq_some_iff.1 hj).1
            rw [Addr.add_lit, hb.cell, hc j hlt, hj]) ⟨g2, off2, none⟩ m d ys hy.1 hnews (by omega) h63 hbytes
        obtain ⟨row', A', c', rfl, hsl, hb'⟩ := SlK.of_own r1
        refine ⟨row', A', c', w', hrun, hsl, .inr (.inr ⟨Keep.grown r2 (by intro k hk; cases hk), ?_⟩)⟩
        rcases hsl.2.2.2 with ⟨_, _, h5⟩ | ⟨g', _, _, h5, _⟩
        · have := hsl.2.1; omega
        · exact ⟨g', h5, hb' g' h5⟩
theorem wp_append_slK {P : Program} {o : Oper} {a : Act} {K : Act → World → Prop} {Q : Exit → Act → World → Prop} (s x : Operand) (t : TypeId)
    (ho : o.op = .call { callee := .builtin .append, args := #[s, x], argTypes := #[t, t] })
    (i : TypeInfo) (z : Value) (bytes : Nat) (ht : P.underlying t = some (.slice e)) (hi : P.info? e = some i) (hz : i.zero = some z)
    (hsize : i.size = k) (hby : i.bytes = bytes) (hzs : z.cells.size = k) (hk : 0 < k) (h : SlK w e k row A n c xs) (hs : a.eval s = .slice A n c) {B : Option Addr} {m d : Nat} {ys : List Value} (hx : a.eval x = .slice B m d) (hy : RdK w k B m ys) (h1 : ∀ u ∈ ys, u.oneCell' = true)
    (h63 : n + m ≤ maxLen) (hbytes : (n + m) * bytes ≤ 140737488355328)
    (hK : ∀ row' A' c' w', SlK w' e k row' A' (n + m) c' (xs ++ ys) → ((m = 0 ∧ row' = row ∧ A' = A ∧ c' = c ∧ w' = w) ∨ Grew row A c w row' A' c' w') → K (a.put o.dst (.slice A' (n + m) c')) w') : o.wp P a w K Q := by
  obtain ⟨row', A', c', w', hr, h2, h3⟩ := run_append_slK (P := P) t o.type i z bytes ht hi hz hsize hby hzs hk h (d := d) hy h1 h63 hbytes
  unfold Oper.wp execOp
  simp only [ho, resolve, invoke, builtin, Sem.run_bind, Sem.run_pure, Result.andThen_ok, List.map_toArray, List.map_cons, List.map_nil, hs, hx, hr]
  exact hK row' A' c' w' h2 h3
theorem wpList_append_slK {P : Program} {ops : Array Oper} {rest : List Oper} {o : Oper} {a : Act} {Q : Exit → Act → World → Prop} (hgd : o.guard = none) (s x : Operand) (t : TypeId)
    (ho : o.op = .call { callee := .builtin .append, args := #[s, x], argTypes := #[t, t] })
    (i : TypeInfo) (z : Value) (bytes : Nat) (ht : P.underlying t = some (.slice e)) (hi : P.info? e = some i) (hz : i.zero = some z)
    (hsize : i.size = k) (hby : i.bytes = bytes) (hzs : z.cells.size = k) (hk : 0 < k) (h : SlK w e k row A n c xs) (hs : a.eval s = .slice A n c) {B : Option Addr} {m d : Nat} {ys : List Value} (hx : a.eval x = .slice B m d) (hy : RdK w k B m ys) (h1 : ∀ u ∈ ys, u.oneCell' = true)
    (h63 : n + m ≤ maxLen) (hbytes : (n + m) * bytes ≤ 140737488355328)
    (hK : ∀ row' A' c' w', SlK w' e k row' A' (n + m) c' (xs ++ ys) → ((m = 0 ∧ row' = row ∧ A' = A ∧ c' = c ∧ w' = w) ∨ Grew row A c w row' A' c' w') → wpList P ops Q rest (a.put o.dst (.slice A' (n + m) c')) w') : wpList P ops Q (o :: rest) a w :=
  wpList_plain hgd fun _ hK' => wp_append_slK s x t ho i z bytes ht hi hz hsize hby hzs hk h hs hx hy h1 h63 hbytes fun r' A' c' w' h2 h3 => hK' _ _ (hK r' A' c' w' h2 h3)
/-- a block that was just laid, as a slice that can be read -/
theorem RdK.of_blk {g : Nat} {t : TypeId} {cs : Array Value} (hb : Blk w g t cs) (n k : Nat) (hs : cs.size = n * k) : RdK w k (some ⟨g, 0, none⟩) n cs.toList :=
  ⟨by simp [hs], fun j hj => ⟨g, 0, cs[j]'(by omega), rfl, by simp [hs, hj], by rw [hb.cell]; simp [hs, hj]⟩⟩
end
end Go.Proofs.YtlfpefnlgiohbaaGreat
