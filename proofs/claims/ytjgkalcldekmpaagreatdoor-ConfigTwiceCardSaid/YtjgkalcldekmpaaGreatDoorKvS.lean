/-
  What a region may do whose appends write behind a slice: a cell of a block from B on stays as it is, or becomes the string that is appended (behind m of them).
-/
import Derived.Test.YtjgkalcldekmpaaGreatDoorSlK
namespace Go.Proofs.YtjgkalcldekmpaaGreatDoor
open Go.RowKit

/-- cell j of what stands behind m strings: x -/
def CellKs (m : Nat) (x : Value) (cs cs' : Array Value) : Prop := cs'.size = cs.size ∧ ∀ j, cs'[j]? = cs[j]? ∨ (j < cs.size ∧ j = m ∧ cs'[j]? = some x)
structure KS (B m : Nat) (x : Value) (w w' : World) : Prop where
  os : w'.os = w.os
  tape : w'.tape = w.tape
  output : w'.output = w.output
  size : w.heap.size ≤ w'.heap.size
  old : ∀ k, k < w.heap.size → k < B → w'.heap[k]? = w.heap[k]?
  new : ∀ k cs t, B ≤ k → w.heap[k]? = some (.cells cs t (0, 0)) → ∃ cs', w'.heap[k]? = some (.cells cs' t (0, 0)) ∧ CellKs m x cs cs'
theorem CellKs.refl (m : Nat) (x : Value) (cs : Array Value) : CellKs m x cs cs := ⟨rfl, fun _ => .inl rfl⟩
theorem CellKs.trans {m : Nat} {x : Value} {a b c : Array Value} (h : CellKs m x a b) (k : CellKs m x b c) : CellKs m x a c := by
  refine ⟨k.1.trans h.1, fun j => ?_⟩
  rcases k.2 j with e | ⟨h1, h2, h3⟩
  · rcases h.2 j with e2 | ⟨h4, h5, h6⟩
    · exact .inl (e.trans e2)
    · exact .inr ⟨h4, h5, e.trans h6⟩
  · exact .inr ⟨by rw [← h.1]; exact h1, h2, h3⟩
theorem KS.refl {B m : Nat} {x : Value} (w : World) : KS B m x w w := ⟨rfl, rfl, rfl, Nat.le_refl _, fun _ _ _ => rfl, fun _ cs _ _ h => ⟨cs, h, CellKs.refl _ _ _⟩⟩
theorem KS.trans {B m : Nat} {x : Value} (a b c : World) (h : KS B m x a b) (k : KS B m x b c) : KS B m x a c :=
  ⟨k.os.trans h.os, k.tape.trans h.tape, k.output.trans h.output, Nat.le_trans h.size k.size, fun i hi hB => (k.old i (Nat.lt_of_lt_of_le hi h.size) hB).trans (h.old i hi hB), fun i cs t hB hh => by
    obtain ⟨cs1, h1, h2⟩ := h.new i cs t hB hh
    obtain ⟨cs2, h3, h4⟩ := k.new i cs1 t hB h1
    exact ⟨cs2, h3, h2.trans h4⟩⟩
theorem KS.of_keep0 {B m : Nat} {x : Value} {w w' : World} (h : Keep (fun _ => False) w w') : KS B m x w w' :=
  ⟨h.os, h.tape, h.output, h.size, fun k hk _ => h.block k hk (fun h => h), fun _ cs _ _ hh => ⟨cs, h.heap hh (fun h => h), CellKs.refl _ _ _⟩⟩
theorem KS.keep {B m : Nat} {x : Value} {w w' : World} (h : KS B m x w w') : Keep (fun k => B ≤ k) w w' := ⟨h.os, h.tape, h.output, h.size, fun k hk hn => h.old k hk (by omega)⟩
theorem KS.cell {B m : Nat} {x : Value} {w w' : World} (h : KS B m x w w') {a : Addr} {v : Value} (hc : w.cell? a = some v) (hB : a.block < B) : w'.cell? a = some v := h.keep.cell hc (by omega)
theorem keepDS {m : Nat} {x : Value} {w W : World} (h : KS w.heap.size m x w.drew W) : Keep (fun _ => False) w W :=
  ⟨h.os, h.tape, h.output, h.size, fun k hk _ => h.old k hk hk⟩
/-- .. a block that the value does not fit in stays -/
theorem KS.small {B m : Nat} {x : Value} {w w' : World} (h : KS B m x w w') {g : Nat} {t : TypeId} {cs : Array Value} (hb : Blk w g t cs) (hs : cs.size ≤ m) : Blk w' g t cs := by
  by_cases hB : g < B
  · exact hb.keep h.keep (by omega)
  · obtain ⟨cs', h1, h2, h3⟩ := h.new g cs t (by omega) hb
    have e : cs' = cs := by
      apply Array.ext_getElem?
      intro j
      rcases h3 j with e | ⟨h4, h5, _⟩
      · exact e
      · exfalso; omega
    subst e
    exact h1
def EmpS (B : Nat) (v : Value) (W : World) : Prop := ∃ g, v = .slice (some ⟨g, 0, none⟩) 0 0 ∧ Blk W g 9 #[] ∧ B ≤ g
theorem EmpS.ks {B B' m : Nat} {x : Value} {v : Value} {W W' : World} (h : EmpS B v W) (hk : KS B' m x W W') : EmpS B v W' := by obtain ⟨g, e, h, h2⟩ := h; exact ⟨g, e, hk.small h (by simp), h2⟩
def OneS (x : Value) (v : Value) (W : World) : Prop := ∃ g, v = .slice (some ⟨g, 0, none⟩) 1 1 ∧ Blk W g 9 #[x]
theorem OneS.ks {B' m : Nat} {y x : Value} {v : Value} {W W' : World} (h : OneS x v W) (hk : KS B' m y W W') (hm : 1 ≤ m) : OneS x v W' := by obtain ⟨g, e, h⟩ := h; exact ⟨g, e, hk.small h (by simp; omega)⟩
/-- a slice of r's elements, in a block from B on -/
def OwnS (B : Nat) (r : List Value) (v : Value) (W : World) : Prop := ∃ g c cur, v = .slice (some ⟨g, 0, none⟩) r.length c ∧ r.length ≤ c ∧ c ≤ maxLen ∧ B ≤ g ∧ Blk W g 9 cur ∧ c ≤ cur.size ∧ ∀ j, j < r.length → cur[j]? = r[j]?
theorem OwnS.up {B B' : Nat} {r : List Value} {v : Value} {W : World} (h : OwnS B r v W) (hB : B' ≤ B) : OwnS B' r v W := by
  obtain ⟨g, c, cur, e, h1, h2, h3, h4⟩ := h; exact ⟨g, c, cur, e, h1, h2, by omega, h4⟩
theorem OwnS.slK {B : Nat} {r : List Value} {v : Value} {W : World} (h : OwnS B r v W) : ∃ g c, v = .slice (some ⟨g, 0, none⟩) r.length c ∧ B ≤ g ∧ SlK W 9 1 (some g) (some ⟨g, 0, none⟩) r.length c r := by
  obtain ⟨g, c, cur, e, h1, h2, h3, h4, h5, h6⟩ := h
  exact ⟨g, c, e, h3, by omega, h1, h2, .inr ⟨g, 0, cur, rfl, rfl, h4, by omega, fun j hj => by rw [Nat.zero_add]; exact h6 j (by omega)⟩⟩
theorem OwnS.ks {B B' m : Nat} {x : Value} {r : List Value} {v : Value} {W W' : World} (h : OwnS B r v W) (hB : B' ≤ B) (hr : r.length = m ∨ ∃ r', r = r' ++ [x] ∧ r'.length = m) (hk : KS B' m x W W') : OwnS B r v W' := by
  obtain ⟨g, c, cur, e, h1, h2, h3, h4, h5, h6⟩ := h
  obtain ⟨cs', q1, q2, q3⟩ := hk.new g cur _ (by omega) h4
  refine ⟨g, c, cs', e, h1, h2, h3, q1, by omega, fun j hj => ?_⟩
  rcases q3 j with e2 | ⟨h7, h8, h9⟩
  · exact e2.trans (h6 j hj)
  · rcases hr with hr | ⟨r', rfl, hr⟩
    · exfalso; omega
    · rw [h9, h8, List.getElem?_append_right (by omega), hr]; simp
theorem OwnS.of_own {w : World} {B : Nat} {v : Value} {r : List Value} (h : w.ownsRow B 9 1 v r.length r) (hr : 0 < r.length) : OwnS B r v w := by
  rcases h.2 with ⟨_, hn⟩ | ⟨g, cap, cur, rfl, hb, hh, hnc, hcm, hsz, ht⟩
  · omega
  · refine ⟨g, cap, cur, rfl, hnc, hcm, hb, hh, by omega, fun j hj => ?_⟩
    rw [← ht]
    simp [hj]
theorem newsS_of {w : World} {B : Option Addr} {m : Nat} {ys : List Value} (hy : RdK w 1 B m ys) (hm : 0 < m) : ∃ g2 off2, B = some ⟨g2, off2, none⟩ ∧ ∀ j u, ys[j]? = some u → w.cell? ((⟨g2, off2, none⟩ : Addr).add j) = some u := by
  obtain ⟨g2, off2, _, hB, _, _⟩ := hy.2 0 (by omega)
  subst hB
  refine ⟨g2, off2, rfl, fun j u hu => ?_⟩
  have hlt : j < m * 1 := by rw [← hy.1]; exact (List.getElem?_eq_some_iff.1 hu).1
  obtain ⟨g', off', v, e1, e2, e3⟩ := hy.2 j hlt
  injection e1 with e1; injection e1 with e1 e1'; subst e1 e1'
  rw [Addr.add_lit, e3, ← e2, hu]
section
variable {P : Program} (t ty : TypeId) (i : TypeInfo) (z : Value) (ht : P.underlying t = some (.slice 9)) (hi : P.info? 9 = some i) (hz : i.zero = some z) (hsize : i.size = 1) (hby : i.bytes = 16) (hzs : z.cells.size = 1)
include ht hi hz hsize hby hzs
theorem run_append_empS {w : World} (g : Nat) {C : Option Addr} {d n : Nat} {r : List Value} (hy : RdK w 1 C n r) (hr : 0 < n) (hl : n ≤ 1000000) :
    ∃ v' w', (Builtin.append_ #[t, t] ty #[.slice (some ⟨g, 0, none⟩) 0 0, .slice C n d]).run P w = .ok v' w' ∧ OwnS w.heap.size r v' w' ∧ Keep (fun _ => False) w w' := by
  obtain ⟨g2, off2, rfl, hnews⟩ := newsS_of hy hr
  have hlen := hy.1
  rw [Nat.mul_one] at hlen
  obtain ⟨v', w', hrun, r1, r2⟩ := run_append_arg_grows (P := P) w t ty 9 i z 1 16 ht hi hz hsize hby hzs (by decide) ⟨g, 0, none⟩ 0 0 [] rfl
    (fun j u hj => by simp at hj) ⟨g2, off2, none⟩ n d r hy.1 hnews (by omega) (by unfold maxLen; omega) (by omega)
  rw [Nat.zero_add, List.nil_append, ← hlen] at r1
  exact ⟨v', w', hrun, OwnS.of_own r1 (by omega), Keep.grown r2 (by intro k hk; cases hk)⟩
theorem run_append_ks {w : World} {B : Nat} {u v : Value} {r : List Value} {x : Value} (h1c : x.oneCell' = true) (h : OwnS B r v w) (hx : OneS x u w) (hB : B ≤ w.heap.size) (hl : r.length ≤ 1000000) :
    ∃ v' w', (Builtin.append_ #[t, t] ty #[v, u]).run P w = .ok v' w' ∧ OwnS B (r ++ [x]) v' w' ∧ KS B r.length x w w' := by
  obtain ⟨g, c, cur, rfl, h1, h2, h3, h4, h5, h6⟩ := h
  obtain ⟨g1, rfl, hb1⟩ := hx
  have hy : RdK w 1 (some ⟨g1, 0, none⟩) 1 [x] := RdK.of_blk hb1 1 1 rfl
  obtain ⟨g2, off2, e2, hnews⟩ := newsS_of hy (by decide)
  injection e2 with e2; injection e2 with e2 e3; subst e2 e3
  by_cases hr : r.length + 1 ≤ c
  · have hrun := run_append_room_cells (P := P) w t ty 9 i ht hi g 0 r.length c ⟨g1, 0, none⟩ 1 1 [x] (by rw [hsize]; rfl) hnews (by intro u hu; simp at hu; subst hu; exact h1c) hr
      (by intro j hj; simp at hj; rw [h4.cell, hsize]; simp; omega) (by intro j hj; exact h4.frozen _)
    rw [hsize, Nat.zero_add, Nat.mul_one] at hrun
    obtain ⟨cs', b1, b2, b3, b4⟩ := h4.setCells r.length [x]
    have hk := (Keep.refl (fun k => k = g) w).setCells (g := g) (fun _ => rfl) r.length [x]
    refine ⟨_, _, hrun, ⟨g, c, cs', by rw [List.length_append]; rfl, by rw [List.length_append]; exact hr, h2, h3, b1, by omega, fun j hj => ?_⟩, hk.os, hk.tape, hk.output, hk.size, fun k hk1 hk2 => hk.block k hk1 (by omega), fun k cs t' hkB hkc => ?_⟩
    · rw [List.length_append] at hj
      simp at hj
      by_cases hj' : j < r.length
      · rw [b3 j (by omega), h6 j hj', List.getElem?_append_left (by omega)]
      · obtain rfl : j = r.length := by omega
        have := b4 0 x rfl (by omega)
        rw [Nat.add_zero] at this
        rw [this, List.getElem?_append_right (Nat.le_refl _)]; simp
    · by_cases hkg : k = g
      · subst hkg
        have := hkc.symm.trans h4
        injection this with this; injection this with e1 e2
        subst e1 e2
        refine ⟨cs', b1, b2, fun j => ?_⟩
        by_cases hj : j < r.length ∨ r.length + 1 ≤ j
        · exact .inl (b3 j (by simpa using hj))
        · obtain rfl : j = r.length := by omega
          have := b4 0 x rfl (by omega)
          rw [Nat.add_zero] at this
          exact .inr ⟨by omega, rfl, this⟩
      · exact ⟨cs, hk.heap hkc (fun e => hkg e), CellKs.refl _ _ _⟩
  · obtain ⟨v', w', hrun, r1, r2⟩ := run_append_arg_grows (P := P) w t ty 9 i z 1 16 ht hi hz hsize hby hzs (by decide) ⟨g, 0, none⟩ r.length c r (by omega)
      (fun j u hj => by
        have hlt : j < r.length := (List.getElem?_eq_some_iff.1 hj).1
        rw [Addr.add_lit, h4.cell, Nat.zero_add, h6 j hlt, hj]) ⟨g1, 0, none⟩ 1 1 [x] rfl hnews (by omega) (by unfold maxLen; omega) (by omega)
    have e : r.length + 1 = (r ++ [x]).length := by simp
    rw [e] at r1
    have ho := OwnS.of_own r1 (by simp)
    have hk : Keep (fun _ => False) w w' := Keep.grown r2 (by intro k hk; cases hk)
    obtain ⟨g', c', cur', e', q1, q2, q3, q4⟩ := ho
    exact ⟨v', w', hrun, ⟨g', c', cur', e', q1, q2, by omega, q4⟩, KS.of_keep0 hk⟩
end
/-- at the operation -/
theorem wp_append_runS {P : Program} {o : Oper} {a : Act} {w w' : World} {u v v' : Value} {K : Act → World → Prop} {Q : Exit → Act → World → Prop} (s x : Operand) (t : TypeId)
    (ho : o.op = .call { callee := .builtin .append, args := #[s, x], argTypes := #[t, t] }) (hs : a.eval s = v) (hx : a.eval x = u)
    (hr : (Builtin.append_ #[t, t] o.type #[v, u]).run P w = .ok v' w') (hK : K (a.put o.dst v') w') : o.wp P a w K Q := by
  unfold Oper.wp execOp
  simp only [ho, resolve, invoke, builtin, Sem.run_bind, Sem.run_pure, Result.andThen_ok, List.map_toArray, List.map_cons, List.map_nil, hs, hx, hr]
  exact hK
end Go.Proofs.YtjgkalcldekmpaaGreatDoor
