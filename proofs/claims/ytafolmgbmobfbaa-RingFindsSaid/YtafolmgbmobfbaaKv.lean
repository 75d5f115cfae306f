/-
  What a region may do whose appends write behind a slice: a cell of a block from B on stays as it is, or becomes what is appended (one ID behind m of them).
-/
import Derived.Test.YtafolmgbmobfbaaSlK3
import Derived.Test.YtafolmgbmobfbaaID
namespace Go.Proofs.Ytafolmgbmobfbaa
open Go.RowKit

/-- cell j of what stands behind m IDs: x -/
def vKv (m : Nat) (x : ID) (j : Nat) : Option Value := if j = m * 2 then some (.int .i64 x.1) else if j = m * 2 + 1 then some (.int .i64 x.2) else none
def CellKv (m : Nat) (x : ID) (cs cs' : Array Value) : Prop := cs'.size = cs.size ∧ ∀ j, cs'[j]? = cs[j]? ∨ (j < cs.size ∧ cs'[j]? = vKv m x j ∧ (vKv m x j).isSome = true)
structure KV (B m : Nat) (x : ID) (w w' : World) : Prop where
  os : w'.os = w.os
  tape : w'.tape = w.tape
  output : w'.output = w.output
  size : w.heap.size ≤ w'.heap.size
  old : ∀ k, k < w.heap.size → k < B → w'.heap[k]? = w.heap[k]?
  new : ∀ k cs t, B ≤ k → w.heap[k]? = some (.cells cs t (0, 0)) → ∃ cs', w'.heap[k]? = some (.cells cs' t (0, 0)) ∧ CellKv m x cs cs'
theorem CellKv.refl (m : Nat) (x : ID) (cs : Array Value) : CellKv m x cs cs := ⟨rfl, fun _ => .inl rfl⟩
theorem CellKv.trans {m : Nat} {x : ID} {a b c : Array Value} (h : CellKv m x a b) (k : CellKv m x b c) : CellKv m x a c := by
  refine ⟨k.1.trans h.1, fun j => ?_⟩
  rcases k.2 j with e | ⟨h1, h2, h3⟩
  · rcases h.2 j with e2 | ⟨h4, h5, h6⟩
    · exact .inl (e.trans e2)
    · exact .inr ⟨h4, e.trans h5, h6⟩
  · exact .inr ⟨by rw [← h.1]; exact h1, h2, h3⟩
theorem KV.refl {B m : Nat} {x : ID} (w : World) : KV B m x w w := ⟨rfl, rfl, rfl, Nat.le_refl _, fun _ _ _ => rfl, fun _ cs _ _ h => ⟨cs, h, CellKv.refl _ _ _⟩⟩
theorem KV.trans {B m : Nat} {x : ID} (a b c : World) (h : KV B m x a b) (k : KV B m x b c) : KV B m x a c :=
  ⟨k.os.trans h.os, k.tape.trans h.tape, k.output.trans h.output, Nat.le_trans h.size k.size, fun i hi hB => (k.old i (Nat.lt_of_lt_of_le hi h.size) hB).trans (h.old i hi hB), fun i cs t hB hh => by
    obtain ⟨cs1, h1, h2⟩ := h.new i cs t hB hh
    obtain ⟨cs2, h3, h4⟩ := k.new i cs1 t hB h1
    exact ⟨cs2, h3, h2.trans h4⟩⟩
theorem KV.of_keep0 {B m : Nat} {x : ID} {w w' : World} (h : Keep (fun _ => False) w w') : KV B m x w w' :=
  ⟨h.os, h.tape, h.output, h.size, fun k hk _ => h.block k hk (fun h => h), fun _ cs _ _ hh => ⟨cs, h.heap hh (fun h => h), CellKv.refl _ _ _⟩⟩
theorem KV.keep {B m : Nat} {x : ID} {w w' : World} (h : KV B m x w w') : Keep (fun k => B ≤ k) w w' := ⟨h.os, h.tape, h.output, h.size, fun k hk hn => h.old k hk (by omega)⟩
theorem KV.cell {B m : Nat} {x : ID} {w w' : World} (h : KV B m x w w') {a : Addr} {v : Value} (hc : w.cell? a = some v) (hB : a.block < B) : w'.cell? a = some v := h.keep.cell hc (by omega)
/-- .. a block that the value does not fit in stays -/
theorem KV.small {B m : Nat} {x : ID} {w w' : World} (h : KV B m x w w') {g : Nat} {t : TypeId} {cs : Array Value} (hb : Blk w g t cs) (hs : cs.size ≤ m * 2) : Blk w' g t cs := by
  by_cases hB : g < B
  · exact hb.keep h.keep (by omega)
  · obtain ⟨cs', h1, h2, h3⟩ := h.new g cs t (by omega) hb
    have e : cs' = cs := by
      apply Array.ext_getElem?
      intro j
      rcases h3 j with e | ⟨h4, _, h6⟩
      · exact e
      · exfalso
        unfold vKv at h6
        split at h6
        · omega
        · split at h6
          · omega
          · cases h6
    subst e
    exact h1
/-- an empty slice, laid anew -/
def Emp (B : Nat) (v : Value) (W : World) : Prop := ∃ g, v = .slice (some ⟨g, 0, none⟩) 0 0 ∧ Blk W g 23 #[] ∧ B ≤ g
theorem Emp.kv {B B' m : Nat} {x : ID} {v : Value} {W W' : World} (h : Emp B v W) (hk : KV B' m x W W') : Emp B v W' := by obtain ⟨g, e, h, h2⟩ := h; exact ⟨g, e, hk.small h (by simp), h2⟩
theorem Emp.keep0 {B : Nat} {v : Value} {W W' : World} (h : Emp B v W) (hk : Keep (fun _ => False) W W') : Emp B v W' := by obtain ⟨g, e, h, h2⟩ := h; exact ⟨g, e, h.keep hk (fun h => h), h2⟩
def One (x : ID) (v : Value) (W : World) : Prop := ∃ g, v = .slice (some ⟨g, 0, none⟩) 1 1 ∧ Blk W g 23 #[.int .i64 x.1, .int .i64 x.2]
theorem One.kv {B' m : Nat} {y x : ID} {v : Value} {W W' : World} (h : One x v W) (hk : KV B' m y W W') (hm : 1 ≤ m) : One x v W' := by obtain ⟨g, e, h⟩ := h; exact ⟨g, e, hk.small h (by simp; omega)⟩
theorem One.keep0 {x : ID} {v : Value} {W W' : World} (h : One x v W) (hk : Keep (fun _ => False) W W') : One x v W' := by obtain ⟨g, e, h⟩ := h; exact ⟨g, e, h.keep hk (fun h => h)⟩
/-- a slice of r's elements, in a block from B on -/
def OwnB (B : Nat) (r : List ID) (v : Value) (W : World) : Prop := ∃ g c cur, v = .slice (some ⟨g, 0, none⟩) r.length c ∧ r.length ≤ c ∧ c ≤ maxLen ∧ B ≤ g ∧ Blk W g 23 cur ∧ c * 2 ≤ cur.size ∧ ∀ j, j < r.length * 2 → cur[j]? = (r.flatMap cID)[j]?
theorem OwnB.slK {B : Nat} {r : List ID} {v : Value} {W : World} (h : OwnB B r v W) : ∃ g c, v = .slice (some ⟨g, 0, none⟩) r.length c ∧ B ≤ g ∧ SlK W 23 2 (some g) (some ⟨g, 0, none⟩) r.length c (r.flatMap cID) := by
  obtain ⟨g, c, cur, e, h1, h2, h3, h4, h5, h6⟩ := h
  exact ⟨g, c, e, h3, by rw [flat_len cID 2 (fun _ => rfl)], h1, h2, .inr ⟨g, 0, cur, rfl, rfl, h4, by omega, fun j hj => by rw [Nat.zero_add]; exact h6 j hj⟩⟩
theorem OwnB.kv {B B' m : Nat} {x : ID} {r : List ID} {v : Value} {W W' : World} (h : OwnB B r v W) (hB : B' ≤ B) (hr : r.length = m ∨ ∃ r', r = r' ++ [x] ∧ r'.length = m) (hk : KV B' m x W W') : OwnB B r v W' := by
  obtain ⟨g, c, cur, e, h1, h2, h3, h4, h5, h6⟩ := h
  obtain ⟨cs', q1, q2, q3⟩ := hk.new g cur _ (by omega) h4
  refine ⟨g, c, cs', e, h1, h2, h3, q1, by omega, fun j hj => ?_⟩
  rcases q3 j with e2 | ⟨h7, h8, h9⟩
  · exact e2.trans (h6 j hj)
  · rcases hr with hr | ⟨r', rfl, hr⟩
    · exfalso
      unfold vKv at h9
      split at h9
      · omega
      · split at h9
        · omega
        · cases h9
    · rw [h8]
      have hl : (r'.flatMap cID).length = m * 2 := by rw [flat_len cID 2 (fun _ => rfl), hr]
      unfold vKv at h9 ⊢
      rw [List.flatMap_append]
      split
      · rename_i e3
        rw [e3, List.getElem?_append_right (by omega), hl]; simp
      · split
        · rename_i e3
          rw [e3, List.getElem?_append_right (by omega), hl, show m * 2 + 1 - m * 2 = 1 by omega]; simp
        · rename_i e3 e4
          rw [if_neg e3, if_neg e4] at h9; cases h9
theorem OwnB.of_own {w : World} {B : Nat} {v : Value} {r : List ID} (h : w.ownsRow B 23 2 v r.length (r.flatMap cID)) (hr : 0 < r.length) : OwnB B r v w := by
  rcases h.2 with ⟨_, hn⟩ | ⟨g, cap, cur, rfl, hb, hh, hnc, hcm, hsz, ht⟩
  · omega
  · refine ⟨g, cap, cur, rfl, hnc, hcm, hb, hh, by omega, fun j hj => ?_⟩
    rw [← ht]
    simp [hj]
theorem news_of {w : World} {B : Option Addr} {m : Nat} {ys : List Value} (hy : RdK w 2 B m ys) (hm : 0 < m) : ∃ g2 off2, B = some ⟨g2, off2, none⟩ ∧ ∀ j u, ys[j]? = some u → w.cell? ((⟨g2, off2, none⟩ : Addr).add j) = some u := by
  obtain ⟨g2, off2, _, hB, _, _⟩ := hy.2 0 (by omega)
  subst hB
  refine ⟨g2, off2, rfl, fun j u hu => ?_⟩
  have hlt : j < m * 2 := by rw [← hy.1]; exact (List.getElem?_eq_some_iff.1 hu).1
  obtain ⟨g', off', v, e1, e2, e3⟩ := hy.2 j hlt
  injection e1 with e1; injection e1 with e1 e1'; subst e1 e1'
  rw [Addr.add_lit, e3, ← e2, hu]
section
variable {P : Program} (t ty : TypeId) (i : TypeInfo) (z : Value) (ht : P.underlying t = some (.slice 23)) (hi : P.info? 23 = some i) (hz : i.zero = some z) (hsize : i.size = 2) (hby : i.bytes = 16) (hzs : z.cells.size = 2)
include ht hi hz hsize hby hzs
theorem run_append_emp {w : World} (g : Nat) {C : Option Addr} {d : Nat} {r : List ID} (hy : RdI w C r.length r) (hr : 0 < r.length) (hl : r.length ≤ 1000000) :
    ∃ v' w', (Builtin.append_ #[t, t] ty #[.slice (some ⟨g, 0, none⟩) 0 0, .slice C r.length d]).run P w = .ok v' w' ∧ OwnB w.heap.size r v' w' ∧ Keep (fun _ => False) w w' := by
  obtain ⟨g2, off2, rfl, hnews⟩ := news_of hy.2 hr
  obtain ⟨v', w', hrun, r1, r2⟩ := run_append_arg_grows (P := P) w t ty 23 i z 2 16 ht hi hz hsize hby hzs (by decide) ⟨g, 0, none⟩ 0 0 [] rfl
    (fun j u hj => by simp at hj) ⟨g2, off2, none⟩ r.length d (r.flatMap cID) hy.2.1 hnews (by omega) (by unfold maxLen; omega) (by omega)
  rw [Nat.zero_add, List.nil_append] at r1
  exact ⟨v', w', hrun, OwnB.of_own r1 hr, Keep.grown r2 (by intro k hk; cases hk)⟩
theorem run_append_kv {w : World} {B : Nat} {u v : Value} {r : List ID} {x : ID} (h : OwnB B r v w) (hx : One x u w) (hB : B ≤ w.heap.size) (hl : r.length ≤ 1000000) :
    ∃ v' w', (Builtin.append_ #[t, t] ty #[v, u]).run P w = .ok v' w' ∧ OwnB B (r ++ [x]) v' w' ∧ KV B r.length x w w' := by
  obtain ⟨g, c, cur, rfl, h1, h2, h3, h4, h5, h6⟩ := h
  obtain ⟨g1, rfl, hb1⟩ := hx
  have hy : RdI w (some ⟨g1, 0, none⟩) 1 [x] := ⟨rfl, RdK.of_blk hb1 1 2 rfl⟩
  obtain ⟨g2, off2, e2, hnews⟩ := news_of hy.2 (by decide)
  injection e2 with e2; injection e2 with e2 e3; subst e2 e3
  by_cases hr : r.length + 1 ≤ c
  · have hrun := run_append_room_cells (P := P) w t ty 23 i ht hi g 0 r.length c ⟨g1, 0, none⟩ 1 1 ([x].flatMap cID) (by rw [hsize]; rfl) hnews (by intro u hu; simp at hu; rcases hu with rfl | rfl <;> rfl) hr
      (by intro j hj; simp at hj; rw [h4.cell, hsize]; simp; omega) (by intro j hj; exact h4.frozen _)
    rw [hsize, Nat.zero_add] at hrun
    obtain ⟨cs', b1, b2, b3, b4⟩ := h4.setCells (r.length * 2) ([x].flatMap cID)
    have hk := (Keep.refl (fun k => k = g) w).setCells (g := g) (fun _ => rfl) (r.length * 2) ([x].flatMap cID)
    refine ⟨_, _, hrun, ⟨g, c, cs', by rw [List.length_append]; rfl, by rw [List.length_append]; exact hr, h2, h3, b1, by omega, fun j hj => ?_⟩, hk.os, hk.tape, hk.output, hk.size, fun k hk1 hk2 => hk.block k hk1 (by omega), fun k cs t' hkB hkc => ?_⟩
    · rw [List.length_append] at hj
      simp at hj
      have hl2 : (r.flatMap cID).length = r.length * 2 := flat_len cID 2 (fun _ => rfl) r
      rw [List.flatMap_append]
      by_cases hj' : j < r.length * 2
      · rw [b3 j (by omega), h6 j hj', List.getElem?_append_left (by omega)]
      · have hlt : j - r.length * 2 < ([x].flatMap cID).length := by simp; omega
        have := b4 (j - r.length * 2) _ (List.getElem?_eq_getElem hlt) (by omega)
        rw [show r.length * 2 + (j - r.length * 2) = j by omega] at this
        rw [this, List.getElem?_append_right (by omega), hl2, List.getElem?_eq_getElem hlt]
    · by_cases hkg : k = g
      · subst hkg
        have := hkc.symm.trans h4
        injection this with this; injection this with e1 e2
        subst e1 e2
        refine ⟨cs', b1, b2, fun j => ?_⟩
        by_cases hj : j < r.length * 2 ∨ r.length * 2 + 2 ≤ j
        · exact .inl (b3 j (by simpa using hj))
        · refine .inr ⟨by omega, ?_⟩
          rcases (by omega : j = r.length * 2 ∨ j = r.length * 2 + 1) with rfl | rfl
          · have := b4 0 _ rfl (by omega)
            rw [Nat.add_zero] at this
            refine ⟨?_, by simp [vKv]⟩
            rw [this]; simp [vKv]
          · have := b4 1 _ rfl (by omega)
            refine ⟨?_, by simp [vKv]⟩
            rw [this]; simp [vKv]
      · exact ⟨cs, hk.heap hkc (fun e => hkg e), CellKv.refl _ _ _⟩
  · obtain ⟨v', w', hrun, r1, r2⟩ := run_append_arg_grows (P := P) w t ty 23 i z 2 16 ht hi hz hsize hby hzs (by decide) ⟨g, 0, none⟩ r.length c (r.flatMap cID) (flat_len cID 2 (fun _ => rfl) r)
      (fun j u hj => by
        have hlt : j < r.length * 2 := by rw [← flat_len cID 2 (fun _ => rfl) r]; exact (List.getElem?_eq_some_iff.1 hj).1
        rw [Addr.add_lit, h4.cell, Nat.zero_add, h6 j hlt, hj]) ⟨g1, 0, none⟩ 1 1 ([x].flatMap cID) rfl hnews (by omega) (by unfold maxLen; omega) (by omega)
    rw [← List.flatMap_append] at r1
    have e : r.length + 1 = (r ++ [x]).length := by simp
    rw [e] at r1
    have ho := OwnB.of_own r1 (by simp)
    have hk : Keep (fun _ => False) w w' := Keep.grown r2 (by intro k hk; cases hk)
    obtain ⟨g', c', cur', e', q1, q2, q3, q4⟩ := ho
    exact ⟨v', w', hrun, ⟨g', c', cur', e', q1, q2, by omega, q4⟩, KV.of_keep0 hk⟩
end
/-- at the operation -/
theorem wp_append_run {P : Program} {o : Oper} {a : Act} {w w' : World} {u v v' : Value} {K : Act → World → Prop} {Q : Exit → Act → World → Prop} (s x : Operand) (t : TypeId)
    (ho : o.op = .call { callee := .builtin .append, args := #[s, x], argTypes := #[t, t] }) (hs : a.eval s = v) (hx : a.eval x = u)
    (hr : (Builtin.append_ #[t, t] o.type #[v, u]).run P w = .ok v' w') (hK : K (a.put o.dst v') w') : o.wp P a w K Q := by
  unfold Oper.wp execOp
  simp only [ho, resolve, invoke, builtin, Sem.run_bind, Sem.run_pure, Result.andThen_ok, List.map_toArray, List.map_cons, List.map_nil, hs, hx, hr]
  exact hK
end Go.Proofs.Ytafolmgbmobfbaa
