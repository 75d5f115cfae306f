/-
  Plain words for memory, over any program: what a call keeps ('Keep'), and a slice of one-cell elements in memory of the call's own ('Sl').
-/
import Derived.Below
import Derived.Laws.OwnMore
import Derived.Deep.Draws
import Derived.Laws.Rows
import Derived.ArgAppend
import Derived.OwnWalk
import Derived.WalkKit
import Derived.Deep.QuietTactic
import Derived.RegionTactic
namespace Go.Proofs.YtlfpefnlgiohbaaGreat
set_option maxRecDepth 100000
open Go.RowKit

/-- Of the old world's blocks, those outside S are as they were. -/
structure Keep (S : Nat → Prop) (w w' : World) : Prop where
  os : w'.os = w.os
  tape : w'.tape = w.tape
  output : w'.output = w.output
  size : w.heap.size ≤ w'.heap.size
  block : ∀ k, k < w.heap.size → ¬ S k → w'.heap[k]? = w.heap[k]?

theorem Keep.refl (S : Nat → Prop) (w : World) : Keep S w w := ⟨rfl, rfl, rfl, Nat.le_refl _, fun _ _ _ => rfl⟩
theorem Keep.trans {S : Nat → Prop} {a b c : World} (h : Keep S a b) (k : Keep (fun i => S i ∨ a.heap.size ≤ i) b c) : Keep S a c :=
  ⟨k.os.trans h.os, k.tape.trans h.tape, k.output.trans h.output, Nat.le_trans h.size k.size, fun i hi hs => (k.block i (Nat.lt_of_lt_of_le hi h.size) (fun e => e.elim hs (fun g => by omega))).trans (h.block i hi hs)⟩
theorem Keep.mono {S T : Nat → Prop} {w w' : World} (h : Keep S w w') (hst : ∀ k, k < w.heap.size → S k → T k) : Keep T w w' :=
  ⟨h.os, h.tape, h.output, h.size, fun k hk hn => h.block k hk (fun hs => hn (hst k hk hs))⟩
theorem Keep.below {S : Nat → Prop} {w w' : World} {B : Nat} (h : Keep S w w') (hB : B ≤ w.heap.size) (hS : ∀ k, S k → B ≤ k) : Below B w w' :=
  ⟨h.os, h.tape, h.output, h.size, fun k hk => h.block k (by omega) (fun hs => by have := hS k hs; omega)⟩
theorem Keep.of_below {w w' : World} {B : Nat} (h : Below B w w') : Keep (fun k => B ≤ k) w w' :=
  ⟨h.os, h.tape, h.output, h.size, fun k _ hn => h.block k (by omega)⟩
theorem Keep.alloc {S : Nat → Prop} {w w' : World} (h : Keep S w w') (o : Obj) : Keep S w (w'.alloc o) :=
  ⟨h.os, h.tape, h.output, Nat.le_trans h.size (by simp), fun k hk hn => (Below.heap_alloc w' o k (Nat.lt_of_lt_of_le hk h.size)).trans (h.block k hk hn)⟩
theorem Keep.drew {S : Nat → Prop} {w w' : World} (h : Keep S w w') : Keep S w w'.drew := h.trans ⟨rfl, rfl, rfl, Nat.le_refl _, fun _ _ _ => rfl⟩
theorem Keep.drewN {S : Nat → Prop} {w w' : World} (h : Keep S w w') (n : Nat) : Keep S w (w'.drewN n) := h.trans ⟨rfl, rfl, rfl, Nat.le_refl _, fun _ _ _ => rfl⟩
theorem Keep.setCell {S : Nat → Prop} {w w' : World} (h : Keep S w w') {p : Addr} (hp : p.block < w.heap.size → S p.block) (v : Value) : Keep S w (w'.setCell p v) :=
  ⟨h.os, h.tape, h.output, Nat.le_trans h.size (by simp), fun k hk hn => (Below.heap_setCell w' p v k (fun e => hn (by subst e; exact hp hk))).trans (h.block k hk hn)⟩
theorem Keep.grown {S : Nat → Prop} {w w' : World} {row : Option Nat} (h : w.grownBy w' row) (hr : ∀ k, row = some k → S k) : Keep S w w' :=
  ⟨h.os, h.tape, h.output, h.size, fun k hk hn => h.block k hk (fun e => hn (hr k e.symm))⟩
theorem Keep.cell {S : Nat → Prop} {w w' : World} (h : Keep S w w') {a : Addr} {v : Value} (hc : w.cell? a = some v) (hn : ¬ S a.block) : w'.cell? a = some v :=
  (World.cell?_of_block (h.block a.block (World.block_lt_of_cell? w a hc) hn)).trans hc
theorem Keep.frozen {S : Nat → Prop} {w w' : World} (h : Keep S w w') {a : Addr} {v : Bool} (hc : w.frozen? a = v) (hlt : a.block < w.heap.size) (hn : ¬ S a.block) : w'.frozen? a = v :=
  (World.frozen?_of_block (h.block a.block hlt hn)).trans hc
theorem Keep.heap {S : Nat → Prop} {w w' : World} (h : Keep S w w') {k : Nat} {o : Obj} (hk : w.heap[k]? = some o) (hn : ¬ S k) : w'.heap[k]? = some o := by
  have hlt : k < w.heap.size := by
    rcases Nat.lt_or_ge k w.heap.size with h1 | h1
    · exact h1
    · rw [Array.getElem?_eq_none h1] at hk; cases hk
  exact (h.block k hlt hn).trans hk

theorem ret_int {k : IntKind} {a b : Int} (h : a = b) : Ending.returned (.int k a) = .returned (.int k b) := by rw [h]
theorem ret_bool {a b : Bool} (h : a = b) : Ending.returned (.bool a) = .returned (.bool b) := by rw [h]

/-- int(uint(x) % m) -/
theorem mod_u64 (x m : Int) (h : 1 ≤ m) (h2 : m ≤ 1000000000) : ∃ g : Nat, (g : Int) < m ∧ IntKind.i64.wrap ((IntKind.u64.wrap x).tmod m) = (g : Int) := by
  have h0 := wrap_u64_nonneg x
  rw [Int.tmod_eq_emod_of_nonneg h0]
  have h3 := Int.emod_lt_of_pos (IntKind.u64.wrap x) (b := m) (by omega)
  have h4 := Int.emod_nonneg (IntKind.u64.wrap x) (b := m) (by omega)
  generalize IntKind.u64.wrap x % m = r at h3 h4
  exact ⟨r.toNat, by omega, by rw [IntWalk.i64_in _ (by omega)]; omega⟩

/-- The call tells v, and only draws. -/
def Tells (v : Value) (w : World) (e : Ending) (w' : World) : Prop := e = .returned v ∧ ∃ k, w' = w.drewN k
theorem quiet_same {P : Program} {f : FuncId} {args : Array Value} {w : World} {n : Nat} {v : Value}
    (h : Calls P f args (w.drewN n) fun e w' => e = .returned v ∧ w.drewN n = w') : Calls P f args (w.drewN n) fun e w'' => e = .returned v ∧ ∃ m, w'' = w.drewN m :=
  h.mono fun _ _ ⟨he, hm⟩ => ⟨he, n, hm.symm⟩
theorem quiet_tells {P : Program} {f : FuncId} {args : Array Value} {w : World} {n : Nat} {v : Value}
    (h : Calls P f args (w.drewN n) (Tells v (w.drewN n))) : Calls P f args (w.drewN n) fun e w'' => e = .returned v ∧ ∃ m, w'' = w.drewN m :=
  Calls.quiet_of (h.mono fun _ _ ⟨he, m, hm⟩ => ⟨he, m, hm⟩)

/-- Block g is just the cells cs of element type t, none frozen. -/
def Blk (w : World) (g : Nat) (t : TypeId) (cs : Array Value) : Prop := w.heap[g]? = some (.cells cs t (0, 0))
section
variable {w w' : World} {g : Nat} {t : TypeId} {cs : Array Value}
theorem Blk.lt (h : Blk w g t cs) : g < w.heap.size := by
  rcases Nat.lt_or_ge g w.heap.size with hlt | hge
  · exact hlt
  · unfold Blk at h; rw [Array.getElem?_eq_none hge] at h; cases h
theorem Blk.cell (h : Blk w g t cs) (i : Nat) : w.cell? ⟨g, i, none⟩ = cs[i]? := cell_of_row w g i cs t (0, 0) h
theorem Blk.frozen (h : Blk w g t cs) (i : Nat) : w.frozen? ⟨g, i, none⟩ = false := by
  unfold Blk at h
  simp [World.frozen?, h]
theorem Blk.new (w : World) (t : TypeId) (cs : Array Value) : Blk (w.alloc (.cells cs t)) w.heap.size t cs := heap_alloc_new w _
theorem Blk.new_ {w : World} {B : Nat} (h : w.heap.size = B) (t : TypeId) (cs : Array Value) : Blk (w.alloc (.cells cs t)) B t cs := by subst h; exact Blk.new w t cs
theorem Blk.drew (h : Blk w g t cs) : Blk w.drew g t cs := h
theorem Blk.drewN (h : Blk w g t cs) (n : Nat) : Blk (w.drewN n) g t cs := h
theorem Blk.alloc (h : Blk w g t cs) (o : Obj) : Blk (w.alloc o) g t cs := (Below.heap_alloc w o g h.lt).trans h
theorem Blk.set_ (h : Blk w g t cs) (i : Nat) (u : Value) : Blk (w.setCell ⟨g, i, none⟩ u) g t (cs.setIfInBounds i u) := by
  unfold Blk at h ⊢
  simp [World.setCell, Array.getElem?_modify, h]
theorem Blk.far (h : Blk w g t cs) {p : Addr} (hp : g ≠ p.block) (u : Value) : Blk (w.setCell p u) g t cs := (Below.heap_setCell w p u g hp).trans h
theorem Blk.keep {S : Nat → Prop} (h : Blk w g t cs) (hk : Keep S w w') (hn : ¬ S g) : Blk w' g t cs := hk.heap h hn
theorem Blk.ne_ {g' : Nat} {t' : TypeId} {cs' : Array Value} (h : Blk w g t cs) (h' : Blk w g' t' cs') (hne : t ≠ t') : g ≠ g' := by
  rintro rfl
  unfold Blk at h h'
  rw [h] at h'
  injection h' with h'
  injection h' with _ ht
  exact hne ht
end

/-- The slice '.slice A n c' of one-cell elements of type e in memory that may be written: its cells are xs; 'row': its block (none: it is nil). -/
def Sl (w : World) (e : TypeId) (row : Option Nat) (A : Option Addr) (n c : Nat) (xs : List Value) : Prop :=
  xs.length = n ∧ n ≤ c ∧ c ≤ maxLen ∧
  ((row = none ∧ A = none ∧ c = 0) ∨
   ∃ g off cur, row = some g ∧ A = some ⟨g, off, none⟩ ∧ Blk w g e cur ∧ off + c ≤ cur.size ∧ ∀ j, j < n → cur[off + j]? = xs[j]?)

section
variable {w w' : World} {e : TypeId} {row : Option Nat} {A : Option Addr} {n c : Nat} {xs : List Value}
theorem Sl.nil_ (w : World) (e : TypeId) : Sl w e none none 0 0 [] := ⟨rfl, Nat.le_refl _, by simp [maxLen], .inl ⟨rfl, rfl, rfl⟩⟩
theorem Sl.lt (h : Sl w e row A n c xs) : ∀ g, row = some g → g < w.heap.size := by
  rintro g rfl
  rcases h.2.2.2 with ⟨h1, _⟩ | ⟨g', off, cur, h1, _, hb, _⟩
  · cases h1
  · injection h1 with h1; subst h1; exact hb.lt
theorem Sl.keep {S : Nat → Prop} (h : Sl w e row A n c xs) (hk : Keep S w w') (hn : ∀ g, row = some g → ¬ S g) : Sl w' e row A n c xs :=
  ⟨h.1, h.2.1, h.2.2.1, h.2.2.2.imp id fun ⟨g, off, cur, h1, h2, h3, h4⟩ => ⟨g, off, cur, h1, h2, h3.keep hk (hn g h1), h4⟩⟩
theorem Sl.at_ (h : Sl w e row A n c xs) {k : Nat} (hk : k < n) : ∃ g off v, A = some ⟨g, off, none⟩ ∧ row = some g ∧ xs[k]? = some v ∧ w.cell? ⟨g, off + k, none⟩ = some v := by
  rcases h.2.2.2 with ⟨_, _, h1⟩ | ⟨g, off, cur, h1, h2, hb, hs, hc⟩
  · have := h.2.1; omega
  · have hl : k < xs.length := by rw [h.1]; exact hk
    refine ⟨g, off, xs[k], h2, h1, List.getElem?_eq_getElem hl, ?_⟩
    rw [hb.cell, hc k hk, List.getElem?_eq_getElem hl]
theorem Sl.of_own {base : Nat} {v : Value} (h : w.ownsRow base e 1 v n xs) : ∃ row A c, v = .slice A n c ∧ Sl w e row A n c xs ∧ ∀ g, row = some g → base ≤ g := by
  have hl := h.1
  rcases h.2 with ⟨rfl, hn⟩ | ⟨g, cap, cur, rfl, hb, hh, hnc, hcm, hsz, ht⟩
  · subst hn
    exact ⟨none, none, 0, rfl, ⟨by simpa using hl, Nat.le_refl _, by simp [maxLen], .inl ⟨rfl, rfl, rfl⟩⟩, fun g hg => by cases hg⟩
  · refine ⟨some g, some ⟨g, 0, none⟩, cap, rfl, ⟨by simpa using hl, hnc, hcm, .inr ⟨g, 0, cur, rfl, rfl, hh, by simp at hsz; omega, fun j hj => ?_⟩⟩, fun g' hg => by injection hg with hg; omega⟩
    rw [← ht]
    simp [hj]
/-- one element more -/
theorem run_append_sl {P : Program} (t ty : TypeId) (i : TypeInfo) (z : Value) (bytes : Nat) (ht : P.underlying t = some (.slice e)) (hi : P.info? e = some i) (hz : i.zero = some z)
    (hsize : i.size = 1) (hby : i.bytes = bytes) (hzs : z.cells.size = 1) (h : Sl w e row A n c xs) (a : Addr) (x : Value) (k : Nat) (hx : w.cell? a = some x) (h1 : x.oneCell' = true)
    (h63 : n + 1 ≤ maxLen) (hbytes : (n + 1) * bytes ≤ 140737488355328) :
    ∃ row' A' c' w', (Builtin.append_ #[t, t] ty #[.slice A n c, .slice (some a) 1 k]).run P w = .ok (.slice A' (n + 1) c') w' ∧ Sl w' e row' A' (n + 1) c' (xs ++ [x]) ∧
      Keep (fun g => row = some g) w w' ∧ (row' = row ∨ ∃ g, row' = some g ∧ w.heap.size ≤ g) := by
  have hnews : ∀ j u, [x][j]? = some u → w.cell? (a.add j) = some u := by
    intro j u hu
    match j, hu with
    | 0, hu => simp at hu; subst hu; simpa [Addr.add] using hx
  have h1' : ∀ u ∈ [x], u.oneCell' = true := by intro u hu; simp at hu; subst hu; exact h1
  rcases h.2.2.2 with ⟨h2, h3, h4⟩ | ⟨g, off, cur, h2, h3, hb, hs, hc⟩
  · subst h2 h3 h4
    have hn : n = 0 := by have := h.2.1; omega
    subst hn
    obtain rfl : xs = [] := List.eq_nil_of_length_eq_zero h.1
    obtain ⟨v', w', hrun, r1, r2, _⟩ := run_append_own (P := P) w w.heap.size t ty e i z 1 bytes ht hi hz hsize hby hzs (by decide) (.slice none 0 0) 0 [] (World.ownsRow_nil w _ e 1) a 1 k [x] rfl hnews h1' h63 hbytes (Nat.le_refl _)
    obtain ⟨row', A', c', rfl, hsl, hb⟩ := Sl.of_own r1
    refine ⟨row', A', c', w', hrun, hsl, Keep.grown r2 (by intro k hk; simp [Value.ownBlock] at hk), ?_⟩
    rcases row' with _ | g
    · exact .inl rfl
    · exact .inr ⟨g, rfl, hb g rfl⟩
  · subst h2 h3
    by_cases hr : n + 1 ≤ c
    · have hrun := run_append_room_cells (P := P) w t ty e i ht hi g off n c a 1 k [x] (by simp [hsize]) hnews h1' hr
        (by intro j hj; simp at hj; subst hj; rw [hb.cell, hsize]; simp; omega)
        (by intro j hj; exact hb.frozen _)
      have hset : w.setCells g (off + n * i.size) [x] = w.setCell ⟨g, off + n, none⟩ x := by simp [World.setCells, hsize]
      rw [hset] at hrun
      refine ⟨some g, some ⟨g, off, none⟩, c, _, hrun, ⟨by simp [h.1], hr, h.2.2.1, .inr ⟨g, off, _, rfl, rfl, hb.set_ _ _, by simpa using hs, ?_⟩⟩, (Keep.refl _ w).setCell (by simp) _, .inl rfl⟩
      intro j hj
      by_cases hj' : j = n
      · subst hj'
        rw [Array.getElem?_setIfInBounds_self_of_lt (by omega)]
        simp [h.1]
      · rw [Array.getElem?_setIfInBounds_ne (by omega), hc j (by omega), List.getElem?_append_left (by rw [h.1]; omega)]
    · obtain ⟨v', w', hrun, r1, r2⟩ := run_append_arg_grows (P := P) w t ty e i z 1 bytes ht hi hz hsize hby hzs (by decide) ⟨g, off, none⟩ n c xs (by simp [h.1])
        (fun j u hj => by
          have hlt : j < n := by rw [← h.1]; exact (List.getElem?_eq_some_iff.1 hj).1
          rw [Addr.add_lit, hb.cell, hc j hlt, hj]) a 1 k [x] rfl hnews (by omega) h63 hbytes
      obtain ⟨row', A', c', rfl, hsl, hb'⟩ := Sl.of_own r1
      refine ⟨row', A', c', w', hrun, hsl, Keep.grown r2 (by intro k hk; cases hk), ?_⟩
      rcases row' with _ | g'
      · have := hsl.2.2.2
        rcases this with ⟨_, _, h5⟩ | ⟨g, _, _, h5, _⟩
        · have := hsl.2.1; omega
        · cases h5
      · exact .inr ⟨g', rfl, hb' g' rfl⟩
theorem wp_append_sl {P : Program} {o : Oper} {a : Act} {K : Act → World → Prop} {Q : Exit → Act → World → Prop} (s x : Operand) (t : TypeId)
    (ho : o.op = .call { callee := .builtin .append, args := #[s, x], argTypes := #[t, t] })
    (i : TypeInfo) (z : Value) (bytes : Nat) (ht : P.underlying t = some (.slice e)) (hi : P.info? e = some i) (hz : i.zero = some z)
    (hsize : i.size = 1) (hby : i.bytes = bytes) (hzs : z.cells.size = 1) (h : Sl w e row A n c xs) (hs : a.eval s = .slice A n c) (ad : Addr) (v : Value) (k : Nat) (hx : a.eval x = .slice (some ad) 1 k)
    (hv : w.cell? ad = some v) (h1 : v.oneCell' = true) (h63 : n + 1 ≤ maxLen) (hbytes : (n + 1) * bytes ≤ 140737488355328)
    (hK : ∀ row' A' c' w', Sl w' e row' A' (n + 1) c' (xs ++ [v]) → Keep (fun g => row = some g) w w' → (row' = row ∨ ∃ g, row' = some g ∧ w.heap.size ≤ g) → K (a.put o.dst (.slice A' (n + 1) c')) w') : o.wp P a w K Q := by
  obtain ⟨row', A', c', w', hr, h2, h3, h4⟩ := run_append_sl (P := P) t o.type i z bytes ht hi hz hsize hby hzs h ad v k hv h1 h63 hbytes
  unfold Oper.wp execOp
  simp only [ho, resolve, invoke, builtin, Sem.run_bind, Sem.run_pure, Result.andThen_ok, List.map_toArray, List.map_cons, List.map_nil, hs, hx, hr]
  exact hK row' A' c' w' h2 h3 h4
theorem wpList_append_sl {P : Program} {ops : Array Oper} {rest : List Oper} {o : Oper} {a : Act} {Q : Exit → Act → World → Prop} (hgd : o.guard = none) (s x : Operand) (t : TypeId)
    (ho : o.op = .call { callee := .builtin .append, args := #[s, x], argTypes := #[t, t] })
    (i : TypeInfo) (z : Value) (bytes : Nat) (ht : P.underlying t = some (.slice e)) (hi : P.info? e = some i) (hz : i.zero = some z)
    (hsize : i.size = 1) (hby : i.bytes = bytes) (hzs : z.cells.size = 1) (h : Sl w e row A n c xs) (hs : a.eval s = .slice A n c) (ad : Addr) (v : Value) (k : Nat) (hx : a.eval x = .slice (some ad) 1 k)
    (hv : w.cell? ad = some v) (h1 : v.oneCell' = true) (h63 : n + 1 ≤ maxLen) (hbytes : (n + 1) * bytes ≤ 140737488355328)
    (hK : ∀ row' A' c' w', Sl w' e row' A' (n + 1) c' (xs ++ [v]) → Keep (fun g => row = some g) w w' → (row' = row ∨ ∃ g, row' = some g ∧ w.heap.size ≤ g) → wpList P ops Q rest (a.put o.dst (.slice A' (n + 1) c')) w') : wpList P ops Q (o :: rest) a w :=
  wpList_plain hgd fun _ hK' => wp_append_sl s x t ho i z bytes ht hi hz hsize hby hzs h hs ad v k hx hv h1 h63 hbytes fun r' A' c' w' h2 h3 h4 => hK' _ _ (hK r' A' c' w' h2 h3 h4)
theorem step_append_sl {P : Program} {ops : Array Oper} {o : Oper} {a : Act} {K : Act → World → Prop} {Q : Exit → Act → World → Prop} {E : Prop} (hgd : o.guard = none) (s x : Operand) (t : TypeId)
    (ho : o.op = .call { callee := .builtin .append, args := #[s, x], argTypes := #[t, t] })
    (i : TypeInfo) (z : Value) (bytes : Nat) (ht : P.underlying t = some (.slice e)) (hi : P.info? e = some i) (hz : i.zero = some z)
    (hsize : i.size = 1) (hby : i.bytes = bytes) (hzs : z.cells.size = 1) (h : Sl w e row A n c xs) (hs : a.eval s = .slice A n c) (ad : Addr) (v : Value) (k : Nat) (hx : a.eval x = .slice (some ad) 1 k)
    (hv : w.cell? ad = some v) (h1 : v.oneCell' = true) (h63 : n + 1 ≤ maxLen) (hbytes : (n + 1) * bytes ≤ 140737488355328)
    (hK : ∀ row' A' c' w', Sl w' e row' A' (n + 1) c' (xs ++ [v]) → Keep (fun g => row = some g) w w' → (row' = row ∨ ∃ g, row' = some g ∧ w.heap.size ≤ g) → K (a.put o.dst (.slice A' (n + 1) c')) w') :
    if Region.wanted o (yielded ops a.tmps) = true then Oper.wp P o a w K Q else E := by
  have hw : Region.wanted o (yielded ops a.tmps) = true := by simp [Region.wanted, hgd]
  rw [if_pos hw]
  exact wp_append_sl s x t ho i z bytes ht hi hz hsize hby hzs h hs ad v k hx hv h1 h63 hbytes hK
/-- 's[k:n:n]', k below n -/
theorem Sl.cut3 (h : Sl w e row A n c xs) {k : Nat} (hk : k < n) : ∃ g off, A = some ⟨g, off, none⟩ ∧ Sl w e row (some ⟨g, off + k, none⟩) (n - k) (n - k) (xs.drop k) := by
  rcases h.2.2.2 with ⟨_, _, h1⟩ | ⟨g, off, cur, h1, h2, hb, hs, hc⟩
  · have := h.2.1; omega
  · refine ⟨g, off, h2, by simp [h.1], Nat.le_refl _, by have := h.2.1; have := h.2.2.1; omega, .inr ⟨g, off + k, cur, h1, rfl, hb, by have := h.2.1; omega, fun j hj => ?_⟩⟩
    rw [List.getElem?_drop, Nat.add_assoc]
    exact hc (k + j) (by omega)
end
end Go.Proofs.YtlfpefnlgiohbaaGreat
