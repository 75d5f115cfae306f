/-
  Plain words for memory, over any program: what a call keeps ('Keep'), and a slice of one-cell elements in memory of the call's own ('Sl').
  Slices of elements of k cells: in memory of the call's own ('SlK'), and that can be read ('RdK'); append.
  IDs: how they lie; May, Less of package ident and of the reference.
  == and != of IDs.
  Regions that draw their order, each operation shown once: in whatever later world it comes up, it yields a value of which a fact holds that every later world keeps.
  cmp.Compare, cmp.Or, ident.Compare, ident.Less.
  slices.Compact at IDs: the plain parts: what it leaves (dk), how a list lies in a block (Lies), clear.
-/
import Derived.Below
import Derived.Laws.OwnMore
import Derived.Deep.Draws
import Derived.Laws.Rows
import Derived.ArgAppend
import Derived.OwnWalk
import Derived.WalkKit
import Derived.Deep.QuietTactic
import Derived.RegionTactic
import Derived.Test.YtgoldgamjogadaaGreatRows
import Derived.Deep.Upon
import Derived.WalkSpells
import Derived.WalkLawsBesides
import Derived.Lib.Hide
import Derived.Outline
import Derived.BigQuiet
import Derived.Laws.StructEq
import Derived.StillTail
import Derived.Deep.Quiet
namespace Go.Proofs.YtgoldgamjogadaaGreat
open Go.RowKit

/-- Of the old world's blocks, those outside S are as they were. -/
structure Keep (S : Nat → Prop) (w w' : World) : Prop where
  os : w'.os = w.os
  tape : w'.tape = w.tape
  output : w'.output = w.output
  size : w.heap.size ≤ w'.heap.size
  block : ∀ k, k < w.heap.size → ¬ S k → w'.heap[k]? = w.heap[k]?

theorem Keep.refl (S : Nat → Prop) (w : World) : Keep S w w := ⟨rfl, rfl, rfl, Nat.le_refl _, fun _ _ _ => rfl⟩
theorem Keep.trans {S : Nat → Prop} {a b c : World} (h : Keep S a b) (k : Keep (fun i => S i ∨ a.heap.size ≤ i) b c) : Keep S a c :=
  ⟨k.os.trans h.os, k.tape.trans h.tape, k.output.trans h.output, Nat.le_trans h.size k.size, fun i hi hs => (k.block i (Nat.lt_of_lt_of_le hi h.size) (fun e => e.elim hs (fun g => by omega))).trans (h.block i hi hs)⟩
theorem Keep.mono {S T : Nat → Prop} {w w' : World} (h : Keep S w w') (hst : ∀ k, k < w.heap.size → S k → T k) : Keep T w w' :=
  ⟨h.os, h.tape, h.output, h.size, fun k hk hn => h.block k hk (fun hs => hn (hst k hk hs))⟩
theorem Keep.below {S : Nat → Prop} {w w' : World} {B : Nat} (h : Keep S w w') (hB : B ≤ w.heap.size) (hS : ∀ k, S k → B ≤ k) : Below B w w' :=
  ⟨h.os, h.tape, h.output, h.size, fun k hk => h.block k (by omega) (fun hs => by have := hS k hs; omega)⟩
theorem Keep.of_below {w w' : World} {B : Nat} (h : Below B w w') : Keep (fun k => B ≤ k) w w' :=
  ⟨h.os, h.tape, h.output, h.size, fun k _ hn => h.block k (by omega)⟩
theorem Keep.alloc {S : Nat → Prop} {w w' : World} (h : Keep S w w') (o : Obj) : Keep S w (w'.alloc o) :=
  ⟨h.os, h.tape, h.output, Nat.le_trans h.size (by simp), fun k hk hn => (Below.heap_alloc w' o k (Nat.lt_of_lt_of_le hk h.size)).trans (h.block k hk hn)⟩
theorem Keep.drew {S : Nat → Prop} {w w' : World} (h : Keep S w w') : Keep S w w'.drew := h.trans ⟨rfl, rfl, rfl, Nat.le_refl _, fun _ _ _ => rfl⟩
theorem Keep.drewN {S : Nat → Prop} {w w' : World} (h : Keep S w w') (n : Nat) : Keep S w (w'.drewN n) := h.trans ⟨rfl, rfl, rfl, Nat.le_refl _, fun _ _ _ => rfl⟩
theorem Keep.setCell {S : Nat → Prop} {w w' : World} (h : Keep S w w') {p : Addr} (hp : p.block < w.heap.size → S p.block) (v : Value) : Keep S w (w'.setCell p v) :=
  ⟨h.os, h.tape, h.output, Nat.le_trans h.size (by simp), fun k hk hn => (Below.heap_setCell w' p v k (fun e => hn (by subst e; exact hp hk))).trans (h.block k hk hn)⟩
theorem Keep.grown {S : Nat → Prop} {w w' : World} {row : Option Nat} (h : w.grownBy w' row) (hr : ∀ k, row = some k → S k) : Keep S w w' :=
  ⟨h.os, h.tape, h.output, h.size, fun k hk hn => h.block k hk (fun e => hn (hr k e.symm))⟩
theorem Keep.cell {S : Nat → Prop} {w w' : World} (h : Keep S w w') {a : Addr} {v : Value} (hc : w.cell? a = some v) (hn : ¬ S a.block) : w'.cell? a = some v :=
  (World.cell?_of_block (h.block a.block (World.block_lt_of_cell? w a hc) hn)).trans hc
theorem Keep.frozen {S : Nat → Prop} {w w' : World} (h : Keep S w w') {a : Addr} {v : Bool} (hc : w.frozen? a = v) (hlt : a.block < w.heap.size) (hn : ¬ S a.block) : w'.frozen? a = v :=
  (World.frozen?_of_block (h.block a.block hlt hn)).trans hc
theorem Keep.heap {S : Nat → Prop} {w w' : World} (h : Keep S w w') {k : Nat} {o : Obj} (hk : w.heap[k]? = some o) (hn : ¬ S k) : w'.heap[k]? = some o := by
  have hlt : k < w.heap.size := by
    rcases Nat.lt_or_ge k w.heap.size with h1 | h1
    · exact h1
    · rw [Array.getElem?_eq_none h1] at hk; cases hk
  exact (h.block k hlt hn).trans hk

theorem ret_int {k : IntKind} {a b : Int} (h : a = b) : Ending.returned (.int k a) = .returned (.int k b) := by rw [h]
theorem ret_bool {a b : Bool} (h : a = b) : Ending.returned (.bool a) = .returned (.bool b) := by rw [h]

/-- int(uint(x) % m) -/
theorem mod_u64 (x m : Int) (h : 1 ≤ m) (h2 : m ≤ 1000000000) : ∃ g : Nat, (g : Int) < m ∧ IntKind.i64.wrap ((IntKind.u64.wrap x).tmod m) = (g : Int) := by
  have h0 := wrap_u64_nonneg x
  rw [Int.tmod_eq_emod_of_nonneg h0]
  have h3 := Int.emod_lt_of_pos (IntKind.u64.wrap x) (b := m) (by omega)
  have h4 := Int.emod_nonneg (IntKind.u64.wrap x) (b := m) (by omega)
  generalize IntKind.u64.wrap x % m = r at h3 h4
  exact ⟨r.toNat, by omega, by rw [IntWalk.i64_in _ (by omega)]; omega⟩

/-- The call tells v, and only draws. -/
def Tells (v : Value) (w : World) (e : Ending) (w' : World) : Prop := e = .returned v ∧ ∃ k, w' = w.drewN k
theorem quiet_same {P : Program} {f : FuncId} {args : Array Value} {w : World} {n : Nat} {v : Value}
    (h : Calls P f args (w.drewN n) fun e w' => e = .returned v ∧ w.drewN n = w') : Calls P f args (w.drewN n) fun e w'' => e = .returned v ∧ ∃ m, w'' = w.drewN m :=
  h.mono fun _ _ ⟨he, hm⟩ => ⟨he, n, hm.symm⟩
theorem quiet_tells {P : Program} {f : FuncId} {args : Array Value} {w : World} {n : Nat} {v : Value}
    (h : Calls P f args (w.drewN n) (Tells v (w.drewN n))) : Calls P f args (w.drewN n) fun e w'' => e = .returned v ∧ ∃ m, w'' = w.drewN m :=
  Calls.quiet_of (h.mono fun _ _ ⟨he, m, hm⟩ => ⟨he, m, hm⟩)

/-- Block g is just the cells cs of element type t, none frozen. -/
def Blk (w : World) (g : Nat) (t : TypeId) (cs : Array Value) : Prop := w.heap[g]? = some (.cells cs t (0, 0))
section
variable {w w' : World} {g : Nat} {t : TypeId} {cs : Array Value}
theorem Blk.lt (h : Blk w g t cs) : g < w.heap.size := by
  rcases Nat.lt_or_ge g w.heap.size with hlt | hge
  · exact hlt
  · unfold Blk at h; rw [Array.getElem?_eq_none hge] at h; cases h
theorem Blk.cell (h : Blk w g t cs) (i : Nat) : w.cell? ⟨g, i, none⟩ = cs[i]? := cell_of_row w g i cs t (0, 0) h
theorem Blk.frozen (h : Blk w g t cs) (i : Nat) : w.frozen? ⟨g, i, none⟩ = false := by
  unfold Blk at h
  simp [World.frozen?, h]
theorem Blk.new (w : World) (t : TypeId) (cs : Array Value) : Blk (w.alloc (.cells cs t)) w.heap.size t cs := heap_alloc_new w _
theorem Blk.new_ {w : World} {B : Nat} (h : w.heap.size = B) (t : TypeId) (cs : Array Value) : Blk (w.alloc (.cells cs t)) B t cs := by subst h; exact Blk.new w t cs
theorem Blk.drew (h : Blk w g t cs) : Blk w.drew g t cs := h
theorem Blk.drewN (h : Blk w g t cs) (n : Nat) : Blk (w.drewN n) g t cs := h
theorem Blk.alloc (h : Blk w g t cs) (o : Obj) : Blk (w.alloc o) g t cs := (Below.heap_alloc w o g h.lt).trans h
theorem Blk.set_ (h : Blk w g t cs) (i : Nat) (u : Value) : Blk (w.setCell ⟨g, i, none⟩ u) g t (cs.setIfInBounds i u) := by
  unfold Blk at h ⊢
  simp [World.setCell, Array.getElem?_modify, h]
theorem Blk.far (h : Blk w g t cs) {p : Addr} (hp : g ≠ p.block) (u : Value) : Blk (w.setCell p u) g t cs := (Below.heap_setCell w p u g hp).trans h
theorem Blk.keep {S : Nat → Prop} (h : Blk w g t cs) (hk : Keep S w w') (hn : ¬ S g) : Blk w' g t cs := hk.heap h hn
theorem Blk.ne_ {g' : Nat} {t' : TypeId} {cs' : Array Value} (h : Blk w g t cs) (h' : Blk w g' t' cs') (hne : t ≠ t') : g ≠ g' := by
  rintro rfl
  unfold Blk at h h'
  rw [h] at h'
  injection h' with h'
  injection h' with _ ht
  exact hne ht
end

/-- The slice '.slice A n c' of one-cell elements of type e in memory that may be written: its cells are xs; 'row': its block (none: it is nil). -/
def Sl (w : World) (e : TypeId) (row : Option Nat) (A : Option Addr) (n c : Nat) (xs : List Value) : Prop :=
  xs.length = n ∧ n ≤ c ∧ c ≤ maxLen ∧
  ((row = none ∧ A = none ∧ c = 0) ∨
   ∃ g off cur, row = some g ∧ A = some ⟨g, off, none⟩ ∧ Blk w g e cur ∧ off + c ≤ cur.size ∧ ∀ j, j < n → cur[off + j]? = xs[j]?)

section
variable {w w' : World} {e : TypeId} {row : Option Nat} {A : Option Addr} {n c : Nat} {xs : List Value}
theorem Sl.nil_ (w : World) (e : TypeId) : Sl w e none none 0 0 [] := ⟨rfl, Nat.le_refl _, by simp [maxLen], .inl ⟨rfl, rfl, rfl⟩⟩
theorem Sl.lt (h : Sl w e row A n c xs) : ∀ g, row = some g → g < w.heap.size := by
  rintro g rfl
  rcases h.2.2.2 with ⟨h1, _⟩ | ⟨g', off, cur, h1, _, hb, _⟩
  · cases h1
  · injection h1 with h1; subst h1; exact hb.lt
theorem Sl.keep {S : Nat → Prop} (h : Sl w e row A n c xs) (hk : Keep S w w') (hn : ∀ g, row = some g → ¬ S g) : Sl w' e row A n c xs :=
  ⟨h.1, h.2.1, h.2.2.1, h.2.2.2.imp id fun ⟨g, off, cur, h1, h2, h3, h4⟩ => ⟨g, off, cur, h1, h2, h3.keep hk (hn g h1), h4⟩⟩
theorem Sl.at_ (h : Sl w e row A n c xs) {k : Nat} (hk : k < n) : ∃ g off v, A = some ⟨g, off, none⟩ ∧ row = some g ∧ xs[k]? = some v ∧ w.cell? ⟨g, off + k, none⟩ = some v := by
  rcases h.2.2.2 with ⟨_, _, h1⟩ | ⟨g, off, cur, h1, h2, hb, hs, hc⟩
  · have := h.2.1; omega
  · have hl : k < xs.length := by rw [h.1]; exact hk
    refine ⟨g, off, xs[k], h2, h1, List.getElem?_eq_getElem hl, ?_⟩
    rw [hb.cell, hc k hk, List.getElem?_eq_getElem hl]
theorem Sl.of_own {base : Nat} {v : Value} (h : w.ownsRow base e 1 v n xs) : ∃ row A c, v = .slice A n c ∧ Sl w e row A n c xs ∧ ∀ g, row = some g → base ≤ g := by
  have hl := h.1
  rcases h.2 with ⟨rfl, hn⟩ | ⟨g, cap, cur, rfl, hb, hh, hnc, hcm, hsz, ht⟩
  · subst hn
    exact ⟨none, none, 0, rfl, ⟨by simpa using hl, Nat.le_refl _, by simp [maxLen], .inl ⟨rfl, rfl, rfl⟩⟩, fun g hg => by cases hg⟩
  · refine ⟨some g, some ⟨g, 0, none⟩, cap, rfl, ⟨by simpa using hl, hnc, hcm, .inr ⟨g, 0, cur, rfl, rfl, hh, by simp at hsz; omega, fun j hj => ?_⟩⟩, fun g' hg => by injection hg with hg; omega⟩
    rw [← ht]
    simp [hj]
/-- one element more -/
theorem run_append_sl {P : Program} (t ty : TypeId) (i : TypeInfo) (z : Value) (bytes : Nat) (ht : P.underlying t = some (.slice e)) (hi : P.info? e = some i) (hz : i.zero = some z)
    (hsize : i.size = 1) (hby : i.bytes = bytes) (hzs : z.cells.size = 1) (h : Sl w e row A n c xs) (a : Addr) (x : Value) (k : Nat) (hx : w.cell? a = some x) (h1 : x.oneCell' = true)
    (h63 : n + 1 ≤ maxLen) (hbytes : (n + 1) * bytes ≤ 140737488355328) :
    ∃ row' A' c' w', (Builtin.append_ #[t, t] ty #[.slice A n c, .slice (some a) 1 k]).run P w = .ok (.slice A' (n + 1) c') w' ∧ Sl w' e row' A' (n + 1) c' (xs ++ [x]) ∧
      Keep (fun g => row = some g) w w' ∧ (row' = row ∨ ∃ g, row' = some g ∧ w.heap.size ≤ g) := by
  have hnews : ∀ j u, [x][j]? = some u → w.cell? (a.add j) = some u := by
    intro j u hu
    match j, hu with
    | 0, hu => simp at hu; subst hu; simpa [Addr.add] using hx
  have h1' : ∀ u ∈ [x], u.oneCell' = true := by intro u hu; simp at hu; subst hu; exact h1
  rcases h.2.2.2 with ⟨h2, h3, h4⟩ | ⟨g, off, cur, h2, h3, hb, hs, hc⟩
  · subst h2 h3 h4
    have hn : n = 0 := by have := h.2.1; omega
    subst hn
    obtain rfl : xs = [] := List.eq_nil_of_length_eq_zero h.1
    obtain ⟨v', w', hrun, r1, r2, _⟩ := run_append_own (P := P) w w.heap.size t ty e i z 1 bytes ht hi hz hsize hby hzs (by decide) (.slice none 0 0) 0 [] (World.ownsRow_nil w _ e 1) a 1 k [x] rfl hnews h1' h63 hbytes (Nat.le_refl _)
    obtain ⟨row', A', c', rfl, hsl, hb⟩ := Sl.of_own r1
    refine ⟨row', A', c', w', hrun, hsl, Keep.grown r2 (by intro k hk; simp [Value.ownBlock] at hk), ?_⟩
    rcases row' with _ | g
    · exact .inl rfl
    · exact .inr ⟨g, rfl, hb g rfl⟩
  · subst h2 h3
    by_cases hr : n + 1 ≤ c
    · have hrun := run_append_room_cells (P := P) w t ty e i ht hi g off n c a 1 k [x] (by simp [hsize]) hnews h1' hr
        (by intro j hj; simp at hj; subst hj; rw [hb.cell, hsize]; simp; omega)
        (by intro j hj; exact hb.frozen _)
      have hset : w.setCells g (off + n * i.size) [x] = w.setCell ⟨g, off + n, none⟩ x := by simp [World.setCells, hsize]
      rw [hset] at hrun
      refine ⟨some g, some ⟨g, off, none⟩, c, _, hrun, ⟨by simp [h.1], hr, h.2.2.1, .inr ⟨g, off, _, rfl, rfl, hb.set_ _ _, by simpa using hs, ?_⟩⟩, (Keep.refl _ w).setCell (by simp) _, .inl rfl⟩
      intro j hj
      by_cases hj' : j = n
      · subst hj'
        rw [Array.getElem?_setIfInBounds_self_of_lt (by omega)]
        simp [h.1]
      · rw [Array.getElem?_setIfInBounds_ne (by omega), hc j (by omega), List.getElem?_append_left (by rw [h.1]; omega)]
    · obtain ⟨v', w', hrun, r1, r2⟩ := run_append_arg_grows (P := P) w t ty e i z 1 bytes ht hi hz hsize hby hzs (by decide) ⟨g, off, none⟩ n c xs (by simp [h.1])
        (fun j u hj => by
          have hlt : j < n := by rw [← h.1]; exact (List.getElem?_eq_some_iff.1 hj).1
          rw [Addr.add_lit, hb.cell, hc j hlt, hj]) a 1 k [x] rfl hnews (by omega) h63 hbytes
      obtain ⟨row', A', c', rfl, hsl, hb'⟩ := Sl.of_own r1
      refine ⟨row', A', c', w', hrun, hsl, Keep.grown r2 (by intro k hk; cases hk), ?_⟩
      rcases row' with _ | g'
      · have := hsl.2.2.2
        rcases this with ⟨_, _, h5⟩ | ⟨g, _, _, h5, _⟩
        · have := hsl.2.1; omega
        · cases h5
      · exact .inr ⟨g', rfl, hb' g' rfl⟩
theorem wp_append_sl {P : Program} {o : Oper} {a : Act} {K : Act → World → Prop} {Q : Exit → Act → World → Prop} (s x : Operand) (t : TypeId)
    (ho : o.op = .call { callee := .builtin .append, args := #[s, x], argTypes := #[t, t] })
    (i : TypeInfo) (z : Value) (bytes : Nat) (ht : P.underlying t = some (.slice e)) (hi : P.info? e = some i) (hz : i.zero = some z)
    (hsize : i.size = 1) (hby : i.bytes = bytes) (hzs : z.cells.size = 1) (h : Sl w e row A n c xs) (hs : a.eval s = .slice A n c) (ad : Addr) (v : Value) (k : Nat) (hx : a.eval x = .slice (some ad) 1 k)
    (hv : w.cell? ad = some v) (h1 : v.oneCell' = true) (h63 : n + 1 ≤ maxLen) (hbytes : (n + 1) * bytes ≤ 140737488355328)
    (hK : ∀ row' A' c' w', Sl w' e row' A' (n + 1) c' (xs ++ [v]) → Keep (fun g => row = some g) w w' → (row' = row ∨ ∃ g, row' = some g ∧ w.heap.size ≤ g) → K (a.put o.dst (.slice A' (n + 1) c')) w') : o.wp P a w K Q := by
  obtain ⟨row', A', c', w', hr, h2, h3, h4⟩ := run_append_sl (P := P) t o.type i z bytes ht hi hz hsize hby hzs h ad v k hv h1 h63 hbytes
  unfold Oper.wp execOp
  simp only [ho, resolve, invoke, builtin, Sem.run_bind, Sem.run_pure, Result.andThen_ok, List.map_toArray, List.map_cons, List.map_nil, hs, hx, hr]
  exact hK row' A' c' w' h2 h3 h4
theorem wpList_append_sl {P : Program} {ops : Array Oper} {rest : List Oper} {o : Oper} {a : Act} {Q : Exit → Act → World → Prop} (hgd : o.guard = none) (s x : Operand) (t : TypeId)
    (ho : o.op = .call { callee := .builtin .append, args := #[s, x], argTypes := #[t, t] })
    (i : TypeInfo) (z : Value) (bytes : Nat) (ht : P.underlying t = some (.slice e)) (hi : P.info? e = some i) (hz : i.zero = some z)
    (hsize : i.size = 1) (hby : i.bytes = bytes) (hzs : z.cells.size = 1) (h : Sl w e row A n c xs) (hs : a.eval s = .slice A n c) (ad : Addr) (v : Value) (k : Nat) (hx : a.eval x = .slice (some ad) 1 k)
    (hv : w.cell? ad = some v) (h1 : v.oneCell' = true) (h63 : n + 1 ≤ maxLen) (hbytes : (n + 1) * bytes ≤ 140737488355328)
    (hK : ∀ row' A' c' w', Sl w' e row' A' (n + 1) c' (xs ++ [v]) → Keep (fun g => row = some g) w w' → (row' = row ∨ ∃ g, row' = some g ∧ w.heap.size ≤ g) → wpList P ops Q rest (a.put o.dst (.slice A' (n + 1) c')) w') : wpList P ops Q (o :: rest) a w :=
  wpList_plain hgd fun _ hK' => wp_append_sl s x t ho i z bytes ht hi hz hsize hby hzs h hs ad v k hx hv h1 h63 hbytes fun r' A' c' w' h2 h3 h4 => hK' _ _ (hK r' A' c' w' h2 h3 h4)
theorem step_append_sl {P : Program} {ops : Array Oper} {o : Oper} {a : Act} {K : Act → World → Prop} {Q : Exit → Act → World → Prop} {E : Prop} (hgd : o.guard = none) (s x : Operand) (t : TypeId)
    (ho : o.op = .call { callee := .builtin .append, args := #[s, x], argTypes := #[t, t] })
    (i : TypeInfo) (z : Value) (bytes : Nat) (ht : P.underlying t = some (.slice e)) (hi : P.info? e = some i) (hz : i.zero = some z)
    (hsize : i.size = 1) (hby : i.bytes = bytes) (hzs : z.cells.size = 1) (h : Sl w e row A n c xs) (hs : a.eval s = .slice A n c) (ad : Addr) (v : Value) (k : Nat) (hx : a.eval x = .slice (some ad) 1 k)
    (hv : w.cell? ad = some v) (h1 : v.oneCell' = true) (h63 : n + 1 ≤ maxLen) (hbytes : (n + 1) * bytes ≤ 140737488355328)
    (hK : ∀ row' A' c' w', Sl w' e row' A' (n + 1) c' (xs ++ [v]) → Keep (fun g => row = some g) w w' → (row' = row ∨ ∃ g, row' = some g ∧ w.heap.size ≤ g) → K (a.put o.dst (.slice A' (n + 1) c')) w') :
    if Region.wanted o (yielded ops a.tmps) = true then Oper.wp P o a w K Q else E := by
  have hw : Region.wanted o (yielded ops a.tmps) = true := by simp [Region.wanted, hgd]
  rw [if_pos hw]
  exact wp_append_sl s x t ho i z bytes ht hi hz hsize hby hzs h hs ad v k hx hv h1 h63 hbytes hK
/-- 's[k:n:n]', k below n -/
theorem Sl.cut3 (h : Sl w e row A n c xs) {k : Nat} (hk : k < n) : ∃ g off, A = some ⟨g, off, none⟩ ∧ Sl w e row (some ⟨g, off + k, none⟩) (n - k) (n - k) (xs.drop k) := by
  rcases h.2.2.2 with ⟨_, _, h1⟩ | ⟨g, off, cur, h1, h2, hb, hs, hc⟩
  · have := h.2.1; omega
  · refine ⟨g, off, h2, by simp [h.1], Nat.le_refl _, by have := h.2.1; have := h.2.2.1; omega, .inr ⟨g, off + k, cur, h1, rfl, hb, by have := h.2.1; omega, fun j hj => ?_⟩⟩
    rw [List.getElem?_drop, Nat.add_assoc]
    exact hc (k + j) (by omega)
end
end Go.Proofs.YtgoldgamjogadaaGreat

namespace Go.Proofs.YtgoldgamjogadaaGreat
open Go.RowKit

section
variable {w w' : World} {g : Nat} {t : TypeId} {cs : Array Value}
theorem Blk.setCells (h : Blk w g t cs) (o : Nat) (vs : List Value) : ∃ cs', Blk (w.setCells g o vs) g t cs' ∧ cs'.size = cs.size ∧ (∀ j, (j < o ∨ o + vs.length ≤ j) → cs'[j]? = cs[j]?) ∧ ∀ j u, vs[j]? = some u → o + j < cs.size → cs'[o + j]? = some u := by
  induction vs generalizing w cs o with
  | nil => exact ⟨cs, h, rfl, fun _ _ => rfl, fun j u hu => by simp at hu⟩
  | cons v vs ih =>
    obtain ⟨cs', h1, h2, h3, h4⟩ := ih (h.set_ o v) (o + 1)
    refine ⟨cs', h1, by simpa using h2, fun j hj => ?_, fun j u hu hlt => ?_⟩
    · rw [h3 j (by simp at hj; omega), Array.getElem?_setIfInBounds_ne (by simp at hj; omega)]
    · cases j with
      | zero =>
        simp at hu; subst hu
        rw [Nat.add_zero] at hlt ⊢
        rw [h3 o (by omega), Array.getElem?_setIfInBounds_self_of_lt hlt]
      | succ j =>
        have := h4 j u (by simpa using hu) (by simp; omega)
        rwa [show o + 1 + j = o + (j + 1) by omega] at this
theorem Keep.setCells {S : Nat → Prop} {w w' : World} (h : Keep S w w') {g : Nat} (hg : g < w.heap.size → S g) (o : Nat) (vs : List Value) : Keep S w (w'.setCells g o vs) := by
  induction vs generalizing w' o with
  | nil => exact h
  | cons v vs ih => exact ih (h.setCell (p := ⟨g, o, none⟩) hg v) (o + 1)
end

/-- n elements of k cells each, in memory that may be written; row: its block (none: it is nil); xs: the cells -/
def SlK (w : World) (e : TypeId) (k : Nat) (row : Option Nat) (A : Option Addr) (n c : Nat) (xs : List Value) : Prop :=
  xs.length = n * k ∧ n ≤ c ∧ c ≤ maxLen ∧
  ((row = none ∧ A = none ∧ c = 0) ∨
   ∃ g off cur, row = some g ∧ A = some ⟨g, off, none⟩ ∧ Blk w g e cur ∧ off + c * k ≤ cur.size ∧ ∀ j, j < n * k → cur[off + j]? = xs[j]?)
/-- .. that can be read -/
def RdK (w : World) (k : Nat) (A : Option Addr) (n : Nat) (xs : List Value) : Prop :=
  xs.length = n * k ∧ ∀ j, j < n * k → ∃ g off v, A = some ⟨g, off, none⟩ ∧ xs[j]? = some v ∧ w.cell? ⟨g, off + j, none⟩ = some v

section
variable {w w' : World} {e : TypeId} {k : Nat} {row : Option Nat} {A : Option Addr} {n c : Nat} {xs : List Value}
theorem SlK.nil_ (w : World) (e : TypeId) (k : Nat) : SlK w e k none none 0 0 [] := ⟨by simp, Nat.le_refl _, by simp [maxLen], .inl ⟨rfl, rfl, rfl⟩⟩
theorem SlK.lt (h : SlK w e k row A n c xs) : ∀ g, row = some g → g < w.heap.size := by
  rintro g rfl
  rcases h.2.2.2 with ⟨h1, _⟩ | ⟨g', off, cur, h1, _, hb, _⟩
  · cases h1
  · injection h1 with h1; subst h1; exact hb.lt
theorem SlK.keep {S : Nat → Prop} (h : SlK w e k row A n c xs) (hk : Keep S w w') (hn : ∀ g, row = some g → ¬ S g) : SlK w' e k row A n c xs :=
  ⟨h.1, h.2.1, h.2.2.1, h.2.2.2.imp id fun ⟨g, off, cur, h1, h2, h3, h4⟩ => ⟨g, off, cur, h1, h2, h3.keep hk (hn g h1), h4⟩⟩
theorem SlK.rd (h : SlK w e k row A n c xs) : RdK w k A n xs :=
  ⟨h.1, fun j hj => by
    rcases h.2.2.2 with ⟨_, _, h1⟩ | ⟨g, off, cur, h1, h2, hb, hs, hc⟩
    · have h2 := h.2.1
      have : n = 0 := by omega
      subst this; simp at hj
    · have hl : j < xs.length := by rw [h.1]; exact hj
      exact ⟨g, off, xs[j], h2, List.getElem?_eq_getElem hl, by rw [hb.cell, hc j hj, List.getElem?_eq_getElem hl]⟩⟩
theorem RdK.keep {S : Nat → Prop} (h : RdK w k A n xs) (hk : Keep S w w') (hn : ∀ g, g < w.heap.size → ¬ S g) : RdK w' k A n xs :=
  ⟨h.1, fun j hj => by
    obtain ⟨g, off, v, h1, h2, h3⟩ := h.2 j hj
    exact ⟨g, off, v, h1, h2, hk.cell h3 (hn g (World.block_lt_of_cell? w _ h3))⟩⟩
theorem RdK.keep0 (h : RdK w k A n xs) (hk : Keep (fun _ => False) w w') : RdK w' k A n xs := h.keep hk (fun _ _ h => h)
theorem RdK.below (h : RdK w k A n xs) (hk : Below w.heap.size w w') : RdK w' k A n xs :=
  ⟨h.1, fun j hj => by
    obtain ⟨g, off, v, h1, h2, h3⟩ := h.2 j hj
    exact ⟨g, off, v, h1, h2, (hk.cell (p := ⟨g, off + j, none⟩) (World.block_lt_of_cell? w _ h3)).trans h3⟩⟩
theorem SlK.of_own {base : Nat} {v : Value} (h : w.ownsRow base e k v n xs) : ∃ row A c, v = .slice A n c ∧ SlK w e k row A n c xs ∧ ∀ g, row = some g → base ≤ g := by
  have hl := h.1
  rcases h.2 with ⟨rfl, hn⟩ | ⟨g, cap, cur, rfl, hb, hh, hnc, hcm, hsz, ht⟩
  · subst hn
    exact ⟨none, none, 0, rfl, ⟨hl, Nat.le_refl _, by simp [maxLen], .inl ⟨rfl, rfl, rfl⟩⟩, fun g hg => by cases hg⟩
  · refine ⟨some g, some ⟨g, 0, none⟩, cap, rfl, ⟨hl, hnc, hcm, .inr ⟨g, 0, cur, rfl, rfl, hh, by omega, fun j hj => ?_⟩⟩, fun g' hg => by injection hg with hg; omega⟩
    rw [← ht]
    simp [hj]
theorem SlK.row_ne {g : Nat} {t : TypeId} {cs : Array Value} (h : SlK w e k row A n c xs) (hb : Blk w g t cs) (hne : t ≠ e) : row ≠ some g := by
  intro hg
  rcases h.2.2.2 with ⟨q1, _⟩ | ⟨g', off, cur, q1, _, hbb, _⟩
  · rw [q1] at hg; cases hg
  · rw [hg] at q1; injection q1 with q1; subst q1
    exact Blk.ne_ hb hbb hne rfl
/-- the slice's end behind an append: in place, or in new memory -/
def Grew (row : Option Nat) (A : Option Addr) (c : Nat) (w : World) (row' : Option Nat) (A' : Option Addr) (c' : Nat) (w' : World) : Prop :=
  (row' = row ∧ A' = A ∧ c' = c ∧ Keep (fun g => row = some g) w w') ∨ (Keep (fun _ => False) w w' ∧ ∃ g, row' = some g ∧ w.heap.size ≤ g)
theorem Grew.keep {row row' : Option Nat} {A A' : Option Addr} {c c' : Nat} {w w' : World} (h : Grew row A c w row' A' c' w') : Keep (fun g => row = some g) w w' := by
  rcases h with ⟨_, _, _, h⟩ | ⟨h, _⟩
  · exact h
  · exact h.mono fun _ _ h => h.elim
theorem Grew.own {row row' : Option Nat} {A A' : Option Addr} {c c' : Nat} {w0 w w' : World} (h : Grew row A c w row' A' c' w') (h0 : w0.heap.size ≤ w.heap.size) (hr : ∀ g, row = some g → w0.heap.size ≤ g) : ∀ g, row' = some g → w0.heap.size ≤ g := by
  intro g hg
  rcases h with ⟨e, _⟩ | ⟨_, g', e, hg'⟩
  · exact hr g (by rw [← e, hg])
  · rw [hg] at e; injection e with e; omega
theorem Grew.keep0 {row row' : Option Nat} {A A' : Option Addr} {c c' : Nat} {w0 w w' : World} (h : Grew row A c w row' A' c' w') (h0 : Keep (fun _ => False) w0 w) (hr : ∀ g, row = some g → w0.heap.size ≤ g) : Keep (fun _ => False) w0 w' :=
  h0.trans (h.keep.mono fun g _ e => .inr (hr g e))

theorem run_append_slK {P : Program} (t ty : TypeId) (i : TypeInfo) (z : Value) (bytes : Nat) (ht : P.underlying t = some (.slice e)) (hi : P.info? e = some i) (hz : i.zero = some z)
    (hsize : i.size = k) (hby : i.bytes = bytes) (hzs : z.cells.size = k) (hk : 0 < k) (h : SlK w e k row A n c xs) {B : Option Addr} {m d : Nat} {ys : List Value} (hy : RdK w k B m ys) (h1 : ∀ u ∈ ys, u.oneCell' = true)
    (h63 : n + m ≤ maxLen) (hbytes : (n + m) * bytes ≤ 140737488355328) :
    ∃ row' A' c' w', (Builtin.append_ #[t, t] ty #[.slice A n c, .slice B m d]).run P w = .ok (.slice A' (n + m) c') w' ∧ SlK w' e k row' A' (n + m) c' (xs ++ ys) ∧ ((m = 0 ∧ row' = row ∧ A' = A ∧ c' = c ∧ w' = w) ∨ Grew row A c w row' A' c' w') := by
  by_cases hm : m = 0
  · subst hm
    have hys : ys = [] := List.eq_nil_of_length_eq_zero (by simpa using hy.1)
    subst hys
    refine ⟨row, A, c, w, ?_, by simpa using h, .inl ⟨rfl, rfl, rfl, rfl, rfl⟩⟩
    have hle := h.2.1
    cases A <;> cases B <;> simp [Builtin.append_, run_underlying ht, sizeOf, typeInfo, hi, Builtin.lenOf, hle, Builtin.firstCells, storeCells, loadCells, loadCellsFrom]
  · obtain ⟨g2, off2, _, hB, _, _⟩ := hy.2 0 (by have := Nat.mul_pos (Nat.pos_of_ne_zero hm) hk; omega)
    subst hB
    have hnews : ∀ j u, ys[j]? = some u → w.cell? ((⟨g2, off2, none⟩ : Addr).add j) = some u := by
      intro j u hu
      have hlt : j < m * k := by rw [← hy.1]; exact (List.getElem?_eq_some_iff.1 hu).1
      obtain ⟨g', off', v, e1, e2, e3⟩ := hy.2 j hlt
      injection e1 with e1; injection e1 with e1 e1'; subst e1 e1'
      rw [Addr.add_lit, e3, ← e2, hu]
    rcases h.2.2.2 with ⟨h2, h3, h4⟩ | ⟨g, off, cur, h2, h3, hb, hs, hc⟩
    · subst h2 h3 h4
      have hn : n = 0 := by have := h.2.1; omega
      subst hn
      obtain rfl : xs = [] := List.eq_nil_of_length_eq_zero (by simpa using h.1)
      obtain ⟨v', w', hrun, r1, r2, _⟩ := run_append_own (P := P) w w.heap.size t ty e i z k bytes ht hi hz hsize hby hzs hk (.slice none 0 0) 0 [] (World.ownsRow_nil w _ e k) ⟨g2, off2, none⟩ m d ys hy.1 hnews h1 h63 hbytes (Nat.le_refl _)
      obtain ⟨row', A', c', rfl, hsl, hb⟩ := SlK.of_own r1
      refine ⟨row', A', c', w', hrun, hsl, .inr (.inr ⟨Keep.grown r2 (by intro k hk; simp [Value.ownBlock] at hk), ?_⟩)⟩
      rcases hsl.2.2.2 with ⟨_, _, h5⟩ | ⟨g, _, _, h5, _⟩
      · have := hsl.2.1; omega
      · exact ⟨g, h5, hb g h5⟩
    · subst h2 h3
      by_cases hr : n + m ≤ c
      · have hnk : (n + m) * k ≤ c * k := Nat.mul_le_mul_right k hr
        rw [Nat.add_mul] at hnk
        have hrun := run_append_room_cells (P := P) w t ty e i ht hi g off n c ⟨g2, off2, none⟩ m d ys (by rw [hy.1, hsize]) hnews h1 hr
          (by intro j hj; rw [hy.1] at hj; rw [hb.cell, hsize]; simp; omega)
          (by intro j hj; exact hb.frozen _)
        rw [hsize] at hrun
        obtain ⟨cs', b1, b2, b3, b4⟩ := hb.setCells (off + n * k) ys
        refine ⟨some g, some ⟨g, off, none⟩, c, _, hrun, ⟨by rw [List.length_append, h.1, hy.1, Nat.add_mul], hr, h.2.2.1, .inr ⟨g, off, cs', rfl, rfl, b1, by omega, ?_⟩⟩, .inr (.inl ⟨rfl, rfl, rfl, (Keep.refl (fun k => some g = some k) w).setCells (fun _ => rfl) _ _⟩)⟩
        intro j hj
        rw [Nat.add_mul] at hj
        by_cases hj' : j < n * k
        · rw [b3 (off + j) (by omega), hc j hj', List.getElem?_append_left (by rw [h.1]; exact hj')]
        · have hlt : j - n * k < ys.length := by rw [hy.1]; omega
          have := b4 (j - n * k) _ (List.getElem?_eq_getElem hlt) (by omega)
          rw [show off + n * k + (j - n * k) = off + j by omega] at this
          rw [this, List.getElem?_append_right (by rw [h.1]; omega), h.1, List.getElem?_eq_getElem hlt]
      · obtain ⟨v', w', hrun, r1, r2⟩ := run_append_arg_grows (P := P) w t ty e i z k bytes ht hi hz hsize hby hzs hk ⟨g, off, none⟩ n c xs h.1
          (fun j u hj => by
            have hlt : j < n * k := by rw [← h.1]; exact (List.getElem?_eq_some_iff.1 hj).1
            rw [Addr.add_lit, hb.cell, hc j hlt, hj]) ⟨g2, off2, none⟩ m d ys hy.1 hnews (by omega) h63 hbytes
        obtain ⟨row', A', c', rfl, hsl, hb'⟩ := SlK.of_own r1
        refine ⟨row', A', c', w', hrun, hsl, .inr (.inr ⟨Keep.grown r2 (by intro k hk; cases hk), ?_⟩)⟩
        rcases hsl.2.2.2 with ⟨_, _, h5⟩ | ⟨g', _, _, h5, _⟩
        · have := hsl.2.1; omega
        · exact ⟨g', h5, hb' g' h5⟩
theorem wp_append_slK {P : Program} {o : Oper} {a : Act} {K : Act → World → Prop} {Q : Exit → Act → World → Prop} (s x : Operand) (t : TypeId)
    (ho : o.op = .call { callee := .builtin .append, args := #[s, x], argTypes := #[t, t] })
    (i : TypeInfo) (z : Value) (bytes : Nat) (ht : P.underlying t = some (.slice e)) (hi : P.info? e = some i) (hz : i.zero = some z)
    (hsize : i.size = k) (hby : i.bytes = bytes) (hzs : z.cells.size = k) (hk : 0 < k) (h : SlK w e k row A n c xs) (hs : a.eval s = .slice A n c) {B : Option Addr} {m d : Nat} {ys : List Value} (hx : a.eval x = .slice B m d) (hy : RdK w k B m ys) (h1 : ∀ u ∈ ys, u.oneCell' = true)
    (h63 : n + m ≤ maxLen) (hbytes : (n + m) * bytes ≤ 140737488355328)
    (hK : ∀ row' A' c' w', SlK w' e k row' A' (n + m) c' (xs ++ ys) → ((m = 0 ∧ row' = row ∧ A' = A ∧ c' = c ∧ w' = w) ∨ Grew row A c w row' A' c' w') → K (a.put o.dst (.slice A' (n + m) c')) w') : o.wp P a w K Q := by
  obtain ⟨row', A', c', w', hr, h2, h3⟩ := run_append_slK (P := P) t o.type i z bytes ht hi hz hsize hby hzs hk h (d := d) hy h1 h63 hbytes
  unfold Oper.wp execOp
  simp only [ho, resolve, invoke, builtin, Sem.run_bind, Sem.run_pure, Result.andThen_ok, List.map_toArray, List.map_cons, List.map_nil, hs, hx, hr]
  exact hK row' A' c' w' h2 h3
theorem wpList_append_slK {P : Program} {ops : Array Oper} {rest : List Oper} {o : Oper} {a : Act} {Q : Exit → Act → World → Prop} (hgd : o.guard = none) (s x : Operand) (t : TypeId)
    (ho : o.op = .call { callee := .builtin .append, args := #[s, x], argTypes := #[t, t] })
    (i : TypeInfo) (z : Value) (bytes : Nat) (ht : P.underlying t = some (.slice e)) (hi : P.info? e = some i) (hz : i.zero = some z)
    (hsize : i.size = k) (hby : i.bytes = bytes) (hzs : z.cells.size = k) (hk : 0 < k) (h : SlK w e k row A n c xs) (hs : a.eval s = .slice A n c) {B : Option Addr} {m d : Nat} {ys : List Value} (hx : a.eval x = .slice B m d) (hy : RdK w k B m ys) (h1 : ∀ u ∈ ys, u.oneCell' = true)
    (h63 : n + m ≤ maxLen) (hbytes : (n + m) * bytes ≤ 140737488355328)
    (hK : ∀ row' A' c' w', SlK w' e k row' A' (n + m) c' (xs ++ ys) → ((m = 0 ∧ row' = row ∧ A' = A ∧ c' = c ∧ w' = w) ∨ Grew row A c w row' A' c' w') → wpList P ops Q rest (a.put o.dst (.slice A' (n + m) c')) w') : wpList P ops Q (o :: rest) a w :=
  wpList_plain hgd fun _ hK' => wp_append_slK s x t ho i z bytes ht hi hz hsize hby hzs hk h hs hx hy h1 h63 hbytes fun r' A' c' w' h2 h3 => hK' _ _ (hK r' A' c' w' h2 h3)
/-- a block that was just laid, as a slice that can be read -/
theorem RdK.of_blk {g : Nat} {t : TypeId} {cs : Array Value} (hb : Blk w g t cs) (n k : Nat) (hs : cs.size = n * k) : RdK w k (some ⟨g, 0, none⟩) n cs.toList :=
  ⟨by simp [hs], fun j hj => ⟨g, 0, cs[j]'(by omega), rfl, by simp [hs, hj], by rw [hb.cell]; simp [hs, hj]⟩⟩
end
end Go.Proofs.YtgoldgamjogadaaGreat

namespace Go.Proofs.YtgoldgamjogadaaGreat
open Go.RowKit

abbrev ID := Int × Int
abbrev cID (p : ID) : List Value := [.int .i64 p.1, .int .i64 p.2]
abbrev idV (p : ID) : Value := .agg #[.int .i64 p.1, .int .i64 p.2]
def mayID (p : ID) : Bool := decide (1 ≤ p.1 ∧ p.1 ≤ 12 ∧ 1 ≤ p.2 ∧ p.2 ≤ 1048576)
theorem Keep.b {w w' : World} (h : Keep (fun _ => False) w w') : Below w.heap.size w w' := h.below (Nat.le_refl _) (fun _ h => h.elim)
theorem keep0_trans (a b c : World) (h : Keep (fun _ => False) a b) (k : Keep (fun _ => False) b c) : Keep (fun _ => False) a c := h.trans (k.mono fun _ _ h => h.elim)
/-- behind a region's draw -/
theorem keepD {a b c : World} (h : Keep (fun _ => False) a b) (k : Keep (fun _ => False) b.drew c) : Keep (fun _ => False) a c := keep0_trans _ _ _ h.drew k
theorem keep0_of_below {w w' : World} (h : Below w.heap.size w w') : Keep (fun _ => False) w w' := ⟨h.os, h.tape, h.output, h.size, fun k hk _ => h.block k hk⟩
/-- a store into new memory -/
theorem Keep.new {S : Nat → Prop} {w w' : World} (h : Keep S w w') {p : Addr} (hp : w.heap.size ≤ p.block) (v : Value) : Keep S w (w'.setCell p v) := h.setCell (fun hlt => absurd hlt (by omega)) v
/-- a call that tells a value, in new memory at most -/
def Tell (v : Value) (w : World) (e : Ending) (w' : World) : Prop := e = .returned v ∧ Keep (fun _ => False) w w'

theorem flat_get {α : Type} (enc : α → List Value) (k : Nat) (hk : ∀ x, (enc x).length = k) : ∀ (l : List α) (i j : Nat) (hi : i < l.length), j < k → (l.flatMap enc)[i * k + j]? = (enc l[i])[j]?
  | x :: l, 0, j, _, hj => by
    rw [List.flatMap_cons, List.getElem?_append_left (by rw [hk]; omega)]; simp
  | x :: l, i + 1, j, hi, hj => by
    rw [List.flatMap_cons, List.getElem?_append_right (by rw [hk, Nat.add_mul]; omega), hk, Nat.add_mul, Nat.one_mul, show i * k + k + j - k = i * k + j by omega]
    rw [flat_get enc k hk l i j (by simpa using hi) hj]; rfl
theorem flat_len {α : Type} (enc : α → List Value) (k : Nat) (hk : ∀ x, (enc x).length = k) (l : List α) : (l.flatMap enc).length = l.length * k := by
  induction l with
  | nil => simp
  | cons x l ih => rw [List.flatMap_cons, List.length_append, hk, ih, List.length_cons, Nat.add_mul]; omega
/-- a list of IDs that can be read -/
def RdI (w : World) (A : Option Addr) (n : Nat) (l : List ID) : Prop := l.length = n ∧ RdK w 2 A n (l.flatMap cID)
theorem RdI.keep0 {w w' : World} {A : Option Addr} {n : Nat} {l : List ID} (h : RdI w A n l) (hk : Keep (fun _ => False) w w') : RdI w' A n l := ⟨h.1, h.2.keep0 hk⟩
theorem RdI.at_ {w : World} {A : Option Addr} {n : Nat} {l : List ID} (h : RdI w A n l) {i : Nat} (hi : i < n) : ∃ g off, A = some ⟨g, off, none⟩ ∧ w.cell? ⟨g, off + i * 2, none⟩ = some (.int .i64 (l.getD i (0, 0)).1) ∧ w.cell? ⟨g, off + i * 2 + 1, none⟩ = some (.int .i64 (l.getD i (0, 0)).2) := by
  have hl : i < l.length := by rw [h.1]; exact hi
  have e : l.getD i (0, 0) = l[i] := by simp [List.getD, hl]
  obtain ⟨g, off, v, h1, h2, h3⟩ := h.2.2 (i * 2) (by omega)
  obtain ⟨g', off', v', h1', h2', h3'⟩ := h.2.2 (i * 2 + 1) (by omega)
  rw [h1] at h1'; injection h1' with h1'; injection h1' with q1 q2; subst q1 q2
  have f0 := flat_get cID 2 (fun _ => rfl) l i 0 hl (by omega)
  have f1 := flat_get cID 2 (fun _ => rfl) l i 1 hl (by omega)
  rw [Nat.add_zero, h2] at f0
  rw [h2'] at f1
  simp at f0 f1
  exact ⟨g, off, h1, by rw [h3, e, f0], by rw [Nat.add_assoc, h3', e, f1]⟩

end Go.Proofs.YtgoldgamjogadaaGreat

namespace Go.Proofs.YtgoldgamjogadaaGreat
open Go.RowKit

theorem gID : Tryz.prog.eqGuardType Tryz.prog.depth 24 = false := by kernel_rfl
theorem eql_ID (p q : ID) (w : World) : (binOp .eql 24 (idV p) (idV q)).run Tryz.prog w = .ok (.bool (decide (p = q))) w := by
  have u3 := Tryz.underlying3
  have a3 := Tryz.isAgg3
  have z3 := Tryz.sizeOf3
  have hS : Tryz.prog.underlying 24 = some (.struct (Tryz.prog.fieldsOf 24)) := by kernel_rfl
  have hp : Tryz.prog.stoodInHeld 24 = false := by kernel_rfl
  obtain ⟨a, i⟩ := p
  obtain ⟨b, j⟩ := q
  rw [run_eql_struct, show (10000 : Nat) = 9999 + 1 from rfl, run_equalIn_agg w 9999 24 _ _ hS hp]
  simp only [Program.fieldsOf, Tryz.underlying24]
  go_simp
  by_cases h1 : a = b <;> by_cases h2 : i = j <;> simp [h1, h2]
theorem neq_ID (p q : ID) (w : World) : (binOp .neq 24 (idV p) (idV q)).run Tryz.prog w = .ok (.bool (!decide (p = q))) w := by
  have u3 := Tryz.underlying3
  have a3 := Tryz.isAgg3
  have z3 := Tryz.sizeOf3
  have hS : Tryz.prog.underlying 24 = some (.struct (Tryz.prog.fieldsOf 24)) := by kernel_rfl
  have hp : Tryz.prog.stoodInHeld 24 = false := by kernel_rfl
  obtain ⟨a, i⟩ := p
  obtain ⟨b, j⟩ := q
  rw [run_neq_struct, show (10000 : Nat) = 9999 + 1 from rfl, run_equalIn_agg w 9999 24 _ _ hS hp]
  simp only [Program.fieldsOf, Tryz.underlying24]
  go_simp
  by_cases h1 : a = b <;> by_cases h2 : i = j <;> simp [h1, h2]
end Go.Proofs.YtgoldgamjogadaaGreat

namespace Go.Proofs.YtgoldgamjogadaaGreat

/-- what is said of an operation's value ahead of the walk: nothing (it is computed), the value, or a fact -/
abbrev KSpec := Option (Sum Value (Value → World → Prop))
def kWaits (o : Oper) (j : Nat) : Bool := o.after.any fun e => Region.binds .any e && e.on == j
def kHas (o : Oper) (W : World) : List (Nat × (World → Prop)) → Prop
  | [] => True
  | p :: F => (if kWaits o p.1 = true then p.2 W else True) ∧ kHas o W F
def kAllHas (W : World) : List (Nat × (World → Prop)) → Prop
  | [] => True
  | p :: F => p.2 W ∧ kAllHas W F
/-- it yields v, and leaves the world as it is -/
def kQuietUpon (W : World) (v : Value) : Result Next → Prop
  | .ok (.value u) w' => w' = W ∧ u = v
  | .ok .skip w' => w' = W ∧ v = undef
  | _ => False
def kQuiet (P : Program) (o : Oper) (a : Act) (W : World) (v : Value) : Prop := kQuietUpon W v ((execOp a.eval o).run P W)
def kStep (P : Program) (ops : Array Oper) (R : World → World → Prop) (o : Oper) (a : Act) (W : World) (T : Value → World → Prop) : Prop :=
  if Region.wanted o (yielded ops a.tmps) then ∀ (K : Act → World → Prop) (Q : Exit → Act → World → Prop), (∀ v W', R W W' → T v W' → K (a.put o.dst v) W') → o.wp P a W K Q else T undef W

def kAll (P : Program) (ops : Array Oper) (R : World → World → Prop) (W0 : World) (Q : Act → World → Prop) : Nat → List Oper → List KSpec → Act → List (Nat × (World → Prop)) → Prop
  | _, [], _, a, F => ∀ W, R W0 W → kAllHas W F → Q a W
  | _, _ :: _, [], _, _ => False
  | k, o :: l, none :: Ts, a, F =>
    if Region.wanted o (yielded ops a.tmps) then ∃ v, (∀ W, R W0 W → kHas o W F → kQuiet P o a W v) ∧ kAll P ops R W0 Q (k + 1) l Ts (a.put o.dst v) F else kAll P ops R W0 Q (k + 1) l Ts (a.put o.dst undef) F
  | k, o :: l, some (.inl c) :: Ts, a, F => (∀ W, R W0 W → kHas o W F → kStep P ops R o a W (fun v _ => v = c)) ∧ kAll P ops R W0 Q (k + 1) l Ts (a.put o.dst c) F
  | k, o :: l, some (.inr T) :: Ts, a, F => (∀ v W W', R W W' → T v W → T v W') ∧ (∀ W, R W0 W → kHas o W F → kStep P ops R o a W T) ∧ ∀ u, kAll P ops R W0 Q (k + 1) l Ts (a.put o.dst u) ((k, T u) :: F)

section
variable {P : Program} {ops : Array Oper} {R : World → World → Prop} {W0 : World} {Q : Act → World → Prop}

/-- the frame a is a0, but that the operations of L have laid the values g -/
structure KSlots (ops : Array Oper) (a0 a : Act) (L : Nat → Prop) (g : Nat → Value) : Prop where
  defers : a.defers = a0.defers
  laid : ∀ j o d, L j → ops[j]? = some o → o.dst = some d → a.tmps[d]? = (a0.tmps[d]?).map (fun _ => g j)
  other : ∀ d, (∀ j o, L j → ops[j]? = some o → o.dst ≠ some d) → a.tmps[d]? = a0.tmps[d]?

theorem KSlots.init (ops : Array Oper) (a0 : Act) (g : Nat → Value) : KSlots ops a0 a0 (fun _ => False) g := ⟨rfl, fun _ _ _ h => h.elim, fun _ _ => rfl⟩
theorem put_get (a : Act) (d : Nat) (v : Value) : (a.put (some d) v).tmps[d]? = (a.tmps[d]?).map (fun _ => v) := by
  show (a.tmps.setIfInBounds d v)[d]? = _
  by_cases h : d < a.tmps.size
  · rw [Array.getElem?_setIfInBounds_self_of_lt h, Array.getElem?_eq_getElem h]; rfl
  · rw [Array.getElem?_eq_none (by simpa using h), Array.getElem?_eq_none (by simpa using h)]; rfl
theorem put_get_ne (a : Act) (dst : Option Tmp) (d : Nat) (v : Value) (h : dst ≠ some d) : (a.put dst v).tmps[d]? = a.tmps[d]? := by
  cases dst with
  | none => rfl
  | some e =>
    have : e ≠ d := fun q => h (by rw [q])
    simp [Act.put, Array.getElem?_setIfInBounds_ne this]
theorem put_defers' (a : Act) (dst : Option Tmp) (v : Value) : (a.put dst v).defers = a.defers := by cases dst <;> rfl
theorem KSlots.congrL {a0 a : Act} {L L' : Nat → Prop} {g g' : Nat → Value} (h : KSlots ops a0 a L g) (hL : ∀ j, j < ops.size → (L' j ↔ L j)) (hg : ∀ j, L j → g' j = g j) : KSlots ops a0 a L' g' where
  defers := h.defers
  laid j o d hl ho hd := by
    have hj : j < ops.size := (Array.getElem?_eq_some_iff.1 ho).1
    rw [h.laid j o d ((hL j hj).1 hl) ho hd, hg j ((hL j hj).1 hl)]
  other d hd := h.other d fun j o hl ho => hd j o ((hL j (Array.getElem?_eq_some_iff.1 ho).1).2 hl) ho
theorem KSlots.put {a0 a : Act} {L : Nat → Prop} {g : Nat → Value} (h : KSlots ops a0 a L g) {i : Nat} {oi : Oper} (hi : ops[i]? = some oi)
    (hnd : ∀ j o d, L j → ops[j]? = some o → o.dst = some d → oi.dst ≠ some d) (hg : ∀ j, L j → j ≠ i) (v : Value) : KSlots ops a0 (a.put oi.dst v) (fun j => j = i ∨ L j) (fun j => if j = i then v else g j) where
  defers := (put_defers' _ _ _).trans h.defers
  laid j o d hl ho hd := by
    rcases hl with rfl | hl
    · obtain rfl := Option.some.inj (hi.symm.trans ho)
      rw [hd, put_get]
      have : ((a.tmps[d]?).map fun _ => v) = (a0.tmps[d]?).map fun _ => v := by
        by_cases hex : ∃ j' o', L j' ∧ ops[j']? = some o' ∧ o'.dst = some d
        · obtain ⟨j', o', h1, h2, h3⟩ := hex
          rw [h.laid j' o' d h1 h2 h3]; cases a0.tmps[d]? <;> rfl
        · rw [h.other d fun j' o' h1 h2 h3 => hex ⟨j', o', h1, h2, h3⟩]
      rw [this]; simp
    · rw [put_get_ne _ _ _ _ (hnd j o d hl ho hd), h.laid j o d hl ho hd, if_neg (hg j hl)]
  other d hd := by
    rw [put_get_ne _ _ _ _ (hd i oi (.inl rfl) hi)]
    exact h.other d fun j o hl ho => hd j o (.inr hl) ho
/-- two frames that hold the same where an operation looks -/
theorem KSlots.same {a0 a a' : Act} {L L' : Nat → Prop} {g g' : Nat → Value} (h : KSlots ops a0 a L g) (h' : KSlots ops a0 a' L' g') {d : Nat}
    (hd : ∀ j o, ops[j]? = some o → o.dst = some d → (L j ↔ L' j) ∧ (L j → g j = g' j)) : a.tmps[d]? = a'.tmps[d]? := by
  by_cases hex : ∃ j o, L j ∧ ops[j]? = some o ∧ o.dst = some d
  · obtain ⟨j, o, h1, h2, h3⟩ := hex
    obtain ⟨h4, h5⟩ := hd j o h2 h3
    rw [h.laid j o d h1 h2 h3, h'.laid j o d (h4.1 h1) h2 h3, h5 h1]
  · rw [h.other d fun j o h1 h2 h3 => hex ⟨j, o, h1, h2, h3⟩, h'.other d fun j o h1 h2 h3 => hex ⟨j, o, (hd j o h2 h3).1.2 h1, h2, h3⟩]
theorem exec_same {a a' : Act} (o : Oper) (hs : ∀ cs b, o.op ≠ .select cs b) (h : ∀ d, d ∈ o.looksAt ops → a.tmps[d]? = a'.tmps[d]?) :
    execOp a.eval o = execOp a'.eval o ∧ Region.wanted o (yielded ops a.tmps) = Region.wanted o (yielded ops a'.tmps) := by
  constructor
  · refine execOp_congr o hs fun x hx => ?_
    cases x with
    | tmp t =>
      have ht : t ∈ o.looksAt ops := List.mem_append_left _ (List.mem_filterMap.2 ⟨.tmp t, by simpa using hx, rfl⟩)
      have := h t ht
      simp [Act.eval, this]
    | _ => rfl
  · unfold Region.wanted
    cases hg : o.guard with
    | none => rfl
    | some gw =>
      obtain ⟨j, want⟩ := gw
      have hy : yielded ops a.tmps j = yielded ops a'.tmps j := by
        unfold yielded
        cases ht : (ops[j]?).bind (·.dst) with
        | none => rfl
        | some t =>
          have := h t (by simp [Oper.looksAt, hg, ht])
          simp [this]
      simp only [hy]

theorem no_letsOut : ¬ LetsOut (fun _ _ _ => False) := fun ⟨_, _, h⟩ => h
/-- what an operation does in one frame it does in another one that holds the same where it looks -/
theorem wp_other {o : Oper} {A a : Act} {W : World} {G : Value → World → Prop} {Q' : Exit → Act → World → Prop} (he : execOp a.eval o = execOp A.eval o) (hz : ∀ d, o.dst = some d → (A.tmps[d]? = none ↔ a.tmps[d]? = none))
    (h : o.wp P A W (fun a' W' => ∃ v, a' = A.put o.dst v ∧ G v W') (fun _ _ _ => False)) : o.wp P a W (fun a' W' => ∃ v, a' = a.put o.dst v ∧ G v W') Q' := by
  have put : ∀ u v, A.put o.dst u = A.put o.dst v → a.put o.dst u = a.put o.dst v := by
    intro u v e
    cases hd : o.dst with
    | none => rfl
    | some d =>
      rw [hd] at e
      have h1 : (A.put (some d) u).tmps[d]? = (A.put (some d) v).tmps[d]? := by rw [e]
      rw [put_get, put_get] at h1
      cases hA : A.tmps[d]? with
      | none =>
        have ha := (hz d hd).1 hA
        have hs : a.tmps.size ≤ d := Array.getElem?_eq_none_iff.1 ha
        show ({ a with tmps := a.tmps.setIfInBounds d u } : Act) = { a with tmps := a.tmps.setIfInBounds d v }
        rw [Array.setIfInBounds_eq_of_size_le hs, Array.setIfInBounds_eq_of_size_le hs]
      | some x =>
        rw [hA] at h1
        simp only [Option.map_some, Option.some.injEq] at h1
        rw [h1]
  unfold Oper.wp at *
  rw [he]
  generalize (execOp A.eval o).run P W = r at *
  cases r with
  | ok n w' =>
    cases n <;> simp only [Oper.upon] at h ⊢
    case value u => obtain ⟨v, e, hv⟩ := h; exact ⟨v, put _ _ e, hv⟩
    case skip => obtain ⟨v, e, hv⟩ := h; exact ⟨v, put _ _ e, hv⟩
    case defer d =>
      obtain ⟨v, e, _⟩ := h
      have := congrArg Act.defers e
      rw [put_defers', put_defers'] at this
      simp at this
    case enter f args =>
      refine Calls.mono h fun e w'' he => ?_
      cases e with
      | returned u => obtain ⟨v, e, hv⟩ := he; exact ⟨v, put _ _ e, hv⟩
      | panicked c => exact he.elim
      | outgrown => exact absurd he no_letsOut
    case row row args => exact Rows.mono h fun u w'' he => by obtain ⟨v, e, hv⟩ := he; exact ⟨v, put _ _ e, hv⟩
  | halt x w' =>
    cases x <;> simp only [Oper.upon] at h

def kActs (ops : Array Oper) (a0 : Act) (vs : Nat → Value) : Nat → Act
  | 0 => a0
  | k + 1 => (kActs ops a0 vs k).put ((ops[k]?).bind (·.dst)) (vs k)
theorem kActs_congr {a0 : Act} {vs vs' : Nat → Value} : ∀ k, (∀ j, j < k → vs j = vs' j) → kActs ops a0 vs k = kActs ops a0 vs' k
  | 0, _ => rfl
  | k + 1, h => by unfold kActs; rw [kActs_congr k (fun j hj => h j (by omega)), h k (by omega)]

/-- the facts of those that it waits for -/
def KDeps (Ts : List KSpec) (u : Nat → Value) (o : Oper) (k : Nat) (W : World) : Prop := ∀ i T, Ts[i]? = some (some (.inr T)) → i < k → kWaits o i = true → T (u i) W
def KObl (P : Program) (ops : Array Oper) (R : World → World → Prop) (W0 : World) (Ts : List KSpec) (a0 : Act) (u vs : Nat → Value) (j : Nat) : Prop := ∀ o s, ops[j]? = some o → Ts[j]? = some s →
  match s with
  | none => if Region.wanted o (yielded ops (kActs ops a0 vs j).tmps) then ∀ W, R W0 W → KDeps Ts u o j W → kQuiet P o (kActs ops a0 vs j) W (vs j) else vs j = undef
  | some (.inl c) => vs j = c ∧ ∀ W, R W0 W → KDeps Ts u o j W → kStep P ops R o (kActs ops a0 vs j) W (fun v _ => v = c)
  | some (.inr T) => vs j = u j ∧ (∀ v W W', R W W' → T v W → T v W') ∧ ∀ W, R W0 W → KDeps Ts u o j W → kStep P ops R o (kActs ops a0 vs j) W T

theorem KObl.congr {Ts : List KSpec} {a0 : Act} {u vs vs' : Nat → Value} {j : Nat} (h : KObl P ops R W0 Ts a0 u vs j) (he : ∀ i, i ≤ j → vs' i = vs i) : KObl P ops R W0 Ts a0 u vs' j := by
  intro o s ho hs
  have := h o s ho hs
  rw [kActs_congr (vs := vs') (vs' := vs) j (fun i hi => he i (by omega)), he j (Nat.le_refl _)]
  exact this

theorem kAll_data {Ts : List KSpec} {a0 : Act} (u : Nat → Value) : ∀ (l : List Oper) (Ts' : List KSpec) (k : Nat) (F : List (Nat × (World → Prop))) (vs0 : Nat → Value), (∀ j, j < l.length → ops[k + j]? = l[j]?) → (∀ j, Ts[k + j]? = Ts'[j]?) →
    (∀ o W, KDeps Ts u o k W → kHas o W F) → (∀ W, (∀ i T, i < k → Ts[i]? = some (some (.inr T)) → T (u i) W) → kAllHas W F) → kAll P ops R W0 Q k l Ts' (kActs ops a0 vs0 k) F →
    ∃ vs, (∀ j, j < k → vs j = vs0 j) ∧ (∀ j, k ≤ j → j < k + l.length → j < Ts.length ∧ KObl P ops R W0 Ts a0 u vs j) ∧ ∀ W, R W0 W → (∀ i T, i < k + l.length → Ts[i]? = some (some (.inr T)) → T (u i) W) → Q (kActs ops a0 vs (k + l.length)) W
  | [], Ts', k, F, vs0, _, _, _, hall, h => ⟨vs0, fun _ _ => rfl, fun j h1 h2 => by simp at h2; omega, fun W hW hf => by unfold kAll at h; exact h W hW (hall W (by simpa using hf))⟩
  | o :: l, [], k, F, vs0, _, _, _, _, h => by unfold kAll at h; exact h.elim
  | o :: l, s :: Ts', k, F, vs0, hl, hT, hdep, hall, h => by
    have ho : ops[k]? = some o := by simpa using hl 0 (by simp)
    have hs : Ts[k]? = some s := by simpa using hT 0
    have hkT : k < Ts.length := (List.getElem?_eq_some_iff.1 hs).1
    have hl' : ∀ j, j < l.length → ops[k + 1 + j]? = l[j]? := fun j hj => by have := hl (j + 1) (by simp; omega); simpa [Nat.add_assoc, Nat.add_comm 1 j] using this
    have hT' : ∀ j, Ts[k + 1 + j]? = Ts'[j]? := fun j => by have := hT (j + 1); simpa [Nat.add_assoc, Nat.add_comm 1 j] using this
    have act : ∀ v, kActs ops a0 (fun j => if j = k then v else vs0 j) (k + 1) = (kActs ops a0 vs0 k).put o.dst v := fun v => by
      show (kActs ops a0 _ k).put _ _ = _
      rw [kActs_congr (vs' := vs0) k (fun j hj => if_neg (by omega)), ho]
      simp
    have depS : (∀ T, s ≠ some (.inr T)) → (∀ o W, KDeps Ts u o (k + 1) W → kHas o W F) ∧ (∀ W, (∀ i T, i < k + 1 → Ts[i]? = some (some (.inr T)) → T (u i) W) → kAllHas W F) := fun _ =>
      ⟨fun o W hd => hdep o W (fun i T h1 h2 h3 => hd i T h1 (by omega) h3), fun W hf => hall W (fun i T h1 h2 => hf i T (by omega) h2)⟩
    have fin : ∀ v, (KObl P ops R W0 Ts a0 u (fun j => if j = k then v else vs0 j) k) → (∃ vs, (∀ j, j < k + 1 → vs j = (fun j => if j = k then v else vs0 j) j) ∧ (∀ j, k + 1 ≤ j → j < k + 1 + l.length → j < Ts.length ∧ KObl P ops R W0 Ts a0 u vs j) ∧ ∀ W, R W0 W → (∀ i T, i < k + 1 + l.length → Ts[i]? = some (some (.inr T)) → T (u i) W) → Q (kActs ops a0 vs (k + 1 + l.length)) W) →
        ∃ vs, (∀ j, j < k → vs j = vs0 j) ∧ (∀ j, k ≤ j → j < k + (o :: l).length → j < Ts.length ∧ KObl P ops R W0 Ts a0 u vs j) ∧ ∀ W, R W0 W → (∀ i T, i < k + (o :: l).length → Ts[i]? = some (some (.inr T)) → T (u i) W) → Q (kActs ops a0 vs (k + (o :: l).length)) W := by
      rintro v hob ⟨vs, h1, h2, h3⟩
      have el : k + (o :: l).length = k + 1 + l.length := by simp; omega
      refine ⟨vs, fun j hj => (h1 j (by omega)).trans (if_neg (by omega)), fun j hj hj2 => ?_, ?_⟩
      · by_cases e : j = k
        · subst e; exact ⟨hkT, hob.congr fun i hi => h1 i (by omega)⟩
        · exact h2 j (by omega) (by omega)
      · rw [el]; exact h3
    have eacts : ∀ v, kActs ops a0 (fun j => if j = k then v else vs0 j) k = kActs ops a0 vs0 k := fun v => kActs_congr k (fun j hj => if_neg (by omega))
    cases s with
    | none =>
      unfold kAll at h
      obtain ⟨d1, d2⟩ := depS (fun T e => by cases e)
      by_cases hw : Region.wanted o (yielded ops (kActs ops a0 vs0 k).tmps) = true
      · rw [if_pos hw] at h
        obtain ⟨v, hq, hr⟩ := h
        rw [← act v] at hr
        refine fin v ?_ (kAll_data u l Ts' (k + 1) F _ hl' hT' d1 d2 hr)
        intro o' s' ho' hs'
        obtain rfl := Option.some.inj (ho.symm.trans ho')
        obtain rfl := Option.some.inj (hs.symm.trans hs')
        simp only [eacts, hw, if_true]
        exact fun W hW hd => hq W hW (hdep o W hd)
      · rw [if_neg hw] at h
        rw [← act undef] at h
        refine fin undef ?_ (kAll_data u l Ts' (k + 1) F _ hl' hT' d1 d2 h)
        intro o' s' ho' hs'
        obtain rfl := Option.some.inj (ho.symm.trans ho')
        obtain rfl := Option.some.inj (hs.symm.trans hs')
        simp only [eacts]
        rw [if_neg hw]; simp
    | some s =>
      cases s with
      | inl c =>
        unfold kAll at h
        obtain ⟨d1, d2⟩ := depS (fun T e => by cases e)
        obtain ⟨hq, hr⟩ := h
        rw [← act c] at hr
        refine fin c ?_ (kAll_data u l Ts' (k + 1) F _ hl' hT' d1 d2 hr)
        intro o' s' ho' hs'
        obtain rfl := Option.some.inj (ho.symm.trans ho')
        obtain rfl := Option.some.inj (hs.symm.trans hs')
        simp only [eacts, if_true]
        exact ⟨trivial, fun W hW hd => hq W hW (hdep o W hd)⟩
      | inr T =>
        unfold kAll at h
        obtain ⟨hm, hq, hr⟩ := h
        have hr := hr (u k)
        rw [← act (u k)] at hr
        refine fin (u k) ?_ (kAll_data u l Ts' (k + 1) _ _ hl' hT' ?_ ?_ hr)
        · intro o' s' ho' hs'
          obtain rfl := Option.some.inj (ho.symm.trans ho')
          obtain rfl := Option.some.inj (hs.symm.trans hs')
          simp only [eacts, if_true]
          exact ⟨trivial, hm, fun W hW hd => hq W hW (hdep o W hd)⟩
        · intro o' W hd
          refine ⟨?_, hdep o' W (fun i T h1 h2 h3 => hd i T h1 (by omega) h3)⟩
          by_cases hk : kWaits o' k = true
          · rw [if_pos hk]; exact hd k T hs (by omega) hk
          · rw [if_neg hk]; trivial
        · intro W hf
          exact ⟨hf k T (by omega) hs, hall W (fun i T h1 h2 => hf i T (by omega) h2)⟩

/-- the check over a region: n operations in whatever order, the rest one behind the other -/
def kripB (ops : Array Oper) (n : Nat) : Bool :=
  Region.noSelect ops && decide (n ≤ ops.size) && ((decide (n = ops.size)) || (Region.sinkB .any ops n && Region.chainB .any ops n)) &&
  (Region.seqB .any ops (ops.size - n) n ((List.replicate n true ++ List.replicate (ops.size - n) false).toArray)) &&
  ((List.range n).all fun i => (List.range n).all fun j => j ≤ i || (match (ops[i]?).bind (·.dst), (ops[j]?).bind (·.dst) with | some d, some e => d != e | _, _ => true)) &&
  ((List.range n).all fun j => match ops[j]? with
    | some oj => (oj.after.all fun e => !Region.binds .any e || decide (e.on < j)) &&
      (List.range n).all fun i => i == j || (match (ops[i]?).bind (·.dst) with | some d => !(oj.looksAt ops).contains d || (if i < j then kWaits oj i else Region.waitsFor .any ops i j) | none => true)
    | none => true)

structure KripB (ops : Array Oper) (n : Nat) : Prop where
  sel : Region.noSelect ops = true
  le : n ≤ ops.size
  tail : n = ops.size ∨ (Region.sinkB .any ops n = true ∧ Region.chainB .any ops n = true)
  seq : Region.seqB .any ops (ops.size - n) n ((List.replicate n true ++ List.replicate (ops.size - n) false).toArray) = true
  dst : ∀ i j oi oj d, i < n → j < n → i ≠ j → ops[i]? = some oi → ops[j]? = some oj → oi.dst = some d → oj.dst ≠ some d
  low : ∀ j oj, j < n → ops[j]? = some oj → ∀ e ∈ oj.after, Region.binds .any e = true → e.on < j
  look : ∀ i j oi oj d, i < n → j < n → i ≠ j → ops[i]? = some oi → ops[j]? = some oj → oi.dst = some d → d ∈ oj.looksAt ops → if i < j then kWaits oj i = true else Region.waitsFor .any ops i j = true
theorem kripB_spec {n : Nat} (h : kripB ops n = true) : KripB ops n := by
  simp only [kripB, Bool.and_eq_true, decide_eq_true_eq, Bool.or_eq_true] at h
  obtain ⟨⟨⟨⟨⟨h1, h2⟩, h3⟩, h4⟩, h5⟩, h6⟩ := h
  have hd : ∀ i j oi oj d, i < n → j < n → i < j → ops[i]? = some oi → ops[j]? = some oj → oi.dst = some d → oj.dst ≠ some d := by
    intro i j oi oj d hi hj hij ho ho' hd hd'
    have := List.all_eq_true.1 (List.all_eq_true.1 h5 i (List.mem_range.2 hi)) j (List.mem_range.2 hj)
    simp only [ho, ho', Option.bind_some, hd, hd', Bool.or_eq_true, decide_eq_true_eq] at this
    rcases this with h | h
    · omega
    · simp at h
  refine ⟨h1, h2, h3, h4, ?_, ?_, ?_⟩
  · intro i j oi oj d hi hj hij ho ho' hd1
    rcases Nat.lt_or_gt_of_ne hij with h | h
    · exact hd i j oi oj d hi hj h ho ho' hd1
    · intro hd2
      exact hd j i oj oi d hj hi h ho' ho hd2 hd1
  · intro j oj hj ho e he hb
    have := List.all_eq_true.1 h6 j (List.mem_range.2 hj)
    simp only [ho, Bool.and_eq_true] at this
    have := Array.all_eq_true_iff_forall_mem.1 this.1 e he
    simpa [hb] using this
  · intro i j oi oj d hi hj hij ho ho' hd1 hlook
    have := List.all_eq_true.1 h6 j (List.mem_range.2 hj)
    simp only [ho', Bool.and_eq_true] at this
    have := List.all_eq_true.1 this.2 i (List.mem_range.2 hi)
    simp only [ho, Option.bind_some, hd1, Bool.or_eq_true, beq_iff_eq, hij, false_or, Bool.not_eq_true', List.contains_eq_mem, decide_eq_false_iff_not, hlook, not_true_eq_false] at this
    by_cases hij' : i < j
    · simpa [hij'] using this
    · simpa [hij'] using this

/-- how a run stands: which operations have come up, what they have laid -/
structure KInv (ops : Array Oper) (R : World → World → Prop) (W0 : World) (n : Nat) (Ts : List KSpec) (a0 : Act) (V : (Nat → Value) → Nat → Value) (listed : Array Bool) (a : Act) (g : Nat → Value) (W : World) : Prop where
  head : HeadInv .any ops n listed
  rel : R W0 W
  facts : ∀ j T, listed.getD j false = true → Ts[j]? = some (some (.inr T)) → T (g j) W
  vals : ∀ u, (∀ j T, listed.getD j false = true → Ts[j]? = some (some (.inr T)) → u j = g j) → ∀ j, listed.getD j false = true → V u j = g j
  slots : KSlots ops a0 a (fun j => listed.getD j false = true) g

theorem kActs_slots {n : Nat} (hB : KripB ops n) (a0 : Act) (vs : Nat → Value) : ∀ k, k ≤ n → KSlots ops a0 (kActs ops a0 vs k) (fun j => j < k) vs
  | 0, _ => (KSlots.init ops a0 vs).congrL (fun j _ => by simp) (fun _ h => h.elim)
  | k + 1, hk => by
    have ih := kActs_slots hB a0 vs k (by omega)
    have hlt : k < ops.size := by have := hB.le; omega
    have ho : ops[k]? = some ops[k] := Array.getElem?_eq_getElem hlt
    have := ih.put ho (fun j o d hj hoj hd => fun hd' => hB.dst j k o _ d (by omega) (by omega) (by omega) hoj ho hd hd') (fun j hj => by omega) (vs k)
    have e : kActs ops a0 vs (k + 1) = (kActs ops a0 vs k).put (ops[k]).dst (vs k) := by
      show Act.put _ ((ops[k]?).bind (·.dst)) _ = _
      rw [ho]; rfl
    rw [e]
    refine this.congrL (fun j _ => by omega) (fun j hj => ?_)
    by_cases h : j = k
    · subst h; simp
    · simp [h]

variable {n : Nat} {Ts : List KSpec} {a0 : Act} {V : (Nat → Value) → Nat → Value}
theorem KInv.exec {listed : Array Bool} {a : Act} {g : Nat → Value} {W : World} (hB : KripB ops n) (h : KInv ops R W0 n Ts a0 V listed a g W) {i : Nat} {o : Oper} (ho : ops[i]? = some o) (hi : i < n) (hr : i ∈ Region.ready .any ops listed)
    {u : Nat → Value} (hu : ∀ j T, listed.getD j false = true → Ts[j]? = some (some (.inr T)) → u j = g j) :
    execOp a.eval o = execOp (kActs ops a0 (V u) i).eval o ∧ Region.wanted o (yielded ops a.tmps) = Region.wanted o (yielded ops (kActs ops a0 (V u) i).tmps) := by
  have hs := kActs_slots hB a0 (V u) i (by omega)
  obtain ⟨hun, o', ho', hall⟩ := mem_ready.1 hr
  obtain rfl := Option.some.inj (ho.symm.trans ho')
  refine exec_same o (fun cs b => Region.noSelect_spec hB.sel i o cs b ho) fun d hd => h.slots.same hs fun j oj hj hdj => ?_
  by_cases hjn : j < n
  · by_cases hji : j = i
    · subst hji
      have := getD_both hun
      simp [this]
    · have := hB.look j i oj o d hjn hi hji hj ho hdj hd
      by_cases hlt : j < i
      · rw [if_pos hlt] at this
        obtain ⟨e, he, hb⟩ := Array.any_eq_true'.1 this
        simp only [Bool.and_eq_true, beq_iff_eq] at hb
        have hl := hall e he hb.1
        rw [hb.2] at hl
        exact ⟨⟨fun _ => hlt, fun _ => hl⟩, fun _ => (h.vals u hu j hl).symm⟩
      · rw [if_neg hlt] at this
        obtain ⟨oj', hoj', e, he, hb, hon⟩ := Region.waitsFor_spec this
        have hnl : ¬ listed.getD j false = true := fun hl => by
          have := h.head.closed j oj' hoj' hl e he hb
          rw [hon, getD_both hun] at this
          cases this
        exact ⟨⟨fun hl => absurd hl hnl, fun hl => absurd hl hlt⟩, fun hl => absurd hl hnl⟩
  · have hjs : j < ops.size := (Array.getElem?_eq_some_iff.1 hj).1
    have hnl : ¬ listed.getD j false = true := fun hl => by
      have := getD_both (h.head.tail j (by omega) hjs)
      rw [this] at hl; cases hl
    exact ⟨⟨fun hl => absurd hl hnl, fun hl => by omega⟩, fun hl => absurd hl hnl⟩

theorem getD_set_iff {listed : Array Bool} {i j : Nat} (hi : i < listed.size) : (listed.setIfInBounds i true).getD j false = true ↔ j = i ∨ listed.getD j false = true := by
  by_cases h : i = j
  · subst h; simp [hi]
  · rw [getD_set_ne false h]
    constructor
    · exact fun h => .inr h
    · rintro (h' | h')
      · exact absurd h'.symm h
      · exact h'

theorem KInv.step {P : Program} {Q' : Exit → Act → World → Prop} {listed : Array Bool} {a : Act} {g : Nat → Value} {W : World} (hB : KripB ops n) (hRefl : ∀ a, R a a) (htr : ∀ a b c, R a b → R b c → R a c)
    (hV : ∀ u j, j < n → j < Ts.length ∧ KObl P ops R W0 Ts a0 u (V u) j)
    (h : KInv ops R W0 n Ts a0 V listed a g W) {i : Nat} (hi : i < n) (hr : i ∈ Region.ready .any ops listed) :
    wpOp P ops Q' i (fun a' W' => ∃ g', KInv ops R W0 n Ts a0 V (listed.setIfInBounds i true) a' g' W') a W := by
  have hr' := hr
  obtain ⟨hun, o, ho, hall⟩ := mem_ready.1 hr'
  have hsz : i < listed.size := by rw [h.head.size]; exact (Array.getElem?_eq_some_iff.1 ho).1
  have hunf := getD_both hun
  have hiT : i < Ts.length := (hV g i hi).1
  obtain ⟨s, hs⟩ : ∃ s, Ts[i]? = some s := ⟨_, List.getElem?_eq_getElem hiT⟩
  have deps : ∀ u, (∀ j T, listed.getD j false = true → Ts[j]? = some (some (.inr T)) → u j = g j) → KDeps Ts u o i W := by
    intro u hu j T hT hj hw
    obtain ⟨e, he, hb⟩ := Array.any_eq_true'.1 hw
    simp only [Bool.and_eq_true, beq_iff_eq] at hb
    have hl := hall e he hb.1
    rw [hb.2] at hl
    rw [hu j T hl hT]
    exact h.facts j T hl hT
  -- what stands behind a value v in a world W'
  have next : ∀ v W', R W W' → (∀ T, Ts[i]? = some (some (.inr T)) → T v W') → (∀ j T, listed.getD j false = true → Ts[j]? = some (some (.inr T)) → T (g j) W') → (∀ u, (∀ j T, listed.getD j false = true → Ts[j]? = some (some (.inr T)) → u j = g j) → (∀ T, Ts[i]? = some (some (.inr T)) → u i = v) → V u i = v) →
      ∃ g', KInv ops R W0 n Ts a0 V (listed.setIfInBounds i true) (a.put o.dst v) g' W' := by
    intro v W' hR hT hF hvu
    refine ⟨fun j => if j = i then v else g j, ⟨h.head.set hr hi, htr _ _ _ h.rel hR, ?_, ?_, ?_⟩⟩
    · intro j T hj hT'
      by_cases e : j = i
      · subst e; simpa using hT T hT'
      · rw [if_neg e]; exact hF j T (((getD_set_iff hsz).1 hj).resolve_left e) hT'
    · intro u hu
      have hu1 : ∀ j T, listed.getD j false = true → Ts[j]? = some (some (.inr T)) → u j = g j := fun j T hl hT' => by
        have e : j ≠ i := fun e => by subst e; rw [hunf] at hl; cases hl
        have := hu j T ((getD_set_iff hsz).2 (.inr hl)) hT'
        rwa [if_neg e] at this
      intro j hj
      by_cases e : j = i
      · subst e
        rw [if_pos rfl]
        exact hvu u hu1 fun T hT' => by have := hu j T ((getD_set_iff hsz).2 (.inl rfl)) hT'; rwa [if_pos rfl] at this
      · rw [if_neg e]; exact h.vals u hu1 j (((getD_set_iff hsz).1 hj).resolve_left e)
    · have := h.slots.put ho (fun j oj d hl hoj hd => by
        have e : j ≠ i := fun e => by subst e; rw [hunf] at hl; cases hl
        have hjn : j < n := by
          rcases Nat.lt_or_ge j n with h' | h'
          · exact h'
          · have := getD_both (h.head.tail j h' (Array.getElem?_eq_some_iff.1 hoj).1)
            rw [this] at hl; cases hl
        exact hB.dst j i oj o d hjn hi e hoj ho hd) (fun j hl e => by subst e; rw [hunf] at hl; cases hl) v
      exact this.congrL (fun j _ => getD_set_iff hsz) (fun _ _ => rfl)
  have ob := (hV g i hi).2 o s ho hs
  obtain ⟨ex, wn⟩ := h.exec hB ho hi hr (u := g) (fun _ _ _ _ => rfl)
  have dg := deps g (fun _ _ _ _ => rfl)
  have slot0 : ∀ (a a' : Act) (L : Nat → Prop) (g : Nat → Value), KSlots ops a a' L g → ∀ d : Nat, a'.tmps[d]? = none ↔ a.tmps[d]? = none := by
    intro a a' L g hk d
    by_cases hex : ∃ j oj, L j ∧ ops[j]? = some oj ∧ oj.dst = some d
    · obtain ⟨j, oj, h1, h2, h3⟩ := hex
      rw [hk.laid j oj d h1 h2 h3]; simp
    · rw [hk.other d fun j oj h1 h2 h3 => hex ⟨j, oj, h1, h2, h3⟩]
  have hz : ∀ d : Nat, o.dst = some d → ((kActs ops a0 (V g) i).tmps[d]? = none ↔ a.tmps[d]? = none) := fun d _ =>
    (slot0 _ _ _ _ (kActs_slots hB a0 (V g) i (by omega)) d).trans (slot0 _ _ _ _ h.slots d).symm
  have viaStep : ∀ (T : Value → World → Prop), kStep P ops R o (kActs ops a0 (V g) i) W T → (∀ v W', R W W' → T v W' → ∃ g', KInv ops R W0 n Ts a0 V (listed.setIfInBounds i true) (a.put o.dst v) g' W') → (∀ v, T v W → Region.wanted o (yielded ops a.tmps) = false → v = undef → ∃ g', KInv ops R W0 n Ts a0 V (listed.setIfInBounds i true) (a.put o.dst v) g' W) →
      wpOp P ops Q' i (fun a' W' => ∃ g', KInv ops R W0 n Ts a0 V (listed.setIfInBounds i true) a' g' W') a W := by
    intro T hst hn hn0
    unfold wpOp
    simp only [ho]
    unfold kStep at hst
    rw [← wn] at hst
    by_cases hw : Region.wanted o (yielded ops a.tmps) = true
    · rw [if_pos hw] at hst ⊢
      refine .inl ?_
      have := hst (fun a' W' => ∃ v, a' = (kActs ops a0 (V g) i).put o.dst v ∧ (R W W' ∧ T v W')) (fun _ _ _ => False) (fun v W' h1 h2 => ⟨v, rfl, h1, h2⟩)
      exact Oper.wp_mono (fun a' W' => by rintro ⟨v, rfl, h1, h2⟩; exact hn v W' h1 h2) (wp_other (Q' := Q') ex hz this)
    · rw [if_neg hw] at hst ⊢
      exact hn0 undef hst (by simpa using hw) rfl
  cases s with
  | none =>
    simp only at ob
    rw [← wn] at ob
    have noT : ∀ {p : (Value → World → Prop) → Prop}, ∀ T, Ts[i]? = some (some (.inr T)) → p T := fun T hT => by rw [hs] at hT; cases hT
    unfold wpOp
    simp only [ho]
    by_cases hw : Region.wanted o (yielded ops a.tmps) = true
    · rw [if_pos hw] at ob ⊢
      refine .inl ?_
      have hq := ob W h.rel dg
      have same : ∀ u, (∀ j T, listed.getD j false = true → Ts[j]? = some (some (.inr T)) → u j = g j) → kQuietUpon W (V u i) ((execOp a.eval o).run P W) := by
        intro u hu
        obtain ⟨ex', wn'⟩ := h.exec hB ho hi hr hu
        have ob' := (hV u i hi).2 o none ho hs
        simp only at ob'
        rw [← wn', if_pos hw] at ob'
        have := ob' W h.rel (deps u hu)
        unfold kQuiet at this
        rwa [← ex'] at this
      unfold kQuiet at hq
      rw [← ex] at hq
      unfold Oper.wp
      generalize (execOp a.eval o).run P W = r at *
      cases r with
      | halt x w' => exact hq.elim
      | ok nx w' =>
        cases nx with
        | value v =>
          simp only [kQuietUpon] at hq same
          simp only [Oper.upon]
          obtain ⟨e1, e2⟩ := hq
          refine next v w' ?_ noT ?_ (fun u hu _ => ((same u hu).2).symm)
          · rw [e1]; exact hRefl W
          · intro j T hl hT; rw [e1]; exact h.facts j T hl hT
        | skip =>
          simp only [kQuietUpon] at hq same
          simp only [Oper.upon]
          obtain ⟨e1, e2⟩ := hq
          refine next undef w' ?_ noT ?_ (fun u hu _ => (same u hu).2)
          · rw [e1]; exact hRefl W
          · intro j T hl hT; rw [e1]; exact h.facts j T hl hT
        | _ => exact hq.elim
    · rw [if_neg hw] at ob ⊢
      refine next undef W (hRefl W) noT (fun j T hl hT => h.facts j T hl hT) (fun u hu _ => ?_)
      obtain ⟨ex', wn'⟩ := h.exec hB ho hi hr hu
      have ob' := (hV u i hi).2 o none ho hs
      simp only at ob'
      rw [← wn', if_neg hw] at ob'
      exact ob'
  | some s =>
    have mono : ∀ j T, Ts[j]? = some (some (.inr T)) → j < n → ∀ v W W', R W W' → T v W → T v W' := by
      intro j T hT hj
      obtain ⟨oj, hoj⟩ : ∃ oj, ops[j]? = some oj := ⟨_, Array.getElem?_eq_getElem (by have := hB.le; omega)⟩
      have := (hV g j hj).2 oj _ hoj hT
      exact this.2.1
    have factsK : ∀ W', R W W' → ∀ j T, listed.getD j false = true → Ts[j]? = some (some (.inr T)) → T (g j) W' := by
      intro W' hR j T hl hT
      have hjn : j < n := by
        rcases Nat.lt_or_ge j n with h' | h'
        · exact h'
        · have hjs : j < ops.size := by
            rcases Nat.lt_or_ge j ops.size with h2 | h2
            · exact h2
            · rw [← h.head.size] at h2
              simp [Array.getElem?_eq_none h2] at hl
          have := getD_both (h.head.tail j h' hjs)
          rw [this] at hl; cases hl
      exact mono j T hT hjn _ _ _ hR (h.facts j T hl hT)
    cases s with
    | inl c =>
      simp only at ob
      have noT : ∀ {p : (Value → World → Prop) → Prop}, ∀ T, Ts[i]? = some (some (.inr T)) → p T := fun T hT => by rw [hs] at hT; cases hT
      have hc : ∀ u, V u i = c := fun u => by have := (hV u i hi).2 o _ ho hs; exact this.1
      refine viaStep _ (ob.2 W h.rel dg) (fun v W' hR hv => ?_) (fun v hv hw hu => ?_)
      · exact next v W' hR noT (factsK W' hR) (fun u _ _ => by rw [hc u, hv])
      · exact next v W (hRefl W) noT (factsK W (hRefl W)) (fun u _ _ => by rw [hc u, hv])
    | inr T =>
      simp only at ob
      have hc : ∀ u, V u i = u i := fun u => by have := (hV u i hi).2 o _ ho hs; exact this.1
      refine viaStep T (ob.2.2 W h.rel dg) (fun v W' hR hv => ?_) (fun v hv hw hu => ?_)
      · exact next v W' hR (fun T' hT' => by rw [hs] at hT'; cases hT'; exact hv) (factsK W' hR) (fun u _ hT => by rw [hc u, hT T hs])
      · exact next v W (hRefl W) (fun T' hT' => by rw [hs] at hT'; cases hT'; exact hv) (factsK W (hRefl W)) (fun u _ hT => by rw [hc u, hT T hs])

/-- those of the first n that have not come up -/
def unl (n : Nat) (listed : Array Bool) : List Nat := (List.range n).filter fun j => !listed.getD j false
theorem unl_set {listed : Array Bool} {i : Nat} (hi : i < n) (hsz : i < listed.size) (hun : listed.getD i false = false) : (unl n (listed.setIfInBounds i true)).length + 1 = (unl n listed).length := by
  have e : unl n (listed.setIfInBounds i true) = (unl n listed).erase i := by
    have hnd : (unl n listed).Nodup := List.Nodup.sublist List.filter_sublist List.nodup_range
    rw [hnd.erase_eq_filter]
    unfold unl
    rw [List.filter_filter]
    refine List.filter_congr fun j _ => ?_
    by_cases h : j = i
    · subst h; simp [hsz]
    · rw [getD_set_ne false (Ne.symm h)]; simp [h]
  have hm : i ∈ unl n listed := List.mem_filter.2 ⟨List.mem_range.2 hi, by simp [hun]⟩
  rw [e, List.length_erase_of_mem hm]
  have := List.length_pos_of_mem hm
  omega

theorem KInv.run {P : Program} {Q' : Exit → Act → World → Prop} (hB : KripB ops n) (hRefl : ∀ a, R a a) (htr : ∀ a b c, R a b → R b c → R a c)
    (hV : ∀ u j, j < n → j < Ts.length ∧ KObl P ops R W0 Ts a0 u (V u) j) (hfin : ∀ u W, R W0 W → (∀ i T, i < n → Ts[i]? = some (some (.inr T)) → T (u i) W) → wpList P ops Q' (ops.toList.drop n) (kActs ops a0 (V u) n) W) :
    ∀ (m : Nat) (listed : Array Bool) (a : Act) (g : Nat → Value) (W : World), KInv ops R W0 n Ts a0 V listed a g W → (unl n listed).length = m → wpAny P .any ops Q' (m + (ops.size - n)) listed a W
  | 0, listed, a, g, W, h, hm => by
    have hall : ∀ j, j < n → listed.getD j false = true := fun j hj => by
      cases hl : listed.getD j false with
      | true => rfl
      | false =>
        have : j ∈ unl n listed := List.mem_filter.2 ⟨List.mem_range.2 hj, by simp only [hl]; rfl⟩
        rw [List.eq_nil_of_length_eq_zero hm] at this
        cases this
    have hnot : ∀ j, n ≤ j → ¬ listed.getD j false = true := fun j hj hl => by
      rcases Nat.lt_or_ge j ops.size with h2 | h2
      · have := getD_both (h.head.tail j hj h2); rw [this] at hl; cases hl
      · rw [← h.head.size] at h2
        simp [Array.getElem?_eq_none h2] at hl
    have el : listed = (List.replicate n true ++ List.replicate (ops.size - n) false).toArray := by
      have hsz := h.head.size
      have hle := hB.le
      apply Array.ext
      · simp; omega
      · intro j h1 h2
        by_cases hj : j < n
        · have := hall j hj
          simp [h1] at this
          simp [this, hj]
        · have := hnot j (by omega)
          simp [h1] at this
          simp [this, List.getElem_append, hj]
    have ea : a = kActs ops a0 (V g) n := by
      have hs := kActs_slots hB a0 (V g) n (Nat.le_refl _)
      have ht : ∀ d : Nat, a.tmps[d]? = (kActs ops a0 (V g) n).tmps[d]? := fun d => h.slots.same hs fun j oj hj hd => by
        by_cases hjn : j < n
        · exact ⟨⟨fun _ => hjn, fun _ => hall j hjn⟩, fun _ => (h.vals g (fun _ _ _ _ => rfl) j (hall j hjn)).symm⟩
        · exact ⟨⟨fun hl => absurd hl (hnot j (by omega)), fun hl => absurd hl hjn⟩, fun hl => absurd hl (hnot j (by omega))⟩
      have hd : a.defers = (kActs ops a0 (V g) n).defers := h.slots.defers.trans hs.defers.symm
      have htm : a.tmps = (kActs ops a0 (V g) n).tmps := Array.ext_getElem? ht
      cases a
      simp only at htm hd
      rw [htm, hd]
    have := hfin g W h.rel (fun i T hi hT => h.facts i T (hall i hi) hT)
    rw [← ea] at this
    have hseq := hB.seq
    rw [← el] at hseq
    have hdl : (ops.toList.drop n).length = ops.size - n := by simp
    have := wpAny_of_seq (md := .any) (Q' := Q') (ops.toList.drop n) n listed a W (fun j => by simp [List.getElem?_drop]) (by rw [hdl]; exact hseq) this
    rw [hdl] at this
    rw [Nat.zero_add]
    exact this
  | m + 1, listed, a, g, W, h, hm => by
    rw [show m + 1 + (ops.size - n) = (m + (ops.size - n)) + 1 by omega]
    have hle := hB.le
    have hne : ∃ i, i ∈ Region.ready .any ops listed ∧ i < n := by
      have hex : ∃ j, j < n ∧ listed.getD j false = false := by
        have : unl n listed ≠ [] := fun e => by rw [e] at hm; cases hm
        obtain ⟨j, hj⟩ := List.exists_mem_of_ne_nil _ this
        obtain ⟨h1, h2⟩ := List.mem_filter.1 hj
        exact ⟨j, List.mem_range.1 h1, by simpa using h2⟩
      have least : ∀ j, j < n → listed.getD j false = false → ∃ i, i ∈ Region.ready .any ops listed ∧ i < n := by
        intro j
        induction j using Nat.strongRecOn with
        | _ j ih =>
          intro hj hl
          have hjs : j < ops.size := by omega
          have ho : ops[j]? = some ops[j] := Array.getElem?_eq_getElem hjs
          by_cases hall : ∀ e ∈ (ops[j]).after, Region.binds .any e = true → listed.getD e.on false = true
          · exact ⟨j, mem_ready.2 ⟨getD_in (by rw [h.head.size]; exact hjs) hl, _, ho, hall⟩, hj⟩
          · have : ∃ e ∈ (ops[j]).after, Region.binds .any e = true ∧ listed.getD e.on false = false := by
              apply Classical.byContradiction
              intro hn
              apply hall
              intro e he hb
              cases hl : listed.getD e.on false with
              | true => rfl
              | false => exact absurd ⟨e, he, hb, hl⟩ hn
            obtain ⟨e, he, hb, hl'⟩ := this
            have hlow := hB.low j _ hj ho e he hb
            exact ih e.on hlow (by omega) hl'
      obtain ⟨j, hj, hl⟩ := hex
      exact least j hj hl
    refine ⟨fun h0 => ?_, fun i hi => ?_⟩
    · obtain ⟨i, hi, _⟩ := hne
      rw [h0] at hi; cases hi
    · have hin : i < n := by
        rcases Nat.lt_or_ge i n with h' | h'
        · exact h'
        · obtain ⟨k, hk, hkn⟩ := hne
          have hkun := (mem_ready.1 hk).1
          have his : i < ops.size := by obtain ⟨_, o, ho, _⟩ := mem_ready.1 hi; exact (Array.getElem?_eq_some_iff.1 ho).1
          rcases hB.tail with ht | ⟨hs, hc⟩
          · omega
          · exact absurd hi (tail_waits hs hc (by omega) h.head _ k rfl hkn hkun i h')
      have hun := (mem_ready.1 hi).1
      have hsz : i < listed.size := by rw [h.head.size]; omega
      refine wpOp_mono (fun a' W' => ?_) (h.step hB hRefl htr hV hin hi)
      rintro ⟨g', hg'⟩
      have := unl_set hin hsz (getD_both hun)
      exact KInv.run hB hRefl htr hV hfin m _ a' g' W' hg' (by omega)

/-- A region that draws its order: the first n operations, each shown once, in whatever later world it comes up; then the rest, one behind the other. -/
theorem wp_region_krip {P : Program} (R : World → World → Prop) (hRefl : ∀ a, R a a) (htr : ∀ a b c, R a b → R b c → R a c) {id : Nat} {Q' : Exit → Act → World → Prop} {a : Act} {w : World} {l : List Oper} (n : Nat) (hm : P.follows .mixedOrders = true)
    (hB : kripB l.toArray n = true) {Ts : List KSpec}
    (h : kAll P l.toArray R w.drew (fun a W => wpList P l.toArray Q' (l.drop n) a W) 0 (l.take n) Ts a []) : (Code.region id l.toArray true).wp P Q' a w := by
  have hB := kripB_spec hB
  have hle := hB.le
  refine wp_region_any hm ?_
  have dat := fun u => kAll_data (Ts := Ts) (a0 := a) u (l.take n) Ts 0 [] (fun _ => undef) (fun j hj => by
    have : j < n := by simp at hj; omega
    simp [this]) (fun j => by simp) (fun _ _ _ => trivial) (fun _ _ => trivial) h
  have hlen : 0 + (l.take n).length = n := by simp at hle ⊢; omega
  rw [hlen] at dat
  let V := fun u => Classical.choose (dat u)
  have hV : ∀ u, _ := fun u => Classical.choose_spec (dat u)
  have inv0 : KInv l.toArray R w.drew n Ts a V (Array.replicate l.toArray.size false) a (fun _ => undef) w.drew := by
    refine ⟨⟨by simp, fun j oj _ hl => (by rw [getD_replicate_false] at hl; cases hl), fun t _ ht => getD_in (by simpa using ht) (getD_replicate_false _ _)⟩, hRefl _, fun j T hl => (by rw [getD_replicate_false] at hl; cases hl), fun u _ j hl => (by rw [getD_replicate_false] at hl; cases hl), ?_⟩
    exact (KSlots.init l.toArray a (fun _ => undef)).congrL (fun j _ => by rw [getD_replicate_false]; simp) (fun _ h => h.elim)
  have hu0 : (unl n (Array.replicate l.toArray.size false)).length = n := by
    unfold unl
    rw [List.filter_eq_self.2 (fun j _ => by rw [getD_replicate_false]; rfl)]
    simp
  have := KInv.run (P := P) (Q' := Q') hB hRefl htr (Ts := Ts) (V := V) (fun u j hj => (hV u).2.1 j (Nat.zero_le _) (by omega)) (fun u W hW hf => by
    exact (hV u).2.2 W hW (fun i T hi hT => hf i T (by omega) hT)) n _ a _ w.drew inv0 hu0
  rw [show n + (l.toArray.size - n) = l.toArray.size by omega] at this
  exact this
end

section
variable {P : Program} {ops : Array Oper} {R : World → World → Prop} {W0 : World} {Q : Act → World → Prop} {k : Nat} {o : Oper} {l : List Oper} {Ts : List KSpec} {a : Act} {F : List (Nat × (World → Prop))}
/-- an operation that only reckons -/
theorem kAll_q (h : ∀ K : Act → Prop, (∀ a', kAll P ops R W0 Q (k + 1) l Ts a' F → K a') → if Region.wanted o (yielded ops a.tmps) then ∃ v, (∀ W, R W0 W → kHas o W F → kQuiet P o a W v) ∧ K (a.put o.dst v) else K (a.put o.dst undef)) :
    kAll P ops R W0 Q k (o :: l) (none :: Ts) a F := by
  unfold kAll; exact h _ (fun _ h => h)
/-- .. in whatever world -/
theorem kAll_p (h : ∀ K : Act → Prop, (∀ a', kAll P ops R W0 Q (k + 1) l Ts a' F → K a') → if Region.wanted o (yielded ops a.tmps) then ∃ v, (∀ W, kQuiet P o a W v) ∧ K (a.put o.dst v) else K (a.put o.dst undef)) :
    kAll P ops R W0 Q k (o :: l) (none :: Ts) a F := by
  refine kAll_q fun K hK => ?_
  have := h K hK
  split
  · rename_i hw
    rw [if_pos hw] at this
    obtain ⟨v, h1, h2⟩ := this
    exact ⟨v, fun W _ _ => h1 W, h2⟩
  · rename_i hw
    rw [if_neg hw] at this
    exact this
/-- an operation whose value is known -/
theorem kAll_d (c : Value) (h : ∀ W, R W0 W → kHas o W F → kStep P ops R o a W (fun v _ => v = c)) (hr : kAll P ops R W0 Q (k + 1) l Ts (a.put o.dst c) F) : kAll P ops R W0 Q k (o :: l) (some (.inl c) :: Ts) a F := by
  unfold kAll; exact ⟨h, hr⟩
/-- an operation of whose value a fact is known, that stands from there on -/
theorem kAll_t (T : Value → World → Prop) (hm : ∀ v W W', R W W' → T v W → T v W') (h : ∀ W, R W0 W → kHas o W F → kStep P ops R o a W T) (hr : ∀ u, kAll P ops R W0 Q (k + 1) l Ts (a.put o.dst u) ((k, T u) :: F)) : kAll P ops R W0 Q k (o :: l) (some (.inr T) :: Ts) a F := by
  unfold kAll; exact ⟨hm, h, hr⟩
theorem kAll_nil (h : ∀ W, R W0 W → kAllHas W F → Q a W) : kAll P ops R W0 Q k [] Ts a F := by
  cases Ts <;> (unfold kAll; exact h)
theorem kStep_of {T : Value → World → Prop} {W : World} (h : ∀ (K : Act → World → Prop) (Q : Exit → Act → World → Prop), (∀ v W', R W W' → T v W' → K (a.put o.dst v) W') → if Region.wanted o (yielded ops a.tmps) then o.wp P a W K Q else T undef W) : kStep P ops R o a W T := by
  unfold kStep
  split
  · rename_i hw; intro K Q hK; have := h K Q hK; rwa [if_pos hw] at this
  · rename_i hw; have := h (fun _ _ => True) (fun _ _ _ => True) (fun _ _ _ _ => trivial); rwa [if_neg hw] at this
theorem kHas_at {W : World} : ∀ {F : List (Nat × (World → Prop))} (_ : kHas o W F) (i : Nat) {j : Nat} {p : World → Prop}, F[i]? = some (j, p) → kWaits o j = true → p W
  | [], _, _, _, _, h, _ => by simp at h
  | q :: F, hF, 0, j, p, h, hw => by
    simp only [List.getElem?_cons_zero, Option.some.injEq] at h
    subst h
    have := hF.1
    rwa [if_pos hw] at this
  | q :: F, hF, i + 1, j, p, h, hw => kHas_at hF.2 i (by simpa using h) hw
theorem kAllHas_at {W : World} : ∀ {F : List (Nat × (World → Prop))} (_ : kAllHas W F) (i : Nat) {j : Nat} {p : World → Prop}, F[i]? = some (j, p) → p W
  | [], _, _, _, _, h => by simp at h
  | q :: F, hF, 0, j, p, h => by
    simp only [List.getElem?_cons_zero, Option.some.injEq] at h
    subst h
    exact hF.1
  | q :: F, hF, i + 1, j, p, h => kAllHas_at hF.2 i (by simpa using h)
end
end Go.Proofs.YtgoldgamjogadaaGreat

namespace Go.Proofs.YtgoldgamjogadaaGreat
open Go.RowKit
attribute [local go_sem] kQuiet kQuietUpon

def cmpI (a b : Int) : Int := if a < b then -1 else if b < a then 1 else 0
def cmpID (p q : ID) : Int := if cmpI p.1 q.1 = 0 then cmpI p.2 q.2 else cmpI p.1 q.1
def ltID (p q : ID) : Bool := decide (p.1 < q.1 ∨ (p.1 = q.1 ∧ p.2 < q.2))
theorem cmpID_lt (p q : ID) : decide (cmpID p q < 0) = ltID p q := by
  unfold cmpID ltID cmpI
  rw [Bool.eq_iff_iff]
  simp only [decide_eq_true_eq]
  repeat' split
  all_goals omega
theorem cmpI_bd (a b : Int) : -1 ≤ cmpI a b ∧ cmpI a b ≤ 1 := by unfold cmpI; repeat' split; all_goals omega
theorem isNaN_any (a : Int) (w : World) : Calls Tryz.prog 107 #[.int .i64 a] w fun e w' => e = .returned (.bool false) ∧ w' = w := by
  have h : (a != a) = false := by simp
  go_enter Tryz.func107, Tryz.ntmps107
  go_wp2
  go_ret
  exact ⟨rfl, rfl⟩
set_option maxHeartbeats 400000 in
theorem cmp_any (a b : Int) (w : World) : Calls Tryz.prog 100 #[.int .i64 a, .int .i64 b] w fun e w' => e = .returned (.int .i64 (cmpI a b)) ∧ w' = w := by
  go_enter Tryz.func100, Tryz.ntmps100
  go_wp2_with fail
  refine (isNaN_any _ _).mono ?_
  rintro e wx ⟨rfl, hw⟩
  rw [hw]; clear hw wx
  go_wp2_with fail
  refine (isNaN_any _ _).mono ?_
  rintro e wx ⟨rfl, hw⟩
  rw [hw]; clear hw wx
  go_wp2
  all_goals
    go_ret
    refine ⟨ret_int ?_, rfl⟩
    unfold cmpI
    repeat' split
    all_goals omega
set_option maxHeartbeats 400000 in
theorem or_any (g off : Nat) (x y : Int) (w : World) (c0 : w.cell? ⟨g, off, none⟩ = some (.int .i64 x)) (c1 : w.cell? ⟨g, off + 1, none⟩ = some (.int .i64 y)) :
    Calls Tryz.prog 99 #[.slice (some ⟨g, off, none⟩) 2 2] w fun e w' => e = .returned (.int .i64 (if x = 0 then y else x)) ∧ w' = w := by
  by_cases hx : x = 0
  · subst hx
    rw [if_pos rfl]
    go_enter Tryz.func99, Tryz.ntmps99
    go_wp2
    go_loop [8] (fun i => ∃ k : Nat, k ≤ 2 ∧ i = .int .i64 (k : Int) ∧ (1 < k → y = 0)) (fun i => 2 - (intOf i).toNat)
    case atStart => exact ⟨0, by omega, rfl, by omega⟩
    case round =>
      obtain ⟨k, hk, rfl, hy⟩ := hrel
      have HY := Lib.hid hy
      clear hy
      rcases (by omega : k = 0 ∨ k = 1 ∨ k = 2) with rfl | rfl | rfl
      · go_wp2
        go_round
        case rel => exact ⟨1, by omega, by go_num, by omega⟩
        case measure => simp [intOf]
      · by_cases h0 : y = 0
        · subst h0
          go_wp2
          go_round
          case rel => exact ⟨2, by omega, by go_num, by simp⟩
          case measure => simp [intOf]
        · have h1 : (y != 0) = true := by simpa using h0
          have h2 : (y == 0) = false := by simpa using h0
          clear h0
          go_wp2
          go_ret
          exact ⟨rfl, rfl⟩
      · obtain rfl := HY.out (by omega)
        go_wp2
        go_ret
        exact ⟨rfl, rfl⟩
  · rw [if_neg hx]
    have h1 : (x != 0) = true := by simpa using hx
    have h2 : (x == 0) = false := by simpa using hx
    clear hx
    go_enter Tryz.func99, Tryz.ntmps99
    go_wp2
    refine wp_loop_rounds 1 ?_
    rw [rounds_succ]
    go_wp2
    go_ret
    exact ⟨rfl, rfl⟩

set_option maxRecDepth 100000 in
set_option maxHeartbeats 1000000 in
theorem cmpID_any (p q : ID) (w : World) : Calls Tryz.prog 84 #[idV p, idV q] w (Tell (.int .i64 (cmpID p q)) w) := by
  obtain ⟨a, i⟩ := p
  obtain ⟨b, j⟩ := q
  have b0 := (Blk.new w 24 #[.int .i64 a, .int .i64 i]).alloc (.cells #[.int .i64 b, .int .i64 j] 24)
  have b1 := Blk.new_ (w := w.alloc (.cells #[.int .i64 a, .int .i64 i] 24)) (B := w.heap.size + 1) (by simp) 24 #[.int .i64 b, .int .i64 j]
  have B0 := Lib.hid b0
  have B1 := Lib.hid b1
  have hk0 := ((Keep.refl (fun _ => False) w).alloc (.cells #[.int .i64 a, .int .i64 i] 24)).alloc (.cells #[.int .i64 b, .int .i64 j] 24)
  have HK0 := Lib.hid hk0
  clear b0 b1 hk0
  go_enter Tryz.func84, Tryz.ntmps84
  go_wp2
  refine wp_region_krip (Keep (fun _ => False)) (Keep.refl _) keep0_trans 13 (by kernel_rfl) (by kernel_rfl) (Ts := [none, some (.inl (.int .i64 a)), none, some (.inl (.int .i64 b)), some (.inl (.int .i64 (cmpI a b))), none, some (.inl (.int .i64 i)), none, some (.inl (.int .i64 j)), some (.inl (.int .i64 (cmpI i j))), some (.inr (fun v W => ∃ g, v = .slice (some ⟨g, 0, none⟩) 2 2 ∧ W.cell? ⟨g, 0, none⟩ = some (.int .i64 (cmpI a b)) ∧ W.cell? ⟨g, 0 + 1, none⟩ = some (.int .i64 (cmpI i j)))), some (.inl (.int .i64 (cmpID (a, i) (b, j)))), none]) ?_
  simp only [List.take, List.drop]
  refine kAll_p (fun K hK => ?_)
  go_simp
  refine hK _ ?_
  clear hK K
  refine kAll_d _ (fun W hW hF => kStep_of fun K Q hK => ?_) ?_
  · have hcell := (B0.out.drew.keep hW (fun h => h)).cell 0
    go_simp
    exact hK _ _ (Keep.refl _ _) rfl
  refine kAll_p (fun K hK => ?_)
  go_simp
  refine hK _ ?_
  clear hK K
  refine kAll_d _ (fun W hW hF => kStep_of fun K Q hK => ?_) ?_
  · have hcell := (B1.out.drew.keep hW (fun h => h)).cell 0
    go_simp
    exact hK _ _ (Keep.refl _ _) rfl
  refine kAll_d _ (fun W hW hF => kStep_of fun K Q hK => ?_) ?_
  · go_simp
    refine (cmp_any a b W).mono ?_
    rintro e w' ⟨rfl, rfl⟩
    exact hK _ _ (Keep.refl _ _) rfl
  refine kAll_p (fun K hK => ?_)
  go_simp
  refine hK _ ?_
  clear hK K
  refine kAll_d _ (fun W hW hF => kStep_of fun K Q hK => ?_) ?_
  · have hcell := (B0.out.drew.keep hW (fun h => h)).cell 1
    go_simp
    exact hK _ _ (Keep.refl _ _) rfl
  refine kAll_p (fun K hK => ?_)
  go_simp
  refine hK _ ?_
  clear hK K
  refine kAll_d _ (fun W hW hF => kStep_of fun K Q hK => ?_) ?_
  · have hcell := (B1.out.drew.keep hW (fun h => h)).cell 1
    go_simp
    exact hK _ _ (Keep.refl _ _) rfl
  refine kAll_d _ (fun W hW hF => kStep_of fun K Q hK => ?_) ?_
  · go_simp
    refine (cmp_any i j W).mono ?_
    rintro e w' ⟨rfl, rfl⟩
    exact hK _ _ (Keep.refl _ _) rfl
  refine kAll_t _ (fun v W W' hk ⟨g, h1, h2, h3⟩ => ⟨g, h1, hk.cell h2 (fun h => h), hk.cell h3 (fun h => h)⟩) (fun W hW hF => kStep_of fun K Q hK => ?_) (fun _ => ?_)
  · go_simp
    exact hK _ _ ((Keep.refl _ _).alloc _) ⟨W.heap.size, rfl, (Blk.new W _ _).cell 0, (Blk.new W _ _).cell 1⟩
  refine kAll_d _ (fun W hW hF => kStep_of fun K Q hK => ?_) ?_
  · go_simp
    obtain ⟨g, rfl, h1, h2⟩ := kHas_at hF 0 rfl (by kernel_rfl)
    refine (or_any g 0 _ _ W h1 h2).mono ?_
    rintro e w' ⟨rfl, rfl⟩
    exact hK _ _ (Keep.refl _ _) rfl
  refine kAll_p (fun K hK => ?_)
  go_simp
  refine hK _ ?_
  clear hK K
  refine kAll_nil (fun W hW hF => ?_)
  clear hF
  go_wp2
  go_ret
  exact ⟨rfl, keepD HK0.out hW⟩
set_option maxHeartbeats 400000 in
theorem ltID_any (p q : ID) (w : World) : Calls Tryz.prog 59 #[idV p, idV q] w (Tell (.bool (ltID p q)) w) := by
  have H := Lib.hid (cmpID_lt p q)
  obtain ⟨a, i⟩ := p
  obtain ⟨b, j⟩ := q
  go_enter Tryz.func59, Tryz.ntmps59
  go_wp2_with fail
  refine (cmpID_any (a, i) (b, j) _).mono ?_
  rintro e w1 ⟨rfl, hk⟩
  have HK := Lib.hid hk
  clear hk
  go_wp2
  go_ret
  exact ⟨ret_bool H.out, keep0_trans _ _ _ (((Keep.refl _ w).alloc _).alloc _) HK.out⟩
end Go.Proofs.YtgoldgamjogadaaGreat

namespace Go.Proofs.YtgoldgamjogadaaGreat
open Go.RowKit

/-- of the first m elements each that is not as the one ahead of it -/
def dk (l : List ID) : Nat → List ID
  | 0 => []
  | m + 1 => if 1 ≤ m ∧ l.getD m (0, 0) = l.getD (m - 1) (0, 0) then dk l m else dk l m ++ [l.getD m (0, 0)]
theorem dk_len (l : List ID) : ∀ m, (dk l m).length ≤ m
  | 0 => by simp [dk]
  | m + 1 => by
    have := dk_len l m
    unfold dk
    split
    · omega
    · simp; omega
theorem dk_one (l : List ID) : dk l 1 = [l.getD 0 (0, 0)] := by simp [dk]
theorem dk_same {l : List ID} {m : Nat} (h : 1 ≤ m) (he : l.getD m (0, 0) = l.getD (m - 1) (0, 0)) : dk l (m + 1) = dk l m := by
  rw [dk, if_pos ⟨h, he⟩]
theorem dk_next {l : List ID} {m : Nat} (he : l.getD m (0, 0) ≠ l.getD (m - 1) (0, 0)) : dk l (m + 1) = dk l m ++ [l.getD m (0, 0)] := by
  rw [dk, if_neg (fun h => he h.2)]

/-- the cells of a block from off on hold these elements -/
def Lies (cs : Array Value) (off : Nat) (f : Nat → ID) (lo hi : Nat) : Prop :=
  ∀ i, lo ≤ i → i < hi → cs[off + i * 2]? = some (.int .i64 (f i).1) ∧ cs[off + i * 2 + 1]? = some (.int .i64 (f i).2)
theorem Lies.mono {cs : Array Value} {off : Nat} {f : Nat → ID} {lo hi lo' hi' : Nat} (h : Lies cs off f lo hi) (h1 : lo ≤ lo') (h2 : hi' ≤ hi) : Lies cs off f lo' hi' :=
  fun i hi1 hi2 => h i (by omega) (by omega)
theorem Lies.far {cs : Array Value} {off : Nat} {f : Nat → ID} {lo hi k : Nat} (h : Lies cs off f lo hi) (hk : k < lo ∨ hi ≤ k) (u v : Value) :
    Lies ((cs.setIfInBounds (off + k * 2) u).setIfInBounds (off + k * 2 + 1) v) off f lo hi := fun i h1 h2 => by
  have := h i h1 h2
  rw [Array.getElem?_setIfInBounds_ne (by omega), Array.getElem?_setIfInBounds_ne (by omega), Array.getElem?_setIfInBounds_ne (by omega), Array.getElem?_setIfInBounds_ne (by omega)]
  exact this
theorem Lies.put {cs : Array Value} {off : Nat} {f g : Nat → ID} {k : Nat} (h : Lies cs off f 0 k) (hs : off + k * 2 + 1 < cs.size) (hg : ∀ i, i < k → g i = f i) :
    Lies ((cs.setIfInBounds (off + k * 2) (.int .i64 (g k).1)).setIfInBounds (off + k * 2 + 1) (.int .i64 (g k).2)) off g 0 (k + 1) := fun i h1 h2 => by
  by_cases e : i = k
  · subst e
    constructor
    · rw [Array.getElem?_setIfInBounds_ne (by omega), Array.getElem?_setIfInBounds_self_of_lt (by omega)]
    · rw [Array.getElem?_setIfInBounds_self_of_lt (by simp; omega)]
  · have := h.far (k := k) (.inr (Nat.le_refl _)) (.int .i64 (g k).1) (.int .i64 (g k).2) i h1 (by omega)
    rw [hg i (by omega)]
    exact this
theorem Lies.ext {cs : Array Value} {off : Nat} {f g : Nat → ID} {lo hi : Nat} (h : Lies cs off f lo hi) (hg : ∀ i, lo ≤ i → i < hi → g i = f i) : Lies cs off g lo hi := fun i h1 h2 => by
  rw [hg i h1 h2]; exact h i h1 h2
theorem SlK.lies {w : World} {t : TypeId} {row : Option Nat} {A : Option Addr} {n c : Nat} {l : List ID} (h : SlK w t 2 row A n c (l.flatMap cID)) (h0 : 0 < n) :
    l.length = n ∧ ∃ g off cs, row = some g ∧ A = some ⟨g, off, none⟩ ∧ Blk w g t cs ∧ off + c * 2 ≤ cs.size ∧ Lies cs off (fun i => l.getD i (0, 0)) 0 n := by
  have hl : l.length = n := by have := h.1; rw [flat_len cID 2 (fun _ => rfl)] at this; omega
  have hnc := h.2.1
  rcases h.2.2.2 with ⟨_, _, h1⟩ | ⟨g, off, cs, h1, h2, h3, h4, h5⟩
  · omega
  · refine ⟨hl, g, off, cs, h1, h2, h3, h4, fun i _ hi => ?_⟩
    have hi' : i < l.length := by omega
    have e : l.getD i (0, 0) = l[i] := by simp [List.getD, hi']
    have f0 := flat_get cID 2 (fun _ => rfl) l i 0 hi' (by omega)
    have f1 := flat_get cID 2 (fun _ => rfl) l i 1 hi' (by omega)
    simp only [e]
    constructor
    · rw [h5 _ (by omega)]; simpa using f0
    · rw [Nat.add_assoc, h5 _ (by omega)]; simpa using f1
theorem SlK.of_lies {w : World} {t : TypeId} {g off n c : Nat} {cs : Array Value} {l : List ID} (hl : l.length = n) (hn : n ≤ c) (hc : c ≤ maxLen) (hb : Blk w g t cs) (hs : off + c * 2 ≤ cs.size) (h : Lies cs off (fun i => l.getD i (0, 0)) 0 n) :
    SlK w t 2 (some g) (some ⟨g, off, none⟩) n c (l.flatMap cID) := by
  refine ⟨by rw [flat_len cID 2 (fun _ => rfl), hl], hn, hc, .inr ⟨g, off, cs, rfl, rfl, hb, hs, fun j hj => ?_⟩⟩
  have hi : j / 2 < l.length := by omega
  have := h (j / 2) (by omega) (by omega)
  have e : l.getD (j / 2) (0, 0) = l[j / 2] := by simp [List.getD, hi]
  simp only [e] at this
  have hf := flat_get cID 2 (fun _ => rfl) l (j / 2) (j % 2) hi (by omega)
  rw [show j / 2 * 2 + j % 2 = j by omega] at hf
  rw [hf]
  rcases (by omega : j % 2 = 0 ∨ j % 2 = 1) with h0 | h0
  · rw [h0, show off + j = off + j / 2 * 2 by omega, this.1]; rfl
  · rw [h0, show off + j = off + j / 2 * 2 + 1 by omega, this.2]; rfl

theorem run_clear_ID (w : World) (t e ty : TypeId) (z : Value) {P : Program} (ht : P.underlying t = some (.slice e)) (hv : ∀ w, (zeroValue e).run P w = .ok z w) (h1 : ∀ v ∈ z.cells, v.oneCell' = true) (hz : 0 < z.cells.size) {g : Nat} {e' : TypeId} {cs : Array Value} (hb : Blk w g e' cs) (o n c : Nat) (hn : 0 < n) (hs : o + n * z.cells.size ≤ cs.size) :
    (Builtin.clear_ #[t] ty #[.slice (some ⟨g, o, none⟩) n c]).run P w = .ok (.tuple #[]) (w.setCells g o (Builtin.zeroCells z.cells n).toList) := by
  have hlen : (Builtin.zeroCells z.cells n).toList.length = n * z.cells.size := by simp [Builtin.zeroCells]
  have hst := run_storeCells_cells (P := P) g o (Builtin.zeroCells z.cells n).toList 0 w
    (fun j hj => by rw [hlen] at hj; rw [Nat.add_zero, hb.cell]; simp; omega) (fun j _ => by rw [hb.frozen])
    (fun v hv' => by
      simp only [Builtin.zeroCells, Array.toList_map, List.mem_map] at hv'
      obtain ⟨i, _, rfl⟩ := hv'
      refine h1 _ ?_
      have : i % z.cells.size < z.cells.size := Nat.mod_lt _ hz
      rw [getElem!_pos z.cells _ this]
      exact Array.getElem_mem this)
  simp only [Nat.add_zero] at hst
  obtain ⟨m, rfl⟩ : ∃ m, n = m + 1 := ⟨n - 1, by omega⟩
  simp [Builtin.clear_, run_underlying ht, hv, hst]
end Go.Proofs.YtgoldgamjogadaaGreat
