/-
  A whole row stored, or loaded, at one stroke: inside a round of a range over a function ('wpListIn_*'), and what the store keeps.
-/
import Derived.Test.YtjgkalcldekmpaaGreatDoorLib
import Derived.Test.YtjgkalcldekmpaaGreatDoorKripIn
import Derived.Laws.Tables
import Derived.Laws.Rows
namespace Go.Proofs.YtjgkalcldekmpaaGreatDoor
open Go.RowKit Go

theorem wpListIn_store_row {P : Program} {l n : Nat} {ops : Array Oper} {rest : List Oper} {o : Oper} {a : Act} {w : World} {Q : Exit → Act → World → Prop} (hgd : o.guard = none) (ty : TypeId) (x y : Operand) (ho : o.op = .store ty x y)
    (g : Nat) (cells : Array Value) (hx : a.eval x = .pointer (some ⟨g, 0, none⟩)) (hy : a.eval y = .agg cells)
    (t : TypeId) (old : Array Value) (hg : w.heap[g]? = some (.cells old t (0, 0))) (hi : (P.info? ty).map (·.size) = some cells.size)
    (hold : old.size = cells.size) (h1 : cells.all (·.oneCell') = true)
    (h : wpListIn (Fence.wide.inRound l) n P ops Q rest (a.put o.dst undef) (w.setRow g cells)) : wpListIn (Fence.wide.inRound l) n P ops Q (o :: rest) a w := by
  unfold wpListIn
  rw [if_pos (by simp only [Region.wanted, hgd])]
  exact oper_in l n (fun c e => by rw [ho] at e; cases e) (fun _ _ h => h) (wp_store_row ty x y ho g cells hx hy t old hg hi hold h1 h)
theorem wpListIn_load_row {P : Program} {l n : Nat} {ops : Array Oper} {rest : List Oper} {o : Oper} {a : Act} {w : World} {Q : Exit → Act → World → Prop} (hgd : o.guard = none) (ty : TypeId) (x : Operand) (ho : o.op = .load ty x)
    (g : Nat) (hx : a.eval x = .pointer (some ⟨g, 0, none⟩)) (t : TypeId) (cs : Array Value) (fr : Nat × Nat) (d : TypeDesc) (hg : w.heap[g]? = some (.cells cs t fr))
    (hu : P.underlying ty = some d) (hd : (match d with | .struct _ | .array _ _ => true | _ => false) = true) (hi : (P.info? ty).map (·.size) = some cs.size)
    (h : wpListIn (Fence.wide.inRound l) n P ops Q rest (a.put o.dst (.agg cs)) w) : wpListIn (Fence.wide.inRound l) n P ops Q (o :: rest) a w := by
  unfold wpListIn
  rw [if_pos (by simp only [Region.wanted, hgd])]
  exact oper_in l n (fun c e => by rw [ho] at e; cases e) (fun _ _ h => h) (wp_load_row ty x ho g hx t cs fr d hg hu hd hi h)
theorem oper_wide {P : Program} {o : Oper} {a : Act} {w : World} {K : Act → World → Prop} {Q : Exit → Act → World → Prop} (n : Nat) (h : o.wp P a w K Q) : o.wpIn Fence.wide n P a w K Q := by
  unfold Oper.wp at h
  unfold Oper.wpIn
  refine ⟨fun _ _ => trivial, ?_⟩
  rw [show o.semAt Fence.wide.round a.eval = execOp a.eval o from rfl]
  generalize (execOp a.eval o).run P w = r at h ⊢
  cases r with
  | halt x w' => cases x <;> exact h
  | ok nx w' =>
    cases nx with
    | value v => exact h
    | skip => exact h
    | defer d => exact h
    | enter f args =>
      refine ⟨(fun h => by cases h), CallsIn.mono (callsIn_wide.2 h) fun e w'' he => ?_⟩
      cases e with
      | returned v => exact he
      | panicked c => exact he
      | outgrown => exact he
    | row row args => exact ⟨(fun h => by cases h), fun c cs _ => let ⟨v, w2, r, s⟩ := h c cs; ⟨v, w2, r, stepsIn_wide.2 s⟩⟩
    | _ => exact h.elim
theorem wpListW_store_row {P : Program} {n : Nat} {ops : Array Oper} {rest : List Oper} {o : Oper} {a : Act} {w : World} {Q : Exit → Act → World → Prop} (hgd : o.guard = none) (ty : TypeId) (x y : Operand) (ho : o.op = .store ty x y)
    (g : Nat) (cells : Array Value) (hx : a.eval x = .pointer (some ⟨g, 0, none⟩)) (hy : a.eval y = .agg cells)
    (t : TypeId) (old : Array Value) (hg : w.heap[g]? = some (.cells old t (0, 0))) (hi : (P.info? ty).map (·.size) = some cells.size)
    (hold : old.size = cells.size) (h1 : cells.all (·.oneCell') = true)
    (h : wpListIn Fence.wide n P ops Q rest (a.put o.dst undef) (w.setRow g cells)) : wpListIn Fence.wide n P ops Q (o :: rest) a w := by
  unfold wpListIn
  rw [if_pos (by simp only [Region.wanted, hgd])]
  exact oper_wide n (wp_store_row ty x y ho g cells hx hy t old hg hi hold h1 h)
theorem wpListW_load_row {P : Program} {n : Nat} {ops : Array Oper} {rest : List Oper} {o : Oper} {a : Act} {w : World} {Q : Exit → Act → World → Prop} (hgd : o.guard = none) (ty : TypeId) (x : Operand) (ho : o.op = .load ty x)
    (g : Nat) (hx : a.eval x = .pointer (some ⟨g, 0, none⟩)) (t : TypeId) (cs : Array Value) (fr : Nat × Nat) (d : TypeDesc) (hg : w.heap[g]? = some (.cells cs t fr))
    (hu : P.underlying ty = some d) (hd : (match d with | .struct _ | .array _ _ => true | _ => false) = true) (hi : (P.info? ty).map (·.size) = some cs.size)
    (h : wpListIn Fence.wide n P ops Q rest (a.put o.dst (.agg cs)) w) : wpListIn Fence.wide n P ops Q (o :: rest) a w := by
  unfold wpListIn
  rw [if_pos (by simp only [Region.wanted, hgd])]
  exact oper_wide n (wp_load_row ty x ho g hx t cs fr d hg hu hd hi h)
theorem results_three {P : Program} {fn : Func} {p q u : Tmp} {t1 t2 t3 : TypeId} (h : fn.results = #[.cell p t1, .cell q t2, .cell u t3]) (tmps : Array Value) (w : World) (b1 b2 b3 : Nat) (cs : Array Value) (x y : Value) (d : TypeDesc)
    (hp : tmps.getD p undef = .pointer (some ⟨b1, 0, none⟩)) (hq : tmps.getD q undef = .pointer (some ⟨b2, 0, none⟩)) (hr : tmps.getD u undef = .pointer (some ⟨b3, 0, none⟩))
    (k1 : Blk w b1 t1 cs) (k2 : Blk w b2 t2 #[x]) (k3 : Blk w b3 t3 #[y]) (hu : P.underlying t1 = some d) (hd : (match d with | .struct _ | .array _ _ => true | _ => false) = true) (hi : (P.info? t1).map (·.size) = some cs.size)
    (a2 : (isAgg t2).run P w = .ok false w) (a3 : (isAgg t3).run P w = .ok false w) : (results fn tmps).run P w = .ok (.tuple #[.agg cs, x, y]) w := by
  have hp' : tmps[p]?.getD undef = .pointer (some ⟨b1, 0, none⟩) := by simpa using hp
  have hq' : tmps[q]?.getD undef = .pointer (some ⟨b2, 0, none⟩) := by simpa using hq
  have hr' : tmps[u]?.getD undef = .pointer (some ⟨b3, 0, none⟩) := by simpa using hr
  have c2 := k2.cell 0
  have c3 := k3.cell 0
  simp at c2 c3
  have l2 : (loadVar t2 ⟨b2, 0, none⟩).run P w = .ok x w := by simp [loadVar, Sem.run_bind, a2, run_load, c2]
  have l3 : (loadVar t3 ⟨b3, 0, none⟩).run P w = .ok y w := by simp [loadVar, Sem.run_bind, a3, run_load, c3]
  simp [results, h, hp', hq', hr', asAddr, run_loadVar_row w b1 t1 t1 cs (0, 0) d k1 hu hd hi, l2, l3]
theorem Blk.setRow_ {w : World} {g : Nat} {t : TypeId} {old : Array Value} (h : Blk w g t old) (cs : Array Value) : Blk (w.setRow g cs) g t cs := setRow_heap w g old cs t (0, 0) h
theorem Keep.setRow_ (w : World) (g : Nat) (cs : Array Value) : Keep (fun k => k = g) w (w.setRow g cs) :=
  ⟨rfl, rfl, rfl, by simp, fun k _ hn => setRow_other w g k cs hn⟩
end Go.Proofs.YtjgkalcldekmpaaGreatDoor
