/-
  An evaluator for closed calls: operations that are no calls.
-/
import Derived.Test.YtkiakphfgdkdiaaGreatEvLoc
namespace Go.Proofs.YtkiakphfgdkdiaaGreat
open Go Go.RowKit
set_option linter.unusedVariables false

/-- A fence that lets all in. -/
structure Wide (F : Fence) : Prop where
  fn : ∀ f, F.fn f
  depth : F.depth = none

section
variable {P : Program} {N0 : Nat} {w0 : World} {σ : Ren} {w : World} {F : Fence} {n : Nat}

/-- An operation that the evaluator has done. -/
def OpOk (P : Program) (N0 : Nat) (w0 : World) (F : Fence) (n : Nat) (σ : Ren) (o : Oper) (a : Act) (w : World) (v : Value) (s' : HS) : Prop :=
  ∀ (next : Act → World → Prop) (Q : Exit → Act → World → Prop), (∀ τ v' w', σ.le τ → VR τ v v' → WR P N0 w0 τ s'.h.get w' → next (a.put o.dst v') w') → o.wpIn F n P a w next Q

theorem op_value (hF : Wide F) {o : Oper} {a : Act} (hd : ∀ c, o.op ≠ .defer c) {c : Sem Value} (hc : execOp a.eval o = (do pure (.value (← c)))) {m : M Value} (hs : Sim P N0 w0 σ m c) {s s' : HS} {v : Value}
    (h : m s = some (v, s')) (W : WR P N0 w0 σ s.h.get w) : OpOk P N0 w0 F n σ o a w v s' := by
  intro next Q hnext
  obtain ⟨τ, v', w', h1, h2, h3, h4⟩ := hs s v s' w h W
  refine ⟨fun f _ => hF.fn f, ?_⟩
  rw [Oper.semAt_eq _ _ _ hd, hc]
  simp only [Sem.run_bind, h2, Result.andThen_ok, Sem.run_pure]
  exact hnext τ v' w' h1 h3 h4

theorem op_skip (hF : Wide F) {o : Oper} {a : Act} (hd : ∀ c, o.op ≠ .defer c) {c : Sem Unit} (hc : execOp a.eval o = (do c; pure .skip)) {m : M Value} (hs : Sim P N0 w0 σ m (do c; pure undef)) {s s' : HS} {v : Value}
    (h : m s = some (v, s')) (W : WR P N0 w0 σ s.h.get w) : OpOk P N0 w0 F n σ o a w v s' := by
  intro next Q hnext
  obtain ⟨τ, v', w', h1, h2, h3, h4⟩ := hs s v s' w h W
  refine ⟨fun f _ => hF.fn f, ?_⟩
  rw [Oper.semAt_eq _ _ _ hd, hc]
  simp only [Sem.run_bind, Sem.run_pure] at h2 ⊢
  cases hr : c.run P w with
  | halt y w1 => rw [hr] at h2; cases h2
  | ok u w1 =>
    rw [hr] at h2
    simp only [Result.andThen_ok] at h2 ⊢
    injection h2 with e1 e2
    subst e1; subst e2
    exact hnext τ undef w1 h1 h3 h4

theorem op_pure (hF : Wide F) {fr : Fr} {o : Oper} {a : Act} (hd : ∀ c, o.op ≠ .defer c) (hsel : ∀ cs b, o.op ≠ .select cs b) (rf : FrR σ fr a) {s s' : HS} {v : Value}
    (h : (M.ofO (opPure P fr o)) s = some (v, s')) (W : WR P N0 w0 σ s.h.get w) : OpOk P N0 w0 F n σ o a w v s' := by
  intro next Q hnext
  obtain ⟨u, hu, e⟩ := M.ofO_some h
  cases e
  obtain ⟨h1, h2⟩ := opPure_ok (P := P) rf hsel hu w
  refine ⟨fun f _ => hF.fn f, ?_⟩
  rw [Oper.semAt_eq _ _ _ hd, h1]
  exact hnext σ v w σ.le_refl h2 W

theorem op_still (hF : Wide F) {o : Oper} {a : Act} (hd : ∀ c, o.op ≠ .defer c) {v v' : Value} (hc : (execOp a.eval o).run P w = .ok (.value v') w) (hv : VR σ v v') {s : HS} (W : WR P N0 w0 σ s.h.get w) : OpOk P N0 w0 F n σ o a w v s := by
  intro next Q hnext
  refine ⟨fun f _ => hF.fn f, ?_⟩
  rw [Oper.semAt_eq _ _ _ hd, hc]
  exact hnext σ v' w σ.le_refl hv W

/-- Is it a call of a function's value? -/
def isCallV (o : Oper) : Bool := match o.op with
  | .call c => match c.callee with
    | .value _ => true
    | _ => false
  | _ => false

theorem evOp_plain (hF : Wide F) {pf : List (FuncId × Value)} {R : Run} {fr : Fr} {o : Oper} {a : Act} {s s' : HS} {v : Value} (h : evOp P pf R fr o s = some (v, s')) (hcall : isCallV o = false) (rf : FrR σ fr a)
    (W : WR P N0 w0 σ s.h.get w) : OpOk P N0 w0 F n σ o a w v s' := by
  obtain ⟨dst, op, type, pos, after, guard⟩ := o
  unfold evOp at h
  have nd : ∀ {op' : Op}, op = op' → (∀ c, op' ≠ .defer c) → ∀ c, (⟨dst, op, type, pos, after, guard⟩ : Oper).op ≠ .defer c := fun e h => by subst e; exact h
  cases op <;> dsimp only at h
  case move x =>
    obtain ⟨u, hu, e⟩ := M.ofO_some h
    cases e
    exact op_still hF (nd rfl (by intro c e; cases e)) rfl (rf.val hu) W
  case assign x =>
    obtain ⟨u, hu, e⟩ := M.ofO_some h
    cases e
    exact op_still hF (nd rfl (by intro c e; cases e)) rfl (rf.val hu) W
  case pick c x y =>
    cases hc : fr.val c with
    | none => rw [hc] at h; cases h
    | some cv =>
      rw [hc] at h
      cases cv <;> try (cases h; done)
      rename_i b
      have hcv := rf.val hc
      generalize hec : a.eval c = ec at hcv
      cases hcv
      cases b with
      | true =>
        obtain ⟨u, hu, e⟩ := M.ofO_some h
        cases e
        exact op_still hF (nd rfl (by intro c e; cases e)) (by simp [execOp, hec, asBool]) (rf.val hu) W
      | false =>
        obtain ⟨u, hu, e⟩ := M.ofO_some h
        cases e
        exact op_still hF (nd rfl (by intro c e; cases e)) (by simp [execOp, hec, asBool]) (rf.val hu) W
  case alloc t =>
    cases hz : pureRun P (zeroValue t) with
    | none => rw [hz] at h; cases h
    | some z =>
      rw [hz] at h
      dsimp only at h
      cases hp : plainD 8 z with
      | false => rw [hp] at h; cases h
      | true =>
        rw [hp] at h
        exact op_value hF (nd rfl (by intro c e; cases e)) rfl (alloc_sim hz hp) h W
  case box t x =>
    cases hx : fr.val x with
    | none => rw [hx] at h; cases h
    | some xv =>
      rw [hx] at h
      exact op_value hF (nd rfl (by intro c e; cases e)) rfl (newVar_sim (rf.val hx)) h W
  case build t parts =>
    cases hp : partsOf fr parts.toList with
    | none => rw [hp] at h; cases h
    | some ps =>
      rw [hp] at h
      obtain ⟨u, hu, e⟩ := M.ofO_some h
      cases e
      obtain ⟨v', h1, h2⟩ := build_ok hu (parts_PR rf hp) w
      have e1 : (parts.map fun (p : Nat × Operand) => (p.1, a.eval p.2)) = (parts.toList.map fun p => (p.1, a.eval p.2)).toArray := by apply Array.ext'; simp
      exact op_still hF (nd rfl (by intro c e; cases e)) (by
        show (do pure (.value (← Instr.build t (parts.map fun (p : Nat × Operand) => (p.1, a.eval p.2)))) : Sem Next).run P w = _
        rw [e1]; simp only [Sem.run_bind, h1, Result.andThen_ok, Sem.run_pure]) h2 W
  case buildSlice t len parts =>
    cases hp : partsOf fr parts.toList with
    | none => rw [hp] at h; cases h
    | some ps =>
      rw [hp] at h
      have e1 : (parts.map fun (p : Nat × Operand) => (p.1, a.eval p.2)) = (parts.toList.map fun p => (p.1, a.eval p.2)).toArray := by apply Array.ext'; simp
      exact op_value hF (nd rfl (by intro c e; cases e)) (c := Instr.buildSlice t len (parts.toList.map fun p => (p.1, a.eval p.2)).toArray) (by
        show (do pure (.value (← Instr.buildSlice t len (parts.map fun (p : Nat × Operand) => (p.1, a.eval p.2)))) : Sem Next) = _
        rw [e1]) (buildSlice_sim (parts_PR rf hp)) h W
  case load t x =>
    cases hx : fr.val x with
    | none => rw [hx] at h; cases h
    | some xv =>
      rw [hx] at h
      exact op_value hF (nd rfl (by intro c e; cases e)) rfl (load_sim (rf.val hx)) h W
  case store t x y =>
    cases hx : fr.val x with
    | none => rw [hx] at h; cases h
    | some xv =>
      rw [hx] at h
      cases hy : fr.val y with
      | none => rw [hy] at h; cases h
      | some yv =>
        rw [hy] at h
        exact op_skip hF (nd rfl (by intro c e; cases e)) rfl (store_sim (rf.val hx) (rf.val hy)) h W
  case nilCheck x =>
    have pure := fun (h : (M.ofO (opPure P fr (⟨dst, .nilCheck x, type, pos, after, guard⟩ : Oper))) s = some (v, s')) =>
      op_pure (σ := σ) (w := w) (n := n) (N0 := N0) (w0 := w0) hF (nd rfl (by intro c e; cases e)) (fun cs b e => by cases e) rf h W
    cases hx : fr.val x with
    | none => rw [hx] at h; exact pure h
    | some xv =>
      rw [hx] at h
      have hv := rf.val hx
      cases hr : xv with
      | pointer p =>
        rw [hr] at h
        cases p with
        | none => exact pure h
        | some p =>
          cases M.pure_some h
          rw [hr] at hv
          generalize he : a.eval x = ex at hv
          cases hv with
          | ptr m off l hl => exact op_still hF (nd rfl (by intro c e; cases e)) (v' := .pointer (some ⟨l.b, l.s + off, none⟩)) (by simp [execOp, he]) (.ptr m off l hl) W
      | func f b c =>
        rw [hr] at h hv
        generalize he : a.eval x = ex at hv
        cases hv with
        | fn g _ _ xs' ys' h1 h2 h3 h4 =>
          cases M.pure_some h
          exact op_still hF (nd rfl (by intro c e; cases e)) (v' := .func (.func g) xs' ys') (by simp [execOp, he]) (.fn g _ _ xs' ys' h1 h2 h3 h4) W
        | yl m l hl =>
          cases M.pure_some h
          exact op_still hF (nd rfl (by intro c e; cases e)) (v' := .func (.yield l.b) #[] #[]) (by simp [execOp, he]) (.yl m l hl) W
      | _ => rw [hr] at h; exact pure h
  case binOp op t x y yt =>
    cases hx : fr.val x with
    | none => rw [hx] at h; cases h
    | some xv =>
    rw [hx] at h
    cases hy : fr.val y with
    | none => rw [hy] at h; cases h
    | some yv =>
    rw [hy] at h
    dsimp only at h
    by_cases hop : op = .eql ∨ op = .neq
    · rcases hop with rfl | rfl
      · exact op_value hF (nd rfl (by intro c e; cases e)) rfl (eql_sim rf (.inl ⟨rfl, rfl⟩) rfl (rf.val hx) (rf.val hy) rfl rfl) h W
      · exact op_value hF (nd rfl (by intro c e; cases e)) rfl (eql_sim rf (.inr ⟨rfl, rfl⟩) rfl (rf.val hx) (rf.val hy) rfl rfl) h W
    · have h : (M.ofO (opPure P fr (⟨dst, .binOp op t x y yt, type, pos, after, guard⟩ : Oper))) s = some (v, s') := by
        cases op <;> first | exact h | exact absurd (.inl rfl) hop | exact absurd (.inr rfl) hop
      exact op_pure hF (nd rfl (by intro c e; cases e)) (fun cs b e => by cases e) rf h W
  case convert src d x =>
    cases hx : fr.val x with
    | none => rw [hx] at h; cases h
    | some xv =>
      rw [hx] at h
      exact op_value hF (nd rfl (by intro c e; cases e)) rfl (convert_sim rf rfl (rf.val hx) rfl) h W
  case makeFunc f first captured =>
    have pure := fun (h : (M.ofO (opPure P fr (⟨dst, .makeFunc f first captured, type, pos, after, guard⟩ : Oper))) s = some (v, s')) =>
      op_pure (σ := σ) (w := w) (n := n) (N0 := N0) (w0 := w0) hF (nd rfl (by intro c e; cases e)) (fun cs b e => by cases e) rf h W
    cases f <;> try (exact pure h)
    rename_i g
    dsimp only at h
    cases h1 : fr.vals first.toList with
    | none => rw [h1] at h; cases h
    | some us =>
    rw [h1] at h
    cases h2 : fr.vals captured.toList with
    | none => rw [h2] at h; cases h
    | some cs =>
      rw [h2] at h
      cases M.pure_some h
      have r1 := rf.vals h1
      have r2 := rf.vals h2
      refine op_still hF (nd rfl (by intro c e; cases e)) (v' := .func (.func g) (first.map a.eval) (captured.map a.eval)) (by simp [execOp, Instr.makeFunc]) ?_ W
      exact .fn g _ _ _ _ (by simpa using r1.1) (fun i x y hx hy => r1.2 i x y hx (by simpa using hy)) (by simpa using r2.1) (fun i x y hx hy => r2.2 i x y hx (by simpa using hy))
  case makeMap t res =>
    cases res with
    | none => exact op_value hF (nd rfl (by intro c e; cases e)) rfl makeMap_sim h W
    | some x => exact op_pure hF (nd rfl (by intro c e; cases e)) (fun cs b e => by cases e) rf h W
  case slice t x lo hi mx =>
    cases hx : fr.val x with
    | none => rw [hx] at h; cases h
    | some xv =>
      rw [hx] at h
      exact op_value hF (nd rfl (by intro c e; cases e)) rfl (slice_sim rf rfl (rf.val hx) rfl) h W
  case fieldAddr t x f =>
    cases hx : fr.val x with
    | none => rw [hx] at h; cases h
    | some xv =>
      rw [hx] at h
      exact op_value hF (nd rfl (by intro c e; cases e)) rfl (fieldAddr_sim (rf.val hx)) h W
  case indexAddr t x i =>
    cases hx : fr.val x with
    | none => rw [hx] at h; cases h
    | some xv =>
    rw [hx] at h
    cases hi : fr.val i with
    | none => rw [hi] at h; cases h
    | some iv =>
      rw [hi] at h
      exact op_value hF (nd rfl (by intro c e; cases e)) rfl (indexAddr_sim (rf.val hx) (rf.val hi)) h W
  case index t x i =>
    cases hx : fr.val x with
    | none => rw [hx] at h; cases h
    | some xv =>
    rw [hx] at h
    cases hi : fr.val i with
    | none => rw [hi] at h; cases xv <;> cases h
    | some iv =>
      rw [hi] at h
      by_cases hs : ∃ q, xv = .string q
      · obtain ⟨q, rfl⟩ := hs
        exact op_pure hF (nd rfl (by intro c e; cases e)) (fun cs b e => by cases e) rf h W
      · have h : indexM P t xv iv s = some (v, s') := by
          cases xv <;> first | exact h | exact absurd ⟨_, rfl⟩ hs
        exact op_value hF (nd rfl (by intro c e; cases e)) rfl (index_sim (rf.val hx) (rf.val hi)) h W
  case lookup t x k ok =>
    cases hx : fr.val x with
    | none => rw [hx] at h; cases h
    | some xv =>
    rw [hx] at h
    cases hk : fr.val k with
    | none => rw [hk] at h; cases h
    | some kv =>
      rw [hk] at h
      exact op_value hF (nd rfl (by intro c e; cases e)) rfl (lookup_sim (rf.val hx) (rf.val hk)) h W
  case mapUpdate t m k x =>
    cases hm : fr.val m with
    | none => rw [hm] at h; cases h
    | some mv =>
    rw [hm] at h
    cases hk : fr.val k with
    | none => rw [hk] at h; cases h
    | some kv =>
    rw [hk] at h
    cases hx : fr.val x with
    | none => rw [hx] at h; cases h
    | some xv =>
      rw [hx] at h
      exact op_skip hF (nd rfl (by intro c e; cases e)) rfl (mapUpdate_sim (rf.val hm) (rf.val hk) (rf.val hx)) h W
  case range t x =>
    cases hx : fr.val x with
    | none => rw [hx] at h; cases h
    | some xv =>
      rw [hx] at h
      exact op_value hF (nd rfl (by intro c e; cases e)) rfl (range_sim (rf.val hx)) h W
  case next x b =>
    cases hx : fr.val x with
    | none => rw [hx] at h; cases h
    | some xv =>
      rw [hx] at h
      exact op_value hF (nd rfl (by intro c e; cases e)) rfl (next_sim (rf.val hx)) h W
  case extract x i =>
    cases hx : fr.val x with
    | none => rw [hx] at h; cases h
    | some xv =>
      rw [hx] at h
      cases xv <;> try (cases h; done)
      rename_i vs
      obtain ⟨vs⟩ := vs
      dsimp only at h
      obtain ⟨u, hu, e⟩ := M.ofO_some h
      cases e
      have hv := rf.val hx
      generalize he : a.eval x = ex at hv
      cases hv with
      | tup _ ys h1 h2 =>
        obtain ⟨y, hy, hr⟩ := LR.get (σ := σ) (xs := vs) (ys := ys.toList) ⟨h1, h2⟩ hu
        have hy' : ys[i]? = some y := by simpa using hy
        exact op_still hF (nd rfl (by intro c e; cases e)) (by simp [execOp, he, Instr.extract, hy']) hr W
  case call c =>
    obtain ⟨callee, args, argTypes⟩ := c
    cases callee with
    | value f => cases hcall
    | invoke x m => cases hv : fr.vals args.toList <;> cases h
    | builtin b =>
      have pure := fun (h : (M.ofO (opPure P fr (⟨dst, .call ⟨.builtin b, args, argTypes⟩, type, pos, after, guard⟩ : Oper))) s = some (v, s')) =>
        op_pure (σ := σ) (w := w) (n := n) (N0 := N0) (w0 := w0) hF (nd rfl (by intro c e; cases e)) (fun cs b e => by cases e) rf h W
      dsimp only at h
      cases hv : fr.vals args.toList with
      | none => rw [hv] at h; cases b <;> exact pure h
      | some vs =>
        rw [hv] at h
        have hvr := rf.vals hv
        have one : ∀ {u : Value}, vs = [u] → ∃ x, args = #[x] ∧ VR σ u (a.eval x) := by
          intro u e
          subst e
          obtain ⟨y, ys, h1, h2, h3⟩ := hvr.cons_inv
          have := h3.nil_inv
          subst this
          obtain ⟨args⟩ := args
          cases args with
          | nil => cases h1
          | cons x l =>
            simp only [List.map_cons, List.cons.injEq, List.map_eq_nil_iff] at h1
            obtain ⟨rfl, rfl⟩ := h1
            exact ⟨x, rfl, h2⟩
        cases b
        case len =>
          cases vs with
          | nil => exact pure h
          | cons u l =>
            cases l with
            | cons _ _ => exact pure h
            | nil =>
              obtain ⟨x, rfl, hx⟩ := one rfl
              exact op_value hF (nd rfl (by intro c e; cases e)) (c := Builtin.len_ argTypes type #[a.eval x]) (by simp [execOp, resolve, invoke, builtin]) (len_sim hx) h W
        case cap =>
          cases vs with
          | nil => exact pure h
          | cons u l =>
            cases l with
            | cons _ _ => exact pure h
            | nil =>
              obtain ⟨x, rfl, hx⟩ := one rfl
              exact op_value hF (nd rfl (by intro c e; cases e)) (c := Builtin.cap_ argTypes type #[a.eval x]) (by simp [execOp, resolve, invoke, builtin]) (cap_sim hx) h W
        case clear =>
          cases vs with
          | nil => exact pure h
          | cons u l =>
            cases l with
            | cons _ _ => exact pure h
            | nil =>
              obtain ⟨x, rfl, hx⟩ := one rfl
              exact op_value hF (nd rfl (by intro c e; cases e)) (c := Builtin.clear_ argTypes type #[a.eval x]) (by simp [execOp, resolve, invoke, builtin]) (clear_sim hx) h W
        case append =>
          cases vs with
          | nil => exact pure h
          | cons u l =>
            cases l with
            | nil => exact pure h
            | cons u2 l =>
              cases l with
              | cons _ _ => exact pure h
              | nil =>
                obtain ⟨y, ys, h1, h2, h3⟩ := hvr.cons_inv
                obtain ⟨y2, ys2, rfl, h4, h5⟩ := h3.cons_inv
                have := h5.nil_inv
                subst this
                obtain ⟨args⟩ := args
                cases args with
                | nil => cases h1
                | cons x l => cases l with
                  | nil => simp at h1
                  | cons x2 l =>
                    simp only [List.map_cons, List.cons.injEq, List.map_eq_nil_iff] at h1
                    obtain ⟨rfl, rfl, rfl⟩ := h1
                    exact op_value hF (nd rfl (by intro c e; cases e)) (c := Builtin.append_ argTypes type #[a.eval x, a.eval x2]) (by simp [execOp, resolve, invoke, builtin]) (append_sim h2 h4) h W
        all_goals exact pure h
  case select => cases h
  case defer => cases h
  case go => cases h
  all_goals exact op_pure hF (fun c e => by cases e) (fun cs b e => by cases e) rf h W

end
end Go.Proofs.YtkiakphfgdkdiaaGreat
