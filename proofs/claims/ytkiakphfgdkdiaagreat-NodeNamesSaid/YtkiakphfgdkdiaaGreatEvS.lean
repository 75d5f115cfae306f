/-
  An evaluator for closed calls: rounds; ranges over functions; operations in the order of the text.
-/
import Derived.Test.YtkiakphfgdkdiaaGreatEvR
namespace Go.Proofs.YtkiakphfgdkdiaaGreat
open Go Go.RowKit
set_option linter.unusedVariables false

section
variable {P : Program} {N0 : Nat} {w0 : World} {σ : Ren} {w : World} {F : Fence} {n : Nat}

theorem Wide.inRound (hF : Wide F) (l : Nat) : Wide (F.inRound l) := ⟨hF.fn, hF.depth⟩

theorem putParams_TR : ∀ {ps : List Tmp} {args args' : List Value} {sz : Nat} {T : Tri Value} {tmps : Array Value}, TR σ sz T tmps → LR σ args args' →
    TR σ sz (putParams ps args sz T) ((ps.zip args').foldl (fun tmps p => tmps.setIfInBounds p.1 p.2) tmps)
  | [], args, args', sz, T, tmps, h, _ => by
    unfold putParams
    exact h
  | t :: ps, [], args', sz, T, tmps, h, r => by
    rw [r.nil_inv]
    unfold putParams
    exact h
  | t :: ps, v :: args, args', sz, T, tmps, h, r => by
    obtain ⟨y, ys, rfl, hv, hr⟩ := r.cons_inv
    unfold putParams
    simp only [List.zip_cons_cons, List.foldl_cons]
    refine putParams_TR ?_ hr
    cases hb : Nat.blt t sz with
    | true => exact h.set (Nat.le_of_ble_eq_true hb) hv
    | false =>
      have h1 : ¬ t < sz := fun h => by
        have : Nat.blt t sz = true := Nat.ble_eq ▸ h
        rw [hb] at this; cases this
      have h3 : tmps.size ≤ t := h.1.symm ▸ Nat.not_lt.1 h1
      rw [show tmps.setIfInBounds t y = tmps from Array.setIfInBounds_eq_of_size_le h3]
      exact h

theorem loop_run {b : Nat} {r : Loop} (h : w.heap[b]? = some (.loop r)) : (Instr.getLoop b).run P w = .ok r w := by
  simp only [Instr.getLoop, Sem.run_bind, getObj_run h (by intro c e f h; cases h), Result.andThen_ok, Sem.run_pure]

theorem yieldM_ok {R : Run} (hR : SoundR P N0 w0 R) {l : Nat} {L : Loc} {args args' : List Value} {s s' : HS} {v : Value} (h : yieldM R l args s = some (v, s')) (hF : Wide F) (hL : σ l = some L) (r : LR σ args args')
    (W : WR P N0 w0 σ s.h.get w) : ∃ f tmps assign body, (Instr.yield L.b args'.toArray).run P w = .ok (.round L.b f tmps assign body) w ∧ RoundIn F n P L.b f tmps assign body w (Back P N0 w0 σ v s') := by
  unfold yieldM at h
  obtain ⟨ob, s1, h1, hh⟩ := M.bind_some h
  clear h
  have h := hh
  clear hh
  cases ob <;> try (cases h; done)
  rename_i st pend sz T params assign body d
  obtain ⟨e1, hg, hN, o', ho', hor⟩ := obj_ok h1 W hL (by intro e; cases e)
  cases o' <;> try (exact hor.elim)
  rename_i q
  obtain ⟨q1, q2, q3, q4, q5, q6, ld, q7, q8⟩ := hor
  have W1 : WR P N0 w0 σ s1.h.get w := by rw [e1]; exact W
  dsimp only at h
  cases hb : Nat.beq args.length params.length with
  | false => rw [hb] at h; cases h
  | true =>
  rw [hb] at h
  simp only [cond_true] at h
  have hb := Nat.eq_of_beq_eq_true hb
  obtain ⟨⟨e, fr⟩, s2, h2, hh⟩ := M.bind_some h
  clear h
  have h := hh
  clear hh
  dsimp only at h
  cases e <;> try (cases h; done)
  dsimp only at h
  obtain ⟨ob, s3, h3, hh⟩ := M.bind_some h
  clear h
  have h := hh
  clear hh
  cases ob <;> try (cases h; done)
  rename_i st2 pend2 sz2 T2 params2 assign2 body2 d2
  dsimp only at h
  cases st2 <;> try (cases h; done)
  dsimp only at h
  obtain ⟨_, s4, h4, hh⟩ := M.bind_some h
  clear h
  have h := hh
  clear hh
  obtain ⟨⟨e, fr2⟩, s5, h5, hh⟩ := M.bind_some h
  clear h
  have h := hh
  clear hh
  dsimp only at h
  obtain ⟨ob, s6, h6, hh⟩ := M.bind_some h
  clear h
  have h := hh
  clear hh
  cases ob <;> try (cases h; done)
  rename_i st3 pend3 sz3 T3 params3 assign3 body3 d3
  dsimp only at h
  obtain ⟨_, s7, h7, h8⟩ := M.bind_some h
  cases M.pure_some h8
  refine ⟨q.fn, (q.params.zip args'.toArray).foldl (fun tmps (p : Tmp × Value) => tmps.setIfInBounds p.1 p.2) q.tmps, q.assign, q.body, ?_, ?_⟩
  · have hsz : args'.toArray.size = q.params.size := by
      have h5 : q.params.size = params.length := by rw [← q4]; simp
      simp only [List.size_toArray]; rw [← r.1, hb, h5]
    simp only [Instr.yield, Sem.run_bind, loop_run ho', Result.andThen_ok, hsz, ne_eq, not_true_eq_false, if_false, Sem.run_pure, Sem.run_ite, ite_false]
  · refine roundIn_of_wpIn (hF.fn _) ?_
    have hTR : TR σ sz (putParams params args sz T) ((q.params.zip args'.toArray).foldl (fun tmps (p : Tmp × Value) => tmps.setIfInBounds p.1 p.2) q.tmps) := by
      have := putParams_TR (ps := params) q3 r
      rw [← q4] at this ⊢
      rw [← Array.foldl_toList]
      simpa using this
    obtain ⟨hrd1, hwp1⟩ := hR _ _ _ _ _ _ h2
    rw [q5, q6]
    have hw1 := hwp1 (F.inRound L.b) n σ { tmps := (q.params.zip args'.toArray).foldl (fun tmps (p : Tmp × Value) => tmps.setIfInBounds p.1 p.2) q.tmps, defers := [] } w (hF.inRound L.b)
      ⟨fun e => by simp at e, fun e => by cases e⟩ ⟨hTR, trivial⟩ W1
    refine wpIn_mono hw1 ?_
    rintro x a1 w1 ⟨rfl, τ, hle, hfr, W2⟩
    show ∃ w₂, (Instr.beginRound L.b).run P w1 = .ok () w₂ ∧ _
    obtain ⟨e3, hg3, hN3, o3, ho3, hor3⟩ := obj_ok h3 W2 (hle _ _ hL) (by intro e; cases e)
    cases o3 <;> try (exact hor3.elim)
    rename_i q'
    obtain ⟨p1, p2, p3, p4, p5, p6, ld', p7, p8⟩ := hor3
    have W3 : WR P N0 w0 τ s3.h.get w1 := by rw [e3]; exact W2
    have hg3' : s3.h.get l = some (.loop .ready pend2 sz2 T2 params2 assign2 body2 d2) := by rw [e3]; exact hg3
    have hlt : L.b < w1.heap.size := (Array.getElem?_eq_some_iff.1 ho3).1
    have W4 := put_ok (p' := .loop { q' with state := .busy }) h4 W3 (hle _ _ hL) hg3' (by intro e; cases e) ⟨rfl, p2, p3, p4, p5, p6, ld', p7, p8⟩ (by intro e; cases e) hlt
    refine ⟨{ w1 with heap := w1.heap.setIfInBounds L.b (.loop { q' with state := .busy }) }, ?_, ?_⟩
    · simp only [Instr.beginRound, Sem.run_bind, loop_run ho3, Result.andThen_ok, setObj_run ho3 (by intro c e f h; cases h), p1, Sem.run_pure]
    · obtain ⟨hrd2, hwp2⟩ := hR _ _ _ _ _ _ h5
      have hro2 : (F.inRound L.b).round = none ↔ fr.round = none := by rw [hrd1]; exact ⟨fun e => by simp at e, fun e => by cases e⟩
      refine wpIn_mono (hwp2 (F.inRound L.b) n τ a1 _ (hF.inRound L.b) hro2 hfr W4) ?_
      rintro x a2 w2 ⟨rfl, υ, hle2, hfr2, W5⟩
      obtain ⟨e6, hg6, hN6, o6, ho6, hor6⟩ := obj_ok h6 W5 (hle2 _ _ (hle _ _ hL)) (by intro e; cases e)
      cases o6 <;> try (exact hor6.elim)
      rename_i q3
      obtain ⟨t1, t2, t3, t4, t5, t6, ld3, t7, t8⟩ := hor6
      have W6 : WR P N0 w0 υ s6.h.get w2 := by rw [e6]; exact W5
      have hg6' : s6.h.get l = some (.loop st3 pend3 sz3 T3 params3 assign3 body3 d3) := by rw [e6]; exact hg6
      have hlt2 : L.b < w2.heap.size := (Array.getElem?_eq_some_iff.1 ho6).1
      have fin : ∃ v' w3, (Instr.endRound L.b (Ex.jump e)).run P w2 = .ok v' w3 ∧ Back P N0 w0 σ (.bool (Ex.jump e).isNone) s' (.returned v') w3 := by
        have W7 := put_ok (p' := .loop { q3 with state := jumpState (Ex.jump e), pending := Ex.jump e }) h7 W6 (hle2 _ _ (hle _ _ hL)) hg6' (by intro e; cases e)
          ⟨rfl, rfl, t3, t4, t5, t6, ld3, t7, t8⟩ (by intro e; cases e) hlt2
        have hst : (if (Ex.jump e).isNone = true then LoopState.ready else .done) = jumpState (Ex.jump e) := by cases e <;> rfl
        refine ⟨.bool (Ex.jump e).isNone, { w2 with heap := w2.heap.setIfInBounds L.b (.loop { q3 with state := jumpState (Ex.jump e), pending := Ex.jump e }) }, ?_, ⟨_, rfl, υ, Ren.le_trans hle hle2, .bool _, W7⟩⟩
        · simp only [Instr.endRound, Sem.run_bind, loop_run ho6, Result.andThen_ok, setObj_run ho6 (by intro c e f h; cases h), Sem.run_pure, hst]
      cases e with
      | normal => exact fin
      | ret => exact fin
      | exit id => exact fin

/-- A call of a value. -/
theorem callVal_wp {pf : List (FuncId × Value)} (hpf : Known P pf) {R : Run} (hR : SoundR P N0 w0 R) {fr : Fr} {o : Oper} {a : Act} {c : Call} {f : Operand} (ho : o.op = .call c) (hcal : c.callee = .value f) {fv : Value} {args : List Value} (hf : fr.val f = some fv)
    (hargs : fr.vals c.args.toList = some args) {s s' : HS} {v : Value} (h : callValM P pf R fv args s = some (v, s')) (hF : Wide F) (rf : FrR σ fr a) (W : WR P N0 w0 σ s.h.get w) : OpOk P N0 w0 F n σ o a w v s' := by
  intro next Q hnext
  refine ⟨fun f _ => hF.fn f, ?_⟩
  rw [Oper.semAt_eq _ _ _ (by intro c e; rw [ho] at e; cases e)]
  have hv := rf.val hf
  have hvs := rf.vals hargs
  have hexec : execOp a.eval o = (do let d ← Deferred.ofValue (a.eval f) (c.args.map a.eval); invoke d.target d.args) := by
    obtain ⟨dst, op, type, pos, after, guard⟩ := o
    simp only at ho
    subst ho
    simp only [execOp, resolve, hcal]
  have hargs' : c.args.map a.eval = (c.args.toList.map a.eval).toArray := by apply Array.ext'; simp
  rw [hexec, hargs']
  generalize c.args.toList.map a.eval = args' at hvs
  generalize a.eval f = fv' at hv
  have hdep : ∀ m, (F.depth.isSome = true → 1 ≤ m) := fun m e => by rw [hF.depth] at e; cases e
  unfold callValM at h
  cases hv <;> try (cases h; done)
  case fn g xs ys xs' ys' h1 h2 h3 h4 =>
    obtain ⟨xs⟩ := xs
    obtain ⟨ys⟩ := ys
    dsimp only at h
    have hall : LR σ (xs ++ args ++ ys) (xs'.toList ++ args' ++ ys'.toList) := (LR.append (LR.append ⟨h1, h2⟩ hvs) ⟨h3, h4⟩)
    have hcall : ∀ F' : Fence, Wide F' → F'.round = none → CallsIn F' (n - 1) P g (xs'.toList ++ args' ++ ys'.toList).toArray w (Back P N0 w0 σ v s') := fun F' hF' hro' => callM_ok hpf hR h hF' hro' hall W
    have hfn : ∃ fn, P.funcs[g]? = some fn ∧ fn.body.isSome = true ∧ (fn.name == "runtime.NumGoroutine") = false := by
      cases hp : pinned pf g with
      | some u => exact (hpf g u (pinned_mem hp)).2.1
      | none =>
      unfold callM at h
      rw [hp] at h
      dsimp only at h
      cases hfn : P.funcs[g]? with
      | none => rw [hfn] at h; cases h
      | some fn =>
        rw [hfn] at h
        dsimp only at h
        cases hb : fn.body with
        | none => rw [hb] at h; cases h
        | some c =>
          rw [hb] at h
          dsimp only at h
          cases hnm : (fn.name == "runtime.NumGoroutine") with
          | true => rw [hnm] at h; cases h
          | false => exact ⟨fn, rfl, by rw [hb]; rfl, hnm⟩
    obtain ⟨fn, hf1, hf2, hf3⟩ := hfn
    have hnone : fn.body.isNone = false := by cases hb : fn.body with
      | none => rw [hb] at hf2; cases hf2
      | some c => rfl
    have hall' : (xs' ++ args'.toArray ++ ys') = (xs'.toList ++ args' ++ ys'.toList).toArray := by apply Array.ext'; simp
    have hrun : (do let d ← Deferred.ofValue (.func (.func g) xs' ys') args'.toArray; invoke d.target d.args : Sem Next).run P w = .ok (.enter g (xs'.toList ++ args' ++ ys'.toList).toArray) w := by
      simp only [Deferred.ofValue, invoke, Sem.run_bind, Sem.run_pure, Result.andThen_ok, callFunc, run_program, hf1, hf3, Bool.false_eq_true, if_false, hnone, hall']
    rw [hrun]
    have hc : CallsIn F (n - 1) P g (xs'.toList ++ args' ++ ys'.toList).toArray w (Back P N0 w0 σ v s') := hcall F.plain ⟨hF.fn, hF.depth⟩ rfl
    refine ⟨hdep n, hc.mono ?_⟩
    rintro x w' ⟨v', rfl, τ, h1, h2, h3⟩
    exact hnext τ v' w' h1 h2 h3
  case yl m L hL =>
    obtain ⟨f, tmps, assign, body, hy, hround⟩ := yieldM_ok (n := n - 1) hR h hF hL hvs W
    have hrun : (do let d ← Deferred.ofValue (.func (.yield L.b) #[] #[]) args'.toArray; invoke d.target d.args : Sem Next).run P w = .ok (.round L.b f tmps assign body) w := by
      simp [Deferred.ofValue, invoke, hy]
    rw [hrun]
    refine ⟨hdep n, hround.mono ?_⟩
    rintro x w' ⟨v', rfl, τ, h1, h2, h3⟩
    exact hnext τ v' w' h1 h2 h3

theorem evOp_ok {pf : List (FuncId × Value)} (hpf : Known P pf) {R : Run} (hR : SoundR P N0 w0 R) {fr : Fr} {o : Oper} {a : Act} {s s' : HS} {v : Value} (h : evOp P pf R fr o s = some (v, s')) (hF : Wide F) (rf : FrR σ fr a)
    (W : WR P N0 w0 σ s.h.get w) : OpOk P N0 w0 F n σ o a w v s' := by
  cases hc : isCallV o with
  | false => exact evOp_plain hF h hc rf W
  | true =>
    unfold isCallV at hc
    cases ho : o.op <;> rw [ho] at hc <;> try (cases hc; done)
    rename_i c
    cases hcal : c.callee <;> simp only [hcal] at hc <;> try (cases hc; done)
    rename_i f
    unfold evOp at h
    rw [ho] at h
    dsimp only at h
    rw [hcal] at h
    cases hv : fr.vals c.args.toList with
    | none => rw [hv] at h; cases h
    | some args =>
      rw [hv] at h
      dsimp only at h
      cases hf : fr.val f with
      | none => rw [hf] at h; cases h
      | some fv =>
        rw [hf] at h
        exact callVal_wp hpf hR ho hcal hf hv h hF rf W

/-- Whether an operation is done. -/
theorem wanted_ok {ops : Array Oper} {fr : Fr} {a : Act} (rf : FrR σ fr a) (o : Oper) : Region.wanted o (yielded ops a.tmps) = wantedF ops fr o := by
  unfold Region.wanted wantedF
  cases o.guard with
  | none => rfl
  | some g =>
    obtain ⟨j, want⟩ := g
    dsimp only
    unfold yielded
    cases ops[j]? with
    | none => rfl
    | some q =>
      simp only [Option.bind_some]
      cases q.dst with
      | none => rfl
      | some d =>
        simp only [Option.bind_some]
        have hv := rf.tmp d
        rw [Array.getD_eq_getD_getElem?] at hv
        cases hx : a.tmps[d]? with
        | none =>
          rw [hx] at hv
          simp only [Option.getD_none] at hv
          generalize fr.tmp d = t at hv
          unfold undef at hv
          cases hv
          rfl
        | some u =>
          rw [hx] at hv
          simp only [Option.getD_some] at hv
          generalize fr.tmp d = t at hv
          cases hv with
          | bool b => cases b <;> cases want <;> rfl
          | _ => rfl

theorem evOpAt_ok {pf : List (FuncId × Value)} (hpf : Known P pf) {R : Run} (hR : SoundR P N0 w0 R) {ops : Array Oper} {i : Nat} {fr fr' : Fr} {a : Act} {s s' : HS} (h : evOpAt P pf R ops fr i s = some (fr', s')) (hF : Wide F)
    (rf : FrR σ fr a) (W : WR P N0 w0 σ s.h.get w) {next : Act → World → Prop} {Q : Exit → Act → World → Prop} (hnext : ∀ τ a' w', σ.le τ → FrR τ fr' a' → WR P N0 w0 τ s'.h.get w' → next a' w') :
    wpOpIn F n P ops Q i next a w := by
  unfold evOpAt at h
  unfold wpOpIn
  cases ho : ops[i]? with
  | none => rw [ho] at h; cases h
  | some o =>
    rw [ho] at h
    dsimp only at h ⊢
    rw [wanted_ok rf o]
    cases hw : wantedF ops fr o with
    | true =>
      rw [hw] at h
      simp only [cond_true] at h
      obtain ⟨v, s1, h1, h2⟩ := M.bind_some h
      cases M.pure_some h2
      rw [if_pos rfl]
      exact evOp_ok hpf hR h1 hF rf W next Q (fun τ v' w' h1 h2 h3 => hnext τ _ w' h1 ((rf.mono h1).put o.dst h2) h3)
    | false =>
      rw [hw] at h
      simp only [cond_false] at h
      cases M.pure_some h
      rw [if_neg (by simp)]
      exact ⟨fun f _ => hF.fn f, hnext σ _ w σ.le_refl (rf.put o.dst (undef_self σ)) W⟩

theorem evOpAt_round {pf : List (FuncId × Value)} {R : Run} {ops : Array Oper} {i : Nat} {fr fr' : Fr} {s s' : HS} (h : evOpAt P pf R ops fr i s = some (fr', s')) : fr'.round = fr.round := by
  unfold evOpAt at h
  cases ho : ops[i]? with
  | none => rw [ho] at h; cases h
  | some o =>
    rw [ho] at h
    dsimp only at h
    cases hw : wantedF ops fr o with
    | true =>
      rw [hw] at h
      obtain ⟨v, s1, h1, h2⟩ := M.bind_some h
      cases M.pure_some h2
      exact Fr.put_round _ _ _
    | false =>
      rw [hw] at h
      cases M.pure_some h
      exact Fr.put_round _ _ _

theorem evOps_ok {pf : List (FuncId × Value)} (hpf : Known P pf) {R : Run} (hR : SoundR P N0 w0 R) {ops : Array Oper} (hF : Wide F) : ∀ {l : List Nat} {fr fr' : Fr} {s s' : HS}, evOps P pf R ops l fr s = some (fr', s') → fr'.round = fr.round ∧
    ∀ (σ : Ren) (a : Act) (w : World) (Q : Exit → Act → World → Prop), FrR σ fr a → WR P N0 w0 σ s.h.get w → (∀ τ a' w', σ.le τ → FrR τ fr' a' → WR P N0 w0 τ s'.h.get w' → Q .normal a' w') → wpOpsIn F n P ops Q l a w
  | [], fr, fr', s, s', h => by
    cases M.pure_some h
    exact ⟨rfl, fun σ a w Q rf W K => K σ a w σ.le_refl rf W⟩
  | i :: l, fr, fr', s, s', h => by
    unfold evOps at h
    obtain ⟨fr1, s1, h1, h2⟩ := M.bind_some h
    obtain ⟨e2, k2⟩ := evOps_ok hpf hR hF h2
    refine ⟨e2.trans (evOpAt_round h1), fun σ a w Q rf W K => ?_⟩
    rw [wpOpsIn_cons]
    exact evOpAt_ok hpf hR h1 hF rf W fun τ a' w' hle rf' W' => k2 τ a' w' Q rf' W' fun υ a2 w2 hle2 => K υ a2 w2 (Ren.le_trans hle hle2)

end
end Go.Proofs.YtkiakphfgdkdiaaGreat
