/-
  An evaluator for closed calls: its word on calls.
-/
import Derived.Test.YtkiakphfgdkdiaaGreatEvV
namespace Go.Proofs.YtkiakphfgdkdiaaGreat
open Go Go.RowKit
set_option linter.unusedVariables false

section
variable {P : Program} {pf : List (FuncId × Value)} {R : Run} {N0 : Nat} {w0 : World} {F : Fence} {n : Nat}

theorem local_rangeFunc (hR : ∀ c fr, Local (R c fr)) (g : Operand) (ps : Array Tmp) (assign body : Code) (fr : Fr) : Local (rangeFuncM P pf R g ps assign body fr) := by
  unfold rangeFuncM
  repeat' (first
    | exact Local.fail
    | exact Local.pure _
    | exact Local.obj _
    | exact Local.put _ _
    | exact Local.new _
    | exact local_callM hR _ _
    | refine Local.bind ?_ (fun _ => ?_)
    | refine Local.cond ?_ ?_
    | split
    | dsimp only)

theorem local_step (hR : ∀ c fr, Local (R c fr)) (c : Code) (fr : Fr) : Local (evStep P pf R c fr) := by
  unfold evStep
  repeat' (first
    | exact Local.fail
    | exact Local.pure _
    | exact hR _ _
    | exact local_evOps hR _ _
    | exact local_draw hR _
    | exact local_rangeFunc hR _ _ _ _ _
    | refine Local.bind ?_ (fun _ => ?_)
    | refine Local.cond ?_ ?_
    | split
    | dsimp only)

theorem local_code : ∀ n c fr, Local (evCode P pf n c fr)
  | 0, _, _ => Local.fail
  | n + 1, c, fr => local_step (fun c fr => local_code n c fr) c fr

theorem rangeFunc_ok (hpf : Known P pf) (hR : SoundR P N0 w0 R) (hF : Wide F) {g : Operand} {ps : Array Tmp} {assign body : Code} {fr fr' : Fr} {e : Ex} {s s' : HS} (h : rangeFuncM P pf R g ps assign body fr s = some ((e, fr'), s')) :
    fr'.round = fr.round ∧ ∀ (σ : Ren) (a : Act) (w : World), (F.round = none ↔ fr.round = none) → FrR σ fr a → WR P N0 w0 σ s.h.get w → (Code.rangeFunc g ps assign body).wpIn F n P (Post P N0 w0 σ e fr' s') a w := by
  unfold rangeFuncM at h
  cases hrd : fr.round with
  | some l => rw [hrd] at h; cases h
  | none =>
  rw [hrd] at h
  dsimp only at h
  cases hg : fr.val g with
  | none => rw [hg] at h; cases h
  | some gv =>
  rw [hg] at h
  cases gv <;> try (cases h; done)
  rename_i fn first captured
  cases fn <;> try (cases h; done)
  rename_i f
  obtain ⟨first⟩ := first
  obtain ⟨captured⟩ := captured
  dsimp only at h
  obtain ⟨d, s1, h1, hh⟩ := M.bind_some h
  clear h; have h := hh; clear hh
  obtain ⟨l, s2, h2, hh⟩ := M.bind_some h
  clear h; have h := hh; clear hh
  obtain ⟨rv, s3, h3, hh⟩ := M.bind_some h
  clear h; have h := hh; clear hh
  obtain ⟨ob, s4, h4, hh⟩ := M.bind_some h
  clear h; have h := hh; clear hh
  cases ob <;> try (cases h; done)
  rename_i st pend sz T params as2 bo2 d2
  dsimp only at h
  have hst : st ≠ .busy ∧ ((mPut l (.loop .exhausted pend sz T params as2 bo2 d2)).bind fun _ =>
      match (match fr with | ⟨sz0, T0, marks0, round0⟩ => (⟨sz0, T0, d :: marks0, round0⟩ : Fr)) with
      | fr' => match pend with
        | none => M.pure (.normal, fr')
        | some (.exit id) => .pure (.exit id, fr')
        | some .ret => .pure (.ret, fr')
        | _ => .fail) s4 = some ((e, fr'), s') := by
    cases st <;> first | exact ⟨by simp, h⟩ | cases h
  obtain ⟨hst, h⟩ := hst
  obtain ⟨_, s5, h5, h6⟩ := M.bind_some h
  obtain ⟨fsz, fT, fmarks, fround⟩ := fr
  simp only at hrd
  subst hrd
  dsimp only at h6
  have hfr' : fr' = ⟨fsz, fT, d :: fmarks, none⟩ ∧ s' = s5 ∧ ((pend = none ∧ e = .normal) ∨ (∃ id, pend = some (.exit id) ∧ e = .exit id) ∨ (pend = some .ret ∧ e = .ret)) := by
    cases pend with
    | none => cases M.pure_some h6; exact ⟨rfl, rfl, .inl ⟨rfl, rfl⟩⟩
    | some c =>
      cases c <;> try (cases h6; done)
      · cases M.pure_some h6; exact ⟨rfl, rfl, .inr (.inl ⟨_, rfl, rfl⟩)⟩
      · cases M.pure_some h6; exact ⟨rfl, rfl, .inr (.inr ⟨rfl, rfl⟩)⟩
  obtain ⟨rfl, rfl, hpend⟩ := hfr'
  refine ⟨rfl, fun σ a w hro rf W => ?_⟩
  have hFr : F.round = none := hro.2 rfl
  have hv := rf.val hg
  refine wpIn_rangeFunc fun fnid _ => ?_
  generalize hev : a.eval g = gv' at hv
  cases hv with
  | fn _ _ _ xs' ys' k1 k2 k3 k4 =>
  -- the block, the record
  obtain ⟨τ1, hle1, hd, W1⟩ := new_ok h1 W (.deferred (some [])) 0 0 (fun τ hτ => trivial)
  have henter : (Instr.enterLoop fnid a.tmps ps assign body F.round).run P w = .ok (w.heap.size + 1, [{ target := .collected w.heap.size, args := #[] }])
      { w with heap := (w.heap.push (.deferred (some []))).push (.loop { state := .ready, pending := none, fn := fnid, tmps := a.tmps, params := ps, assign, body, defers := w.heap.size }) } := by
    rw [hFr]
    simp [Instr.enterLoop]
    rfl
  obtain ⟨τ2, hle2, hl, W2⟩ := new_ok h2 W1 (.loop { state := .ready, pending := none, fn := fnid, tmps := a.tmps, params := ps, assign, body, defers := w.heap.size }) 0 0
    (fun τ hτ => ⟨rfl, rfl, rf.tmps.mono (Ren.le_trans hle1 hτ), rfl, rfl, rfl, _, hτ _ _ hd, rfl⟩)
  have hszp : (w.heap.push (.deferred (some []))).size = w.heap.size + 1 := by simp
  simp only [hszp] at hl
  generalize hw2 : ({ w with heap := (w.heap.push (.deferred (some []))).push (.loop { state := .ready, pending := none, fn := fnid, tmps := a.tmps, params := ps, assign, body, defers := w.heap.size }) } : World) = w2 at henter
  have W2 : WR P N0 w0 τ2 s2.h.get w2 := by rw [← hw2]; exact W2
  generalize w.heap.size = B at henter hd hl
  have hyield : VR τ2 (.func (.yield l) #[] #[]) (.func (.yield (B + 1)) #[] #[]) := VR.yl (σ := τ2) l _ hl
  have hle12 := Ren.le_trans hle1 hle2
  have hall : LR τ2 (first ++ [.func (.yield l) #[] #[]] ++ captured) (xs'.toList ++ [.func (.yield (B + 1)) #[] #[]] ++ ys'.toList) :=
    LR.append (LR.append (LR.mono hle12 ⟨k1, k2⟩) (.cons hyield (.nil τ2))) (LR.mono hle12 ⟨k3, k4⟩)
  have hcall := callM_ok (n := n - 1) hpf hR h3 hF hFr hall W2
  have hfn : ∃ fn, P.funcs[f]? = some fn ∧ fn.body.isSome = true ∧ (fn.name == "runtime.NumGoroutine") = false := by
    cases hp : pinned pf f with
    | some u => exact (hpf f u (pinned_mem hp)).2.1
    | none =>
    unfold callM at h3
    rw [hp] at h3
    dsimp only at h3
    cases hfn : P.funcs[f]? with
    | none => rw [hfn] at h3; cases h3
    | some fn =>
      rw [hfn] at h3
      dsimp only at h3
      cases hb : fn.body with
      | none => rw [hb] at h3; cases h3
      | some c =>
        rw [hb] at h3
        dsimp only at h3
        cases hnm : (fn.name == "runtime.NumGoroutine") with
        | true => rw [hnm] at h3; cases h3
        | false => exact ⟨fn, rfl, by rw [hb]; rfl, hnm⟩
  obtain ⟨fnc, hf1, hf2, hf3⟩ := hfn
  have hnone : fnc.body.isNone = false := by cases hb : fnc.body with
    | none => rw [hb] at hf2; cases hf2
    | some c => rfl
  have hres : (resolve a.eval (rangeCall g (B + 1)) 0).run P w2 = .ok { target := .fn (.func f) ys', args := xs' ++ #[Value.func (Fn.yield (B + 1)) #[] #[]] } w2 := by
    have hmap : (#[.const (.func (.yield (B + 1)) #[] #[])] : Array Operand).map a.eval = #[Value.func (Fn.yield (B + 1)) #[] #[]] := by simp [Act.eval]
    show (Deferred.ofValue (a.eval g) ((#[.const (.func (.yield (B + 1)) #[] #[])] : Array Operand).map a.eval)).run P w2 = _
    rw [hmap, hev]
    simp [Deferred.ofValue]
  have hall' : (xs' ++ #[Value.func (Fn.yield (B + 1)) #[] #[]] ++ ys') = (xs'.toList ++ [Value.func (Fn.yield (B + 1)) #[] #[]] ++ ys'.toList).toArray := by apply Array.ext'; simp
  have hinv : (invoke (.fn (.func f) ys') (xs' ++ #[Value.func (Fn.yield (B + 1)) #[] #[]])).run P w2 = .ok (.enter f (xs'.toList ++ [Value.func (Fn.yield (B + 1)) #[] #[]] ++ ys'.toList).toArray) w2 := by
    simp only [invoke, callFunc, Sem.run_bind, run_program, Result.andThen_ok, hf1, hf3, Bool.false_eq_true, if_false, hnone, Sem.run_pure, hall']
  refine ⟨B + 1, [{ target := .collected B, args := #[] }], w2, { target := .fn (.func f) ys', args := xs' ++ #[Value.func (Fn.yield (B + 1)) #[] #[]] }, w2, f, (xs'.toList ++ [Value.func (Fn.yield (B + 1)) #[] #[]] ++ ys'.toList).toArray, w2, henter, hres, fun f' _ => hF.fn f', hinv, ?_, ?_⟩
  · intro e; rw [hF.depth] at e; cases e
  refine hcall.mono ?_
  · rintro x w3 ⟨v', rfl, τ3, hle3, _, W3⟩
    show ∃ jump w₄, _
    have hl3 := hle3 _ _ hl
    obtain ⟨e4, hg4, hN4, o4, ho4, hor4⟩ := obj_ok h4 W3 hl3 (by intro e; cases e)
    cases o4 <;> try (exact hor4.elim)
    rename_i q
    obtain ⟨q1, q2, q3, q4, q5, q6, ld, q7, q8⟩ := hor4
    have W4 : WR P N0 w0 τ3 s4.h.get w3 := by rw [e4]; exact W3
    have hg4' : s4.h.get l = some (.loop st pend sz T params as2 bo2 d2) := by rw [e4]; exact hg4
    have hlt := (Array.getElem?_eq_some_iff.1 ho4).1
    have W5 := put_ok (p' := .loop { q with state := .exhausted }) h5 W4 hl3 hg4' (by intro e; cases e) ⟨rfl, q2, q3, q4, q5, q6, ld, q7, q8⟩ (by intro e; cases e) hlt
    have hnb : (q.state == LoopState.busy) = false := by rw [q1]; cases st <;> first | rfl | exact absurd rfl hst
    refine ⟨q.pending, { w3 with heap := w3.heap.setIfInBounds (B + 1) (.loop { q with state := .exhausted }) }, ?_, ?_⟩
    · simp only [Instr.endLoop, Sem.run_bind, loop_run ho4, Result.andThen_ok, hnb, Bool.false_eq_true, if_false, setObj_run ho4 (by intro c e f h; cases h), Sem.run_pure]
    · have hle : σ.le τ3 := Ren.le_trans hle12 hle3
      have hpost : FrR τ3 ⟨fsz, fT, d :: fmarks, none⟩ { a with defers := [{ target := .collected B, args := #[] }] ++ a.defers } :=
        ⟨rf.tmps.mono hle, ⟨⟨_, hle3 _ _ (hle2 _ _ hd), rfl⟩, rf.defers.mono hle⟩⟩
      rw [q2] at W5 ⊢
      rcases hpend with ⟨rfl, rfl⟩ | ⟨id, rfl, rfl⟩ | ⟨rfl, rfl⟩
      · exact ⟨rfl, τ3, hle, hpost, W5⟩
      · exact wpIn_exit ⟨rfl, τ3, hle, hpost, W5⟩
      · exact wpIn_ret ⟨rfl, τ3, hle, hpost, W5⟩

theorem steps_inv {I : Machine → Prop} {X Y m : Machine} (h : StepsIn I P X m) (hs : step P X = .next Y) : m = X ∨ StepsIn I P Y m := by
  cases h with
  | refl => exact .inl rfl
  | head hI h1 h2 =>
    rw [hs] at h1
    injection h1 with e
    subst e
    exact .inr h2

theorem todo_ne {fr fr' : Frame} {cs cs' : List Frame} {w w' : World} (h : fr.todo ≠ fr'.todo) : lone fr cs w ≠ lone fr' cs' w' := by
  intro e
  have := congrArg (fun m : Machine => (m.gs[0]?).map (·.frame.todo)) e
  simp [lone] at this
  exact h this
theorem mode_ne {fr fr' : Frame} {cs cs' : List Frame} {w w' : World} (h : ¬ (fr.mode matches .run) = (fr'.mode matches .run)) : lone fr cs w ≠ lone fr' cs' w' := by
  intro e
  have := congrArg (fun m : Machine => (m.gs[0]?).map (fun g => (g.frame.mode matches .run : Bool))) e
  simp [lone] at this
  exact h (by simpa using this)

theorem exitTo_short (id : Nat) : ∀ (k k' : List Item), exitTo id k = some k' → k'.length < k.length
  | [], k', h => by simp [exitTo] at h
  | x :: k, k', h => by
    have ih := exitTo_short id k k'
    cases x <;> simp only [exitTo] at h <;> first
      | (have := ih h; simp; omega)
      | (split at h
         · cases h; simp
         · have := ih h; simp; omega)

theorem loop_unroll {b : Code} {Q : Exit → Act → World → Prop} {a : Act} {w : World} (hQ : ∀ e a w, Q e a w → e = .normal ∨ (∃ id, e = .exit id) ∨ e = .ret)
    (h : b.wpIn F n P (Exit.then ((Code.loop b).wpIn F n P Q) Q) a w) : (Code.loop b).wpIn F n P Q a w := by
  intro bf k cs hro hb hr
  obtain ⟨e, a1, w1, hq, harr⟩ := h bf (.inLoop b :: k) cs hro hb hr
  have hstart : StepsIn (Machine.fenced P F) P (lone (bf.atR a (.code (.loop b) :: k)) cs w) (lone (bf.atR a (.code b :: .inLoop b :: k)) cs w) :=
    .one (fenced_calm (fr := bf.atR a (.code (.loop b) :: k)) hb hr rfl) stepR_loop
  cases e with
  | normal =>
    obtain ⟨e2, a2, w2, hq2, harr2⟩ := hq bf k cs hro hb hr
    have conv : ∀ m', m' ≠ lone (bf.atR a1 (.code (.loop b) :: k)) cs w1 → StepsIn (Machine.fenced P F) P (lone (bf.atR a1 (.code (.loop b) :: k)) cs w1) m' →
        StepsIn (Machine.fenced P F) P (lone (bf.atR a (.code (.loop b) :: k)) cs w) m' := by
      intro m' hne hs
      rcases steps_inv hs stepR_loop with h1 | h1
      · exact absurd h1 hne
      · exact hstart.trans (StepsIn.trans harr (.head (fenced_calm (fr := bf.atR a1 (.inLoop b :: k)) hb hr rfl) stepR_inLoop h1))
    refine ⟨e2, a2, w2, hq2, ?_⟩
    rcases hQ _ _ _ hq2 with rfl | ⟨id, rfl⟩ | rfl
    · exact conv _ (todo_ne (by
        show k ≠ .code (.loop b) :: k
        intro e
        have := congrArg List.length e
        simp at this)) harr2
    · refine ⟨fun k' hk => conv _ (todo_ne ?_) (harr2.1 k' hk), fun hr' hk => ?_⟩
      · show k' ≠ .code (.loop b) :: k
        intro e
        have h1 := exitTo_short id k k' hk
        have h2 := congrArg List.length e
        simp at h2
        omega
      · obtain ⟨k₁, h1, h2⟩ := harr2.2 hr' hk
        exact ⟨k₁, h1, conv _ (todo_ne (by show Item.code (.exit id) :: k₁ ≠ .code (.loop b) :: k; intro e; cases e)) h2⟩
    · refine ⟨fun hr' => ?_, fun hr' => ?_⟩
      · obtain ⟨todo, h1⟩ := harr2.1 hr'
        exact ⟨todo, conv _ (mode_ne (by simp [Frame.atR])) h1⟩
      · obtain ⟨k₁, h1⟩ := harr2.2 hr'
        exact ⟨k₁, conv _ (todo_ne (by show Item.code .ret :: k₁ ≠ .code (.loop b) :: k; intro e; cases e)) h1⟩
  | exit id => exact ⟨_, a1, w1, hq, .of_steps hstart (.pass (x := .inLoop b) rfl (fun _ _ => .inl (by simp)) harr)⟩
  | goto l => exact ⟨_, a1, w1, hq, .of_steps hstart (.pass (x := .inLoop b) rfl (fun _ _ => .inl (by simp)) harr)⟩
  | ret => exact ⟨_, a1, w1, hq, .of_steps hstart (.pass (x := .inLoop b) rfl (fun _ _ => .inl (by simp)) harr)⟩
  | panic ch => exact ⟨_, a1, w1, hq, .of_steps hstart (.pass (x := .inLoop b) rfl (fun _ _ => .inl (by simp)) harr)⟩
  | outgrown => exact ⟨_, a1, w1, hq, .of_steps hstart (.pass (x := .inLoop b) rfl (fun _ _ => .inl (by simp)) harr)⟩

theorem post_ends {σ : Ren} {e : Ex} {fr' : Fr} {s' : HS} : ∀ x a w, Post P N0 w0 σ e fr' s' x a w → x = .normal ∨ (∃ id, x = .exit id) ∨ x = .ret := by
  rintro x a w ⟨rfl, _⟩
  cases e with
  | normal => exact .inl rfl
  | exit id => exact .inr (.inl ⟨id, rfl⟩)
  | ret => exact .inr (.inr rfl)

theorem sound_step (hmix : P.follows .mixedOrders = true) (hpf : Known P pf) (hR : SoundR P N0 w0 R) (hL : ∀ c fr, Local (R c fr)) : SoundR P N0 w0 (evStep P pf R) := by
  intro c fr s e fr' s' h
  have still : ∀ {e0 : Ex}, (M.pure (e0, fr) : M (Ex × Fr)) s = some ((e, fr'), s') → fr' = fr ∧ s' = s ∧ e = e0 := fun h => by cases h; exact ⟨rfl, rfl, rfl⟩
  cases c with
  | skip =>
    obtain ⟨rfl, rfl, rfl⟩ := still h
    exact ⟨rfl, fun F n σ a w hF hro rf W => wpIn_skip ⟨rfl, σ, σ.le_refl, rf, W⟩⟩
  | exit id =>
    obtain ⟨rfl, rfl, rfl⟩ := still h
    exact ⟨rfl, fun F n σ a w hF hro rf W => wpIn_exit ⟨rfl, σ, σ.le_refl, rf, W⟩⟩
  | ret =>
    obtain ⟨rfl, rfl, rfl⟩ := still h
    exact ⟨rfl, fun F n σ a w hF hro rf W => wpIn_ret ⟨rfl, σ, σ.le_refl, rf, W⟩⟩
  | seq x y =>
    obtain ⟨⟨e1, fr1⟩, s1, h1, h2⟩ := M.bind_some h
    dsimp only at h2
    obtain ⟨r1, k1⟩ := hR _ _ _ _ _ _ h1
    cases e1 with
    | normal =>
      obtain ⟨r2, k2⟩ := hR _ _ _ _ _ _ h2
      refine ⟨r2.trans r1, fun F n σ a w hF hro rf W => wpIn_seq (wpIn_mono (k1 F n σ a w hF hro rf W) ?_)⟩
      rintro x a1 w1 ⟨rfl, τ, hle, rf1, W1⟩
      exact wpIn_mono (k2 F n τ a1 w1 hF (by rw [r1]; exact hro) rf1 W1) fun x a2 w2 ⟨e2, υ, hle2, h3, h4⟩ => ⟨e2, υ, Ren.le_trans hle hle2, h3, h4⟩
    | exit id =>
      cases M.pure_some h2
      refine ⟨r1, fun F n σ a w hF hro rf W => wpIn_seq (wpIn_mono (k1 F n σ a w hF hro rf W) ?_)⟩
      rintro x a1 w1 ⟨rfl, hh⟩
      exact ⟨rfl, hh⟩
    | ret =>
      cases M.pure_some h2
      refine ⟨r1, fun F n σ a w hF hro rf W => wpIn_seq (wpIn_mono (k1 F n σ a w hF hro rf W) ?_)⟩
      rintro x a1 w1 ⟨rfl, hh⟩
      exact ⟨rfl, hh⟩
  | cond x a b =>
    unfold evStep at h
    dsimp only at h
    cases hv : fr.val x with
    | none => rw [hv] at h; cases h
    | some v =>
      rw [hv] at h
      cases v <;> try (cases h; done)
      rename_i t
      have bool : ∀ {σ : Ren} {ac : Act}, FrR σ fr ac → ac.eval x = .bool t := by
        intro σ ac rf
        have := rf.val hv
        generalize ac.eval x = u at this
        cases this
        rfl
      cases t with
      | true =>
        obtain ⟨r, k⟩ := hR _ _ _ _ _ _ h
        exact ⟨r, fun F n σ a w hF hro rf W => wpIn_cond_true (bool rf) (k F n σ a w hF hro rf W)⟩
      | false =>
        obtain ⟨r, k⟩ := hR _ _ _ _ _ _ h
        exact ⟨r, fun F n σ a w hF hro rf W => wpIn_cond_false (bool rf) (k F n σ a w hF hro rf W)⟩
  | block id b =>
    obtain ⟨⟨e1, fr1⟩, s1, h1, h2⟩ := M.bind_some h
    dsimp only at h2
    obtain ⟨r1, k1⟩ := hR _ _ _ _ _ _ h1
    cases e1 with
    | normal =>
      cases M.pure_some h2
      refine ⟨r1, fun F n σ a w hF hro rf W => wpIn_block (wpIn_mono (k1 F n σ a w hF hro rf W) ?_)⟩
      rintro x a1 w1 ⟨rfl, hh⟩
      exact ⟨rfl, hh⟩
    | ret =>
      cases M.pure_some h2
      refine ⟨r1, fun F n σ a w hF hro rf W => wpIn_block (wpIn_mono (k1 F n σ a w hF hro rf W) ?_)⟩
      rintro x a1 w1 ⟨rfl, hh⟩
      exact ⟨rfl, hh⟩
    | exit j =>
      cases hb : Nat.beq j id with
      | true =>
        dsimp only at h2
        rw [hb] at h2
        cases M.pure_some h2
        have hj := Nat.eq_of_beq_eq_true hb
        refine ⟨r1, fun F n σ a w hF hro rf W => wpIn_block (wpIn_mono (k1 F n σ a w hF hro rf W) ?_)⟩
        rintro x a1 w1 ⟨rfl, hh⟩
        show (if j = id then _ else _)
        rw [if_pos hj]
        exact ⟨rfl, hh⟩
      | false =>
        dsimp only at h2
        rw [hb] at h2
        cases M.pure_some h2
        have hj := beq_false_ne hb
        refine ⟨r1, fun F n σ a w hF hro rf W => wpIn_block (wpIn_mono (k1 F n σ a w hF hro rf W) ?_)⟩
        rintro x a1 w1 ⟨rfl, hh⟩
        show (if j = id then _ else _)
        rw [if_neg hj]
        exact ⟨rfl, hh⟩
  | loop b =>
    obtain ⟨⟨e1, fr1⟩, s1, h1, h2⟩ := M.bind_some h
    dsimp only at h2
    obtain ⟨r1, k1⟩ := hR _ _ _ _ _ _ h1
    cases e1 with
    | normal =>
      obtain ⟨r2, k2⟩ := hR _ _ _ _ _ _ h2
      refine ⟨r2.trans r1, fun F n σ a w hF hro rf W => loop_unroll post_ends (wpIn_mono (k1 F n σ a w hF hro rf W) ?_)⟩
      rintro x a1 w1 ⟨rfl, τ, hle, rf1, W1⟩
      exact wpIn_mono (k2 F n τ a1 w1 hF (by rw [r1]; exact hro) rf1 W1) fun x a2 w2 ⟨e2, υ, hle2, h3, h4⟩ => ⟨e2, υ, Ren.le_trans hle hle2, h3, h4⟩
    | exit id =>
      cases M.pure_some h2
      refine ⟨r1, fun F n σ a w hF hro rf W => loop_unroll post_ends (wpIn_mono (k1 F n σ a w hF hro rf W) ?_)⟩
      rintro x a1 w1 ⟨rfl, hh⟩
      exact ⟨rfl, hh⟩
    | ret =>
      cases M.pure_some h2
      refine ⟨r1, fun F n σ a w hF hro rf W => loop_unroll post_ends (wpIn_mono (k1 F n σ a w hF hro rf W) ?_)⟩
      rintro x a1 w1 ⟨rfl, hh⟩
      exact ⟨rfl, hh⟩
  | region id ops draw =>
    cases draw with
    | false =>
      obtain ⟨fr1, s1, h1, h2⟩ := M.bind_some h
      cases M.pure_some h2
      have hw : Wide Fence.wide := ⟨fun _ => trivial, rfl⟩
      refine ⟨(evOps_ok (n := 0) hpf hR hw h1).1, fun F n σ a w hF hro rf W => wpIn_region ?_⟩
      exact (evOps_ok hpf hR hF h1).2 σ a w _ rf W fun τ a' w' hle rf' W' => ⟨rfl, τ, hle, rf', W'⟩
    | true =>
      obtain ⟨fr1, s1, h1, h2⟩ := M.bind_some h
      cases M.pure_some h2
      exact ⟨drawM_round h1, fun F n σ a w hF hro rf W => drawM_ok hmix hpf hR hL hF h1 rf W⟩
  | rangeFunc g ps assign body =>
    have hw : Wide Fence.wide := ⟨fun _ => trivial, rfl⟩
    exact ⟨(rangeFunc_ok (n := 0) hpf hR hw h).1, fun F n σ a w hF hro rf W => (rangeFunc_ok hpf hR hF h).2 σ a w hro rf W⟩
  | scope b => cases h
  | label l => cases h
  | goto l => cases h
  | refuse y => cases h

theorem sound_code (hmix : P.follows .mixedOrders = true) (hpf : Known P pf) : ∀ n, SoundR P N0 w0 (evCode P pf n)
  | 0 => fun c fr s e fr' s' h => by cases h
  | n + 1 => sound_step hmix hpf (sound_code hmix hpf n) (local_code n)

/-- **The evaluator's word on a call is the model's.** -/
theorem evCall_ok (hmix : P.follows .mixedOrders = true) (hpf : Known P pf) {fuel : Nat} {f : FuncId} {v : Value} {s' : HS} (h : evCall P pf fuel f [] = some (v, s')) {d : Nat} (hv : plainD d v = true) (hF : Wide F) (hro : F.round = none) (w : World) :
    CallsIn F n P f #[] w fun x w' => x = .returned v ∧ Below w.heap.size w w' := by
  have W : WR P w.heap.size w (fun _ => none) (Tri.nil : Tri AObj).get w :=
    ⟨Below.refl _ _, Nat.le_refl _, fun _ _ e => (by cases e), fun _ _ e => (by cases e), fun _ _ _ _ e => (by cases e)⟩
  have := callM_ok (n := n) hpf (sound_code hmix hpf fuel) h hF hro (LR.nil _) W
  refine this.mono ?_
  rintro x w' ⟨v', rfl, τ, _, hr, hW⟩
  exact ⟨by rw [plain_eq hv hr], hW.below⟩

theorem known_nil : Known P [] := fun _ _ h => by cases h
theorem known_cons {f : FuncId} {v : Value} (hmix : P.follows .mixedOrders = true) (hpf : Known P pf) {fuel : Nat} {s' : HS} (h : evCall P pf fuel f [] = some (v, s')) {d : Nat} (hv : plainD d v = true)
    (hfn : ∃ fn, P.funcs[f]? = some fn ∧ fn.body.isSome = true ∧ (fn.name == "runtime.NumGoroutine") = false) : Known P ((f, v) :: pf) := by
  intro g u hm
  rcases List.mem_cons.1 hm with e | hm
  · cases e
    exact ⟨⟨d, hv⟩, hfn, fun F n w hF hro => evCall_ok hmix hpf h hv hF hro w⟩
  · exact hpf g u hm

end
end Go.Proofs.YtkiakphfgdkdiaaGreat
