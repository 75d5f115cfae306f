/-
  An evaluator for closed calls: calls and rounds.
-/
import Derived.Test.YtkiakphfgdkdiaaGreatEvQ
namespace Go.Proofs.YtkiakphfgdkdiaaGreat
open Go Go.RowKit
set_option linter.unusedVariables false

def Ex.toExit : Ex → Exit
  | .normal => .normal
  | .exit id => .exit id
  | .ret => .ret

section
variable {P : Program} {N0 : Nat} {w0 : World} {σ : Ren} {w : World} {F : Fence} {n : Nat}

/-- What is so behind code. -/
def Post (P : Program) (N0 : Nat) (w0 : World) (σ : Ren) (e : Ex) (fr' : Fr) (s' : HS) : Exit → Act → World → Prop :=
  fun x a w => x = e.toExit ∧ ∃ τ, σ.le τ ∧ FrR τ fr' a ∧ WR P N0 w0 τ s'.h.get w

/-- The evaluator's word on code is the model's. -/
def SoundR (P : Program) (N0 : Nat) (w0 : World) (R : Run) : Prop :=
  ∀ c fr s e fr' s', R c fr s = some ((e, fr'), s') → fr'.round = fr.round ∧
    ∀ F n σ a w, Wide F → (F.round = none ↔ fr.round = none) → FrR σ fr a → WR P N0 w0 σ s.h.get w → c.wpIn F n P (Post P N0 w0 σ e fr' s') a w

/-- What is so behind a call. -/
def Back (P : Program) (N0 : Nat) (w0 : World) (σ : Ren) (v : Value) (s' : HS) : Ending → World → Prop :=
  fun x w' => ∃ v', x = .returned v' ∧ ∃ τ, σ.le τ ∧ VR τ v v' ∧ WR P N0 w0 τ s'.h.get w'

/-- Functions without arguments whose value is known. -/
def Known (P : Program) (pf : List (FuncId × Value)) : Prop :=
  ∀ f v, (f, v) ∈ pf → (∃ d, plainD d v = true) ∧ (∃ fn, P.funcs[f]? = some fn ∧ fn.body.isSome = true ∧ (fn.name == "runtime.NumGoroutine") = false) ∧ ∀ F n w, Wide F → F.round = none → CallsIn F n P f #[] w fun x w' => x = .returned v ∧ Below w.heap.size w w'

theorem pinned_mem : ∀ {pf : List (FuncId × Value)} {f : FuncId} {v : Value}, pinned pf f = some v → (f, v) ∈ pf
  | [], f, v, h => by cases h
  | (g, u) :: l, f, v, h => by
    unfold pinned at h
    cases hb : Nat.beq f g with
    | true =>
      rw [hb] at h
      have := Nat.eq_of_beq_eq_true hb
      subst this
      cases h
      simp
    | false => rw [hb] at h; exact List.mem_cons_of_mem _ (pinned_mem h)

theorem WR.grow {f : HF} {w' : World} (h : WR P N0 w0 σ f w) (hb : Below w.heap.size w w') : WR P N0 w0 σ f w' := by
  refine ⟨h.below.trans (hb.mono h.base), Nat.le_trans h.base hb.size, h.dom, fun m q e => ?_, h.inj⟩
  rcases h.live m q e with e1 | ⟨l, q', h1, h2, h3, h4⟩
  · exact .inl e1
  · exact .inr ⟨l, q', h1, h2, by rw [hb.block l.b (Array.getElem?_eq_some_iff.1 h3).1]; exact h3, h4⟩

theorem layTmps_get : ∀ (vs : List Value) (i : Nat) (T : Tri Value) (j : Nat), tmpOf (layTmps vs i T) j = if i ≤ j ∧ j < i + vs.length then (vs[j - i]?).getD undef else tmpOf T j
  | [], i, T, j => by
    unfold layTmps
    rw [if_neg (by simp only [List.length_nil]; omega)]
  | v :: vs, i, T, j => by
    unfold layTmps
    rw [layTmps_get vs (i + 1) (T.set i v) j]
    simp only [List.length_cons]
    by_cases h : i + 1 ≤ j ∧ j < i + 1 + vs.length
    · rw [if_pos h, if_pos (by omega), show j - i = (j - (i + 1)) + 1 by omega, List.getElem?_cons_succ]
    · rw [if_neg h]
      by_cases h2 : j = i
      · subst h2
        rw [if_pos (by omega)]
        unfold tmpOf
        rw [Tri.get_set]
        simp
      · rw [if_neg (by omega)]
        unfold tmpOf
        rw [Tri.get_set, if_neg h2]

theorem enter_TR {args args' : List Value} (r : LR σ args args') (m : Nat) : TR σ (args.length + (m - args.length)) (layTmps args 0 .nil) (args'.toArray ++ Array.replicate (m - args'.length) undef) := by
  refine ⟨by simp [r.1], fun i => ?_⟩
  rw [layTmps_get]
  have hnil : tmpOf (Tri.nil : Tri Value) i = undef := rfl
  by_cases h : i < args.length
  · rw [if_pos (by omega)]
    have hx := List.getElem?_eq_getElem h
    obtain ⟨y, hy, hr⟩ := r.get hx
    have h' : i < args'.length := by rw [← r.1]; exact h
    have e2 : (args'.toArray ++ Array.replicate (m - args'.length) undef).getD i undef = y := by
      rw [Array.getD_eq_getD_getElem?, Array.getElem?_append_left (by simpa using h')]
      simp [hy]
    rw [e2]
    simp only [Nat.sub_zero, hx, Option.getD_some]
    exact hr
  · rw [if_neg (by omega), hnil]
    have e2 : (args'.toArray ++ Array.replicate (m - args'.length) undef).getD i undef = undef := by
      rw [Array.getD_eq_getD_getElem?, Array.getElem?_append_right (by simp; rw [← r.1]; omega)]
      simp only [Array.getElem?_replicate]
      split <;> rfl
    rw [e2]
    exact undef_self σ

/-- A result's value. -/
def resF (tmps : Array Value) : ResultVar → Sem Value
  | .tmp t => pure (tmps.getD t undef)
  | .cell x t => do loadVar t (← asAddr (tmps.getD x undef))

theorem results_ok {fr : Fr} {a : Act} (rf : FrR σ fr a) : ∀ {rs : List ResultVar} {s s' : HS} {vs : List Value}, resultM P fr rs s = some (vs, s') → WR P N0 w0 σ s.h.get w →
    s'.h = s.h ∧ ∃ vs', (rs.mapM (resF a.tmps) : Sem (List Value)).run P w = .ok vs' w ∧ LR σ vs vs'
  | [], s, s', vs, h, W => by
    cases M.pure_some h
    exact ⟨rfl, [], by simp, .nil σ⟩
  | .tmp t :: rs, s, s', vs, h, W => by
    unfold resultM at h
    obtain ⟨us, s1, h1, h2⟩ := M.bind_some h
    cases M.pure_some h2
    obtain ⟨e1, vs', h3, h4⟩ := results_ok rf h1 W
    refine ⟨e1, _ :: vs', ?_, .cons (rf.tmp t) h4⟩
    simp only [List.mapM_cons, resF, Sem.run_bind, Sem.run_pure, Result.andThen_ok, h3]
  | .cell x t :: rs, s, s', vs, h, W => by
    unfold resultM at h
    obtain ⟨v, s1, h1, h⟩ := M.bind_some h
    obtain ⟨us, s2, h2, h3⟩ := M.bind_some h
    cases M.pure_some h3
    obtain ⟨e1, v', h4, h5⟩ := load_still (rf.tmp x) h1 W
    have W1 : WR P N0 w0 σ s1.h.get w := by rw [e1]; exact W
    obtain ⟨e2, vs', h6, h7⟩ := results_ok rf h2 W1
    refine ⟨by rw [e2, e1], v' :: vs', ?_, .cons h5 h7⟩
    have h4' : (do loadVar t (← asAddr (a.tmps.getD x undef)) : Sem Value).run P w = .ok v' w := by
      unfold Instr.loadAt at h4
      simp only [Sem.run_bind] at h4 ⊢
      cases hx : a.tmps.getD x undef with
      | pointer p =>
        rw [hx] at h4
        cases p with
        | none => simp [Instr.sureAddr] at h4
        | some p => simpa [Instr.sureAddr, asAddr] using h4
      | _ => rw [hx] at h4; simp [Instr.sureAddr] at h4
    simp only [List.mapM_cons, resF, Sem.run_bind] at h4' ⊢
    simp only [h4', h6, Result.andThen_ok, Sem.run_pure]

theorem leave_ok {fn : Func} {tmps : Array Value} {R' : Ending → World → Prop} : ∀ {ms : List Nat} {ds : List Deferred} {s s' : HS} {w : World}, leaveM ms s = some ((), s') → DR σ ms ds → WR P N0 w0 σ s.h.get w →
    (∀ w', WR P N0 w0 σ s'.h.get w' → LeavesIn F n P fn tmps R' [] .returning w') → LeavesInM F n P fn tmps R' ds .returning w
  | [], [], s, s', w, h, _, W, K => by
    cases M.pure_some h
    exact K w W
  | m :: ms, d :: ds, s, s', w, h, ⟨⟨l, hl, hd⟩, hr⟩, W, K => by
    unfold leaveM at h
    obtain ⟨ob, s1, h1, h⟩ := M.bind_some h
    cases ob <;> try (cases h; done)
    obtain ⟨_, s2, h2, h3⟩ := M.bind_some h
    obtain ⟨e1, hg, hN, o', ho', hor⟩ := obj_ok h1 W hl (by intro e; cases e)
    have hg1 : s1.h.get m = some .marks := by rw [e1]; exact hg
    have W1 : WR P N0 w0 σ s1.h.get w := by rw [e1]; exact W
    cases o' <;> try (exact hor.elim)
    rename_i cs
    cases cs with
    | none => exact hor.elim
    | some cs => cases cs with
      | cons _ _ => exact hor.elim
      | nil =>
        have hlt : l.b < w.heap.size := (Array.getElem?_eq_some_iff.1 ho').1
        rw [mPut_eq, hg1] at h2
        cases h2
        obtain ⟨W2, _⟩ := W1.killW hg1 (by intro e; cases e) hl (w' := { w with heap := w.heap.setIfInBounds l.b (.deferred none) }) rfl rfl rfl (by simp) (fun k hk => by simp [Array.getElem?_setIfInBounds_ne (Ne.symm hk)])
        refine ⟨by simp, .inl ⟨l.b, { w with heap := w.heap.setIfInBounds l.b (.deferred none) }, by rw [hd], ?_, ?_⟩⟩
        · simp only [Instr.takeDeferred, Sem.run_bind, getObj_run ho' (by intro c e f h; cases h), Result.andThen_ok, setObj_run ho' (by intro c e f h; cases h), Sem.run_pure]
        · exact leave_ok h3 hr (W2.congr (fun q => by simp only [Tri.get_set])) K
  | [], _ :: _, _, _, _, _, hr, _, _ => hr.elim
  | _ :: _, [], _, _, _, _, hr, _, _ => hr.elim

theorem callM_ok {pf : List (FuncId × Value)} (hpf : Known P pf) {R : Run} (hR : SoundR P N0 w0 R) {f : FuncId} {args args' : List Value} {s s' : HS} {v : Value} (h : callM P pf R f args s = some (v, s')) (hF : Wide F)
    (hro : F.round = none) (r : LR σ args args') (W : WR P N0 w0 σ s.h.get w) : CallsIn F n P f args'.toArray w (Back P N0 w0 σ v s') := by
  unfold callM at h
  cases hp : pinned pf f with
  | some u =>
    rw [hp] at h
    cases args with
    | cons _ _ => cases h
    | nil =>
      cases M.pure_some h
      have := r.nil_inv
      subst this
      obtain ⟨⟨d, hd⟩, _, hc⟩ := hpf f v (pinned_mem hp)
      exact (hc F n w hF hro).mono fun x w' ⟨hx, hb⟩ => ⟨v, hx, σ, σ.le_refl, plain_self σ hd, W.grow hb⟩
  | none =>
    rw [hp] at h
    dsimp only at h
    cases hfn : P.funcs[f]? with
    | none => rw [hfn] at h; cases h
    | some fn =>
    rw [hfn] at h
    dsimp only at h
    cases hb : fn.body with
    | none => rw [hb] at h; cases h
    | some c =>
    rw [hb] at h
    dsimp only at h
    cases hnm : (fn.name == "runtime.NumGoroutine") with
    | true => rw [hnm] at h; cases h
    | false =>
    rw [hnm] at h
    simp only [cond_false] at h
    obtain ⟨⟨e, fr'⟩, s1, h1, hh⟩ := M.bind_some h
    clear h
    have h := hh
    clear hh
    dsimp only at h
    obtain ⟨hrd, hwp⟩ := hR _ _ _ _ _ _ h1
    have hbody := hwp F n σ { tmps := args'.toArray ++ Array.replicate (fn.ntmps - args'.toArray.size) undef, defers := [] } w hF ⟨fun _ => rfl, fun _ => hro⟩
      ⟨by simpa using enter_TR r fn.ntmps, trivial⟩ W
    refine callsIn_of_wp_marks hfn hb (hF.fn f) (wpIn_mono hbody ?_) hro
    rintro x a' w' ⟨rfl, τ, hle, hfr, hW⟩
    have h : (leaveM fr'.marks).bind (fun _ => (resultM P fr' fn.results.toList).bind fun
        | [v] => M.pure v
        | vs => M.pure (.tuple ⟨vs⟩)) s1 = some (v, s') := by cases e <;> first | exact h | cases h
    have key : LeavesInM F n P fn a'.tmps (Back P N0 w0 σ v s') a'.defers .returning w' := by
      obtain ⟨_, s2, h2, h3⟩ := M.bind_some h
      obtain ⟨vs, s3, h4, h5⟩ := M.bind_some h3
      refine leave_ok h2 hfr.defers hW fun w2 W2 => ?_
      obtain ⟨e1, vs', h6, h7⟩ := results_ok hfr h4 W2
      have hres : (results fn a'.tmps).run P w2 = .ok (if h : vs'.length = 1 then vs'[0] else .tuple ⟨vs'⟩) w2 := by
        have hre : results fn a'.tmps = (do let vs ← fn.results.mapM (resF a'.tmps); pure (if h : vs.size = 1 then vs[0] else .tuple vs)) := rfl
        rw [hre]
        simp only [Array.mapM_eq_mapM_toList, Sem.run_bind, Sem.run_map]
        rw [h6]
        simp only [Result.andThen_ok, Sem.run_pure]
        congr 1
      refine ⟨_, hres, _, rfl, τ, hle, ?_, ?_⟩
      · cases vs with
        | nil =>
          cases M.pure_some h5
          have := h7.nil_inv
          subst this
          exact .tup _ _ rfl (fun i x y hx => by simp at hx)
        | cons u l =>
          cases l with
          | nil =>
            cases M.pure_some h5
            obtain ⟨y, ys, rfl, hy, hys⟩ := h7.cons_inv
            have := hys.nil_inv
            subst this
            simpa using hy
          | cons u2 l =>
            cases M.pure_some h5
            have hl : ¬ vs'.length = 1 := by rw [← h7.1]; simp
            rw [dif_neg hl]
            exact .tup _ _ h7.1 h7.2
      · have : s' = s3 := by
          cases vs with
          | nil => cases M.pure_some h5; rfl
          | cons u l => cases l with
            | nil => cases M.pure_some h5; rfl
            | cons u2 l => cases M.pure_some h5; rfl
        rw [this, e1]
        exact W2
    cases e with
    | normal => exact key
    | ret => exact key
    | exit id => cases h

end
end Go.Proofs.YtkiakphfgdkdiaaGreat
