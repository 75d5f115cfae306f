/-
  An evaluator for closed calls: what does not clash may be done in any order.
-/
import Derived.Test.YtkiakphfgdkdiaaGreatEvS
namespace Go.Proofs.YtkiakphfgdkdiaaGreat
open Go Go.RowKit
set_option linter.unusedVariables false

/-! ### Trees -/
theorem Tri.setF_nil {α : Type} (x : α) (f n : Nat) : Tri.setF x (f + 1) .nil n = Tri.setF x (f + 1) (.node .nil none .nil) n := rfl

theorem Tri.setF_node {α : Type} (x : α) (f n : Nat) (l : Tri α) (v : Option α) (r : Tri α) : Tri.setF x (f + 1) (.node l v r) n =
    if n = 0 then .node l (some x) r else if n % 2 = 1 then .node (Tri.setF x f l ((n - 1) / 2)) v r else .node l v (Tri.setF x f r ((n - 1) / 2)) := by
  show cond (Nat.beq n 0) _ (cond (Nat.beq (Nat.mod n 2) 1) _ _) = _
  have hd : Nat.div (Nat.sub n 1) 2 = (n - 1) / 2 := rfl
  have hm : Nat.mod n 2 = n % 2 := rfl
  rw [hd, hm]
  by_cases h : n = 0
  · rw [beq_true h, if_pos h]; rfl
  · rw [beq_false h, if_neg h]
    by_cases h2 : n % 2 = 1
    · rw [beq_true h2, if_pos h2]; rfl
    · rw [beq_false h2, if_neg h2]; rfl

theorem Tri.set_comm_aux {α : Type} (x y : α) : ∀ (f g : Nat) (t : Tri α) (a b : Nat), a < f → b < g → a ≠ b → Tri.setF y g (Tri.setF x f t a) b = Tri.setF x f (Tri.setF y g t b) a := by
  intro f
  induction f with
  | zero => intro g t a b h; omega
  | succ f ih =>
    intro g t a b ha hb hne
    cases g with
    | zero => omega
    | succ g =>
      have key : ∀ (l : Tri α) (v : Option α) (r : Tri α), Tri.setF y (g + 1) (Tri.setF x (f + 1) (.node l v r) a) b = Tri.setF x (f + 1) (Tri.setF y (g + 1) (.node l v r) b) a := by
        intro l v r
        rw [Tri.setF_node x, Tri.setF_node y]
        by_cases ha0 : a = 0
        · have hb0 : ¬ b = 0 := by omega
          rw [if_pos ha0, if_neg hb0, Tri.setF_node y, if_neg hb0]
          by_cases hb1 : b % 2 = 1
          · rw [if_pos hb1, if_pos hb1, Tri.setF_node x, if_pos ha0]
          · rw [if_neg hb1, if_neg hb1, Tri.setF_node x, if_pos ha0]
        · rw [if_neg ha0]
          by_cases hb0 : b = 0
          · rw [if_pos hb0]
            rw [Tri.setF_node x, if_neg ha0]
            by_cases ha1 : a % 2 = 1
            · rw [if_pos ha1, if_pos ha1, Tri.setF_node y, if_pos hb0]
            · rw [if_neg ha1, if_neg ha1, Tri.setF_node y, if_pos hb0]
          · rw [if_neg hb0]
            by_cases ha1 : a % 2 = 1
            · rw [if_pos ha1]
              by_cases hb1 : b % 2 = 1
              · rw [if_pos hb1, Tri.setF_node y, if_neg hb0, if_pos hb1, Tri.setF_node x, if_neg ha0, if_pos ha1, ih g l _ _ (by omega) (by omega) (by omega)]
              · rw [if_neg hb1, Tri.setF_node y, if_neg hb0, if_neg hb1, Tri.setF_node x, if_neg ha0, if_pos ha1]
            · rw [if_neg ha1]
              by_cases hb1 : b % 2 = 1
              · rw [if_pos hb1, Tri.setF_node y, if_neg hb0, if_pos hb1, Tri.setF_node x, if_neg ha0, if_neg ha1]
              · rw [if_neg hb1, Tri.setF_node y, if_neg hb0, if_neg hb1, Tri.setF_node x, if_neg ha0, if_neg ha1, ih g r _ _ (by omega) (by omega) (by omega)]
      cases t with
      | node l v r => exact key l v r
      | nil => rw [Tri.setF_nil x, Tri.setF_nil y]; exact key _ _ _

theorem Tri.set_comm {α : Type} (t : Tri α) (a b : Nat) (x y : α) (h : a ≠ b) : (t.set a x).set b y = (t.set b y).set a x :=
  Tri.set_comm_aux x y (a + 1) (b + 1) t a b (Nat.lt_succ_self a) (Nat.lt_succ_self b) h

theorem Fr.put_comm (fr : Fr) {d e : Option Tmp} (v u : Value) (h : ∀ x, d = some x → e ≠ some x) : (fr.put d v).put e u = (fr.put e u).put d v := by
  obtain ⟨sz, T, marks, round⟩ := fr
  cases d with
  | none => rfl
  | some d =>
    cases e with
    | none => rfl
    | some e =>
      have hne : d ≠ e := fun x => h d rfl (by rw [x])
      simp only [Fr.put]
      cases h1 : Nat.blt d sz <;> cases h2 : Nat.blt e sz <;> simp [h1, h2, cond_true, cond_false]
      exact Tri.set_comm T d e v u hne

theorem Fr.tmp_put (fr : Fr) {d : Option Tmp} (v : Value) (t : Nat) (h : d ≠ some t) : (fr.put d v).tmp t = fr.tmp t := by
  obtain ⟨sz, T, marks, round⟩ := fr
  cases d with
  | none => rfl
  | some d =>
    have hne : t ≠ d := fun x => h (by rw [x])
    simp only [Fr.put]
    cases Nat.blt d sz with
    | false => rfl
    | true =>
      show (match (T.set d v).get t with | some v => v | none => undef) = _
      rw [Tri.get_set, if_neg hne]
      rfl

/-! ### An operation looks at its own temporaries alone -/
section
variable {P : Program}

theorem val_congr {fr gr : Fr} {x : Operand} (h : ∀ t, x = .tmp t → fr.tmp t = gr.tmp t) : fr.val x = gr.val x ∧ fr.raw x = gr.raw x := by
  cases x with
  | tmp t => have := h t rfl; simp [Fr.val, Fr.raw, this]
  | _ => exact ⟨rfl, rfl⟩

theorem vals_congr {fr gr : Fr} : ∀ {l : List Operand}, (∀ x ∈ l, fr.val x = gr.val x) → fr.vals l = gr.vals l
  | [], _ => rfl
  | x :: l, h => by
    unfold Fr.vals
    rw [h x (by simp), vals_congr (fun y hy => h y (by simp [hy]))]
theorem parts_congr {fr gr : Fr} : ∀ {l : List (Nat × Operand)}, (∀ p ∈ l, fr.val p.2 = gr.val p.2) → partsOf fr l = partsOf gr l
  | [], _ => rfl
  | (i, x) :: l, h => by
    unfold partsOf
    rw [h (i, x) (by simp), parts_congr (fun y hy => h y (by simp [hy]))]
theorem plainAll_congr {fr gr : Fr} : ∀ {l : List Operand}, (∀ x ∈ l, fr.raw x = gr.raw x) → plainAll fr l = plainAll gr l
  | [], _ => rfl
  | x :: l, h => by
    unfold plainAll
    rw [h x (by simp), plainAll_congr (fun y hy => h y (by simp [hy]))]
theorem opPure_congr {fr gr : Fr} {o : Oper} (hs : ∀ cs b, o.op ≠ .select cs b) (h : ∀ x ∈ o.op.operands, fr.raw x = gr.raw x) : opPure P fr o = opPure P gr o := by
  unfold opPure
  rw [plainAll_congr (fun x hx => h x (by simpa using hx)), execOp_congr o hs h]
theorem bound_congr {fr gr : Fr} {x : Option Operand} (h : ∀ y, x = some y → fr.val y = gr.val y) : boundOf fr x = boundOf gr x := by
  unfold boundOf
  cases x with
  | none => rfl
  | some y => simp only [h y rfl]

theorem evOp_congr {pf : List (FuncId × Value)} {R : Run} {fr gr : Fr} {o : Oper} (h : ∀ t, Operand.tmp t ∈ o.op.operands → fr.tmp t = gr.tmp t) : evOp P pf R fr o = evOp P pf R gr o := by
  have hv : ∀ x ∈ o.op.operands, fr.val x = gr.val x := fun x hx => (val_congr fun t e => h t (e ▸ hx)).1
  have hr : ∀ x ∈ o.op.operands, fr.raw x = gr.raw x := fun x hx => (val_congr fun t e => h t (e ▸ hx)).2
  have hp : (∀ cs b, o.op ≠ .select cs b) → opPure P fr o = opPure P gr o := fun hs => opPure_congr hs hr
  unfold evOp
  cases ho : o.op <;> rw [ho] at hv hr hp <;> (try simp only [Op.operands] at hv) <;> (try dsimp only)
  case move x => rw [hv x (by simp)]
  case assign x => rw [hv x (by simp)]
  case pick c a b => rw [hv c (by simp), hv a (by simp), hv b (by simp)]
  case box t x => rw [hv x (by simp)]
  case build t ps => rw [parts_congr (fun p hp => hv p.2 (by simp; exact ⟨p.1, by simpa using hp⟩))]
  case buildSlice t n ps => rw [parts_congr (fun p hp => hv p.2 (by simp; exact ⟨p.1, by simpa using hp⟩))]
  case load t x => rw [hv x (by simp)]
  case store t x y => rw [hv x (by simp), hv y (by simp)]
  case nilCheck x => rw [hv x (by simp), hp (fun cs b e => by cases e)]
  case binOp op t x y yt => rw [hv x (by simp), hv y (by simp)]; simp only [eqlM, hp (fun cs b e => by cases e)]
  case convert s d x => rw [hv x (by simp)]; simp only [convertM, hp (fun cs b e => by cases e)]
  case makeFunc f a b =>
    have h1 := vals_congr (l := a.toList) (fun x hx => hv x (by simp; exact .inl (by simpa using hx)))
    have h2 := vals_congr (l := b.toList) (fun x hx => hv x (by simp; exact .inr (by simpa using hx)))
    have h3 := hp (fun cs b e => by cases e)
    cases f <;> (try dsimp only) <;> first | rw [h1, h2] | rw [h3]
  case makeMap t r => cases r <;> simp only [hp (fun cs b e => by cases e)]
  case slice t x lo hi mx =>
    rw [hv x (by simp)]
    simp only [sliceM, hp (fun cs b e => by cases e), bound_congr (x := lo) (fun y e => hv y (by subst e; simp)), bound_congr (x := hi) (fun y e => hv y (by subst e; simp)), bound_congr (x := mx) (fun y e => hv y (by subst e; simp))]
  case fieldAddr t x f => rw [hv x (by simp)]
  case indexAddr t x i => rw [hv x (by simp), hv i (by simp)]
  case index t x i => rw [hv x (by simp), hv i (by simp), hp (fun cs b e => by cases e)]
  case lookup t x k ok => rw [hv x (by simp), hv k (by simp)]
  case mapUpdate t m k x => rw [hv m (by simp), hv k (by simp), hv x (by simp)]
  case range t x => rw [hv x (by simp)]
  case next x b => rw [hv x (by simp)]
  case extract x i => rw [hv x (by simp)]
  case call c =>
    simp only [Call.operands] at hv
    rw [vals_congr (l := c.args.toList) (fun x hx => hv x (by simp; exact .inr (by simpa using hx)))]
    have h3 := hp (fun cs b e => by cases e)
    cases hc : c.callee with
    | value f =>
      rw [hc] at hv
      have h4 := hv f (by simp)
      cases gr.vals c.args.toList with
      | none => rfl
      | some args => dsimp only; rw [h4]
    | invoke x m => rfl
    | builtin b =>
      cases gr.vals c.args.toList with
      | none => cases b <;> (try dsimp only) <;> rw [h3]
      | some vs => cases b <;> first
        | (dsimp only; rw [h3]; done)
        | (rcases vs with _ | ⟨a, _ | ⟨b, _ | ⟨c, l⟩⟩⟩ <;> first | rfl | (dsimp only; rw [h3]))
  all_goals first | rfl | rw [hp (fun cs b e => by cases e)]

/-- An operation's value. -/
def evVal (P : Program) (pf : List (FuncId × Value)) (R : Run) (ops : Array Oper) (fr : Fr) (i : Nat) : M Value :=
  match ops[i]? with
  | none => .fail
  | some o => cond (wantedF ops fr o) (evOp P pf R fr o) (.pure undef)

def dstOf (ops : Array Oper) (i : Nat) : Option Tmp := (ops[i]?).bind (·.dst)

theorem evOpAt_val {pf : List (FuncId × Value)} {R : Run} {ops : Array Oper} {fr : Fr} {i : Nat} : evOpAt P pf R ops fr i = (evVal P pf R ops fr i).bind fun v => .pure (fr.put (dstOf ops i) v) := by
  unfold evOpAt evVal dstOf
  cases ops[i]? with
  | none => rfl
  | some o =>
    dsimp only [Option.bind_some]
    cases wantedF ops fr o <;> rfl

theorem wanted_congr {ops : Array Oper} {fr gr : Fr} {o : Oper} (h : ∀ t ∈ o.looksAt ops, fr.tmp t = gr.tmp t) : wantedF ops fr o = wantedF ops gr o := by
  unfold wantedF
  cases hg : o.guard with
  | none => rfl
  | some g =>
    obtain ⟨j, want⟩ := g
    dsimp only
    cases hj : ops[j]? with
    | none => rfl
    | some q =>
      dsimp only
      cases hd : q.dst with
      | none => rfl
      | some d =>
        dsimp only
        rw [h d (by simp [Oper.looksAt, hg, hj, hd])]

theorem evVal_congr {pf : List (FuncId × Value)} {R : Run} {ops : Array Oper} {fr gr : Fr} {i : Nat} (h : ∀ o, ops[i]? = some o → ∀ t ∈ o.looksAt ops, fr.tmp t = gr.tmp t) : evVal P pf R ops fr i = evVal P pf R ops gr i := by
  unfold evVal
  cases ho : ops[i]? with
  | none => rfl
  | some o =>
    dsimp only
    have h1 := h o ho
    rw [wanted_congr h1, evOp_congr (fun t ht => h1 t (by simp only [Oper.looksAt]; exact List.mem_append_left _ (List.mem_filterMap.2 ⟨.tmp t, by simpa using ht, rfl⟩)))]

end

/-! ### Heaps -/
theorem agreeC_trans {a b c : Option AObj} {lo len : Nat} (h : agreeC a b lo len) (k : agreeC b c lo len) : agreeC a c lo len := by
  rcases h with rfl | ⟨x, y, e, rfl, rfl, h1, h2⟩
  · exact k
  · rcases k with rfl | ⟨x', y', e', h3, rfl, h4, h5⟩
    · exact .inr ⟨x, y, e, rfl, rfl, h1, h2⟩
    · cases h3
      exact .inr ⟨x, y', e, rfl, rfl, h1.trans h4, fun i h6 h7 => (h2 i h6 h7).trans (h5 i h6 h7)⟩
theorem agree_trans {f g h : HF} {x : Ac} (a : agree f g x) (b : agree g h x) : agree f h x := by
  cases x with
  | rd n lo len => exact agreeC_trans a b
  | rdo n => exact Eq.trans a b
  | wr n lo vs => exact agreeC_trans a b
  | put n o => trivial
theorem agree_refl (f : HF) (x : Ac) : agree f f x := by
  cases x with
  | rd n lo len => exact .inl rfl
  | rdo n => rfl
  | wr n lo vs => exact .inl rfl
  | put n o => trivial

theorem meets_false {a n b m : Nat} (h : meets a n b m = false) : b + m ≤ a ∨ a + n ≤ b := by
  unfold meets at h
  rcases Nat.lt_or_ge a (b + m) with h1 | h1
  · rcases Nat.lt_or_ge b (a + n) with h2 | h2
    · exfalso
      have e1 : Nat.blt a (b + m) = true := by simp [Nat.blt_eq, h1]
      have e2 : Nat.blt b (a + n) = true := by simp [Nat.blt_eq, h2]
      rw [e1, e2] at h; cases h
    · exact .inr h2
  · exact .inl h1

theorem beq_false_ne {a b : Nat} (h : Nat.beq a b = false) : a ≠ b := fun e => by rw [beq_true e] at h; cases h

theorem agree_noclash {b a : Ac} {f : HF} (h : clash b a = false) : agree (upd b f) f a := by
  have same : ∀ m, upd b f m = f m → ∀ lo len, agreeC (upd b f m) (f m) lo len := fun m e lo len => .inl e
  cases b with
  | rd n lo len => exact agree_refl f a
  | rdo n => exact agree_refl f a
  | wr n lo vs =>
    have off : ∀ m, m ≠ n → upd (.wr n lo vs) f m = f m := fun m hm => by simp [upd, hm]
    have shape : agreeC (upd (.wr n lo vs) f n) (f n) 0 0 := by
      simp only [upd, if_true]
      cases hf : f n with
      | none => exact .inl rfl
      | some q => cases q with
        | cells c e => exact .inr ⟨_, _, e, rfl, rfl, over_length _ _ _, fun i _ hi => by omega⟩
        | _ => exact .inl rfl
    cases a with
    | rd m lo' len =>
      by_cases hm : m = n
      · subst hm
        simp only [clash, beq_true rfl, Bool.true_and] at h
        have hd := meets_false h
        show agreeC (upd (.wr m lo vs) f m) (f m) lo' len
        simp only [upd, if_true]
        cases hf : f m with
        | none => exact .inl rfl
        | some q => cases q with
          | cells c e =>
            refine .inr ⟨_, _, e, rfl, rfl, over_length _ _ _, fun i h1 h2 => ?_⟩
            rw [over_get, if_neg (by omega)]
          | _ => exact .inl rfl
      · exact .inl (off m hm)
    | rdo m =>
      have hm : m ≠ n := fun e => by subst e; simp only [clash, beq_true rfl] at h; cases h
      exact off m hm
    | wr m lo' vs' =>
      by_cases hm : m = n
      · subst hm; exact shape
      · exact .inl (off m hm)
    | put m o => trivial
  | put n o =>
    have off : ∀ m, m ≠ n → upd (.put n o) f m = f m := fun m hm => by simp [upd, hm]
    have hne : a.name ≠ n := fun e => by
      have : clash (.put n o) a = true := by cases a <;> simp only [clash, Ac.name] at e ⊢ <;> exact beq_true e.symm
      rw [h] at this; cases this
    cases a with
    | rd m lo len => exact .inl (off m hne)
    | rdo m => exact off m hne
    | wr m lo vs => exact .inl (off m hne)
    | put m q => trivial

theorem clashes_false {l k : List Ac} (h : clashes l k = false) : ∀ x ∈ l, ∀ y ∈ k, clash x y = false := by
  induction l with
  | nil => intro x hx; cases hx
  | cons z l ih =>
    intro x hx y hy
    unfold clashes at h
    cases hz : k.any (clash z) with
    | true => rw [hz] at h; cases h
    | false =>
      rw [hz] at h
      rcases List.mem_cons.1 hx with rfl | hx
      · have := List.any_eq_false.1 hz y hy
        simpa using this
      · exact ih h x hx y hy

theorem clash_symm (x y : Ac) : clash x y = clash y x := by
  have hm : ∀ a n b m, meets a n b m = meets b m a n := fun a n b m => by unfold meets; exact Bool.and_comm _ _
  have hb : ∀ a b, Nat.beq a b = Nat.beq b a := fun a b => by
    by_cases h : a = b
    · rw [h]
    · rw [beq_false h, beq_false (Ne.symm h)]
  cases x <;> cases y <;> simp only [clash, Ac.name] <;> first
    | rfl
    | exact hb _ _
    | (rw [hb, hm])
    | (rw [hb])

theorem agree_patch_noclash {l : List Ac} {a : Ac} (f : HF) (h : ∀ x ∈ l, clash x a = false) : agree (patch l f) f a := by
  induction l with
  | nil => exact agree_refl f a
  | cons b l ih => exact agree_trans (agree_noclash (h b (by simp))) (ih fun x hx => h x (by simp [hx]))

theorem agree_symm {f g : HF} {x : Ac} (h : agree f g x) : agree g f x := by
  have sC : ∀ {a b : Option AObj} {lo len}, agreeC a b lo len → agreeC b a lo len := by
    intro a b lo len h
    rcases h with rfl | ⟨c, c', e, rfl, rfl, h1, h2⟩
    · exact .inl rfl
    · exact .inr ⟨c', c, e, rfl, rfl, h1.symm, fun i a b => (h2 i (by omega) (by omega)).symm⟩
  cases x with
  | rd n lo len => exact sC h
  | rdo n => exact Eq.symm h
  | wr n lo vs => exact sC h
  | put n o => trivial

theorem upd_comm {a b : Ac} (h : clash a b = false) (f : HF) : upd a (upd b f) = upd b (upd a f) := by
  funext m
  cases a with
  | rd _ _ _ => rfl
  | rdo _ => rfl
  | wr n lo vs =>
    cases b with
    | rd _ _ _ => rfl
    | rdo _ => rfl
    | wr n' lo' vs' =>
      simp only [upd]
      by_cases h1 : m = n
      · by_cases h2 : m = n'
        · simp only [if_pos h1, if_pos h2]
          have hd := meets_false (by
            subst h1; subst h2
            simpa only [clash, beq_true rfl, Bool.true_and] using h)
          cases f m with
          | none => rfl
          | some q => cases q with
            | cells c e =>
              simp only [updO]
              congr 2
              apply List.ext_getElem?
              intro i
              simp only [over_get, over_length]
              by_cases hi : lo ≤ i ∧ i < lo + vs.length ∧ i < c.length
              · rw [if_pos hi, if_neg (by omega), if_pos hi]
              · rw [if_neg hi, if_neg hi]
            | _ => rfl
        · simp only [if_pos h1, if_neg h2]
      · by_cases h2 : m = n'
        · simp only [if_neg h1, if_pos h2]
        · simp only [if_neg h1, if_neg h2]
    | put n' o =>
      simp only [upd]
      have hne : n' ≠ n := fun e => by
        subst e
        have : clash (.wr n' lo vs) (.put n' o) = true := by simp only [clash, Ac.name]; exact beq_true rfl
        rw [h] at this; cases this
      by_cases h1 : m = n
      · have h3 : ¬ m = n' := by omega
        simp only [if_pos h1, if_neg h3]
      · by_cases h2 : m = n'
        · simp only [if_neg h1, if_pos h2]
        · simp only [if_neg h1, if_neg h2]
  | put n o =>
    have hne : b.name ≠ n := fun e => by
      have : clash (.put n o) b = true := by cases b <;> simp only [clash, Ac.name] at e ⊢ <;> exact beq_true e.symm
      rw [h] at this; cases this
    cases b with
    | rd _ _ _ => rfl
    | rdo _ => rfl
    | wr n' lo vs =>
      simp only [upd, Ac.name] at hne ⊢
      by_cases h1 : m = n
      · have h3 : ¬ m = n' := by omega
        simp only [if_pos h1, if_neg h3]
      · by_cases h2 : m = n'
        · simp only [if_neg h1, if_pos h2]
        · simp only [if_neg h1, if_neg h2]
    | put n' o' =>
      simp only [upd, Ac.name] at hne ⊢
      by_cases h1 : m = n
      · have h3 : ¬ m = n' := by omega
        simp only [if_pos h1, if_neg h3]
      · by_cases h2 : m = n'
        · simp only [if_neg h1, if_pos h2]
        · simp only [if_neg h1, if_neg h2]

theorem patch_comm1 {a : Ac} {l : List Ac} (h : ∀ x ∈ l, clash a x = false) (f : HF) : upd a (patch l f) = patch l (upd a f) := by
  induction l with
  | nil => rfl
  | cons b l ih =>
    show upd a (upd b (patch l f)) = upd b (patch l (upd a f))
    rw [upd_comm (h b (by simp)), ih fun x hx => h x (by simp [hx])]
theorem patch_comm {l k : List Ac} (h : ∀ x ∈ l, ∀ y ∈ k, clash x y = false) (f : HF) : patch l (patch k f) = patch k (patch l f) := by
  induction l with
  | nil => rfl
  | cons a l ih =>
    show upd a (patch l (patch k f)) = patch k (upd a (patch l f))
    rw [ih fun x hx => h x (by simp [hx]), patch_comm1 (h a (by simp))]

end Go.Proofs.YtkiakphfgdkdiaaGreat
