/-
  An evaluator for closed calls, part K: comparisons with nil, len, cap, clear, building.
-/
import Derived.Test.YtkiakphfgdkdiaaGreatEvJ
namespace Go.Proofs.YtkiakphfgdkdiaaGreat
open Go Go.RowKit
set_option linter.unusedVariables false

section
variable {P : Program} {N0 : Nat} {w0 : World} {σ : Ren} {w : World}

theorem eql_run {op : BinOp} {neg : Bool} (hop : (op = .eql ∧ neg = false) ∨ (op = .neq ∧ neg = true)) {t : TypeId} {x y : Operand} {a b : Value} {r : Bool} (h : (Op.equal t a b).run P w = .ok r w)
    (hg : (eqGuard op t x y a b).run P w = .ok () w) (hb : binOp .eql t a b = (do pure (.bool (← Op.equal t a b)))) (hb2 : binOp .neq t a b = (do pure (.bool (!(← Op.equal t a b))))) :
    (do eqGuard op t x y a b; binOp op t a b : Sem Value).run P w = .ok (.bool (if neg then !r else r)) w := by
  simp only [Sem.run_bind, hg, Result.andThen_ok]
  rcases hop with ⟨rfl, rfl⟩ | ⟨rfl, rfl⟩
  · rw [hb]; simp [h]
  · rw [hb2]; simp [h]

theorem eqg_ptr (op : BinOp) (t : TypeId) (x y : Operand) (a b : Option Addr) : (eqGuard op t x y (.pointer a) (.pointer b)).run P w = .ok () w := by
  unfold eqGuard; simp
theorem eqg_sl (op : BinOp) (t : TypeId) (x y : Operand) (a b : Option Addr) (l m c d : Nat) : (eqGuard op t x y (.slice a l c) (.slice b m d)).run P w = .ok () w := by
  unfold eqGuard; simp
theorem eqg_map (op : BinOp) (t : TypeId) (x y : Operand) (a b : Option Nat) : (eqGuard op t x y (.map a) (.map b)).run P w = .ok () w := by
  unfold eqGuard; simp
theorem eqg_fn (op : BinOp) (t : TypeId) (x y : Operand) (f : Fn) (a b : Array Value) : (eqGuard op t x y (.func f a b) .nilFunc).run P w = .ok () w := by
  unfold eqGuard; simp
theorem eqg_nf (op : BinOp) (t : TypeId) (x y : Operand) (f : Fn) (a b : Array Value) : (eqGuard op t x y .nilFunc (.func f a b)).run P w = .ok () w := by
  unfold eqGuard; simp
theorem eqg_nn (op : BinOp) (t : TypeId) (x y : Operand) : (eqGuard op t x y .nilFunc .nilFunc).run P w = .ok () w := by
  unfold eqGuard; simp
section
variable {t : TypeId} (d : Nat)
theorem eqI_p1 {e : TypeId} (h : (underlying t).run P w = .ok (.pointer e) w) (b : Option Addr) : (Op.equalIn (d + 1) t (.pointer none) (.pointer b)).run P w = .ok b.isNone w := by
  simp only [Op.equalIn, Sem.run_bind, h, Result.andThen_ok, Sem.run_pure]
theorem eqI_p2 {e : TypeId} (h : (underlying t).run P w = .ok (.pointer e) w) (a : Addr) : (Op.equalIn (d + 1) t (.pointer (some a)) (.pointer none)).run P w = .ok false w := by
  simp only [Op.equalIn, Sem.run_bind, h, Result.andThen_ok, Sem.run_pure]
theorem eqI_s1 {e : TypeId} (h : (underlying t).run P w = .ok (.slice e) w) (l c m k : Nat) (b : Option Addr) : (Op.equalIn (d + 1) t (.slice none l c) (.slice b m k)).run P w = .ok b.isNone w := by
  simp only [Op.equalIn, Sem.run_bind, h, Result.andThen_ok, Sem.run_pure]
theorem eqI_s2 {e : TypeId} (h : (underlying t).run P w = .ok (.slice e) w) (l c m k : Nat) (a : Addr) : (Op.equalIn (d + 1) t (.slice (some a) l c) (.slice none m k)).run P w = .ok false w := by
  simp only [Op.equalIn, Sem.run_bind, h, Result.andThen_ok, Sem.run_pure]
theorem eqI_m1 {k e : TypeId} (h : (underlying t).run P w = .ok (.map k e) w) (b : Option Nat) : (Op.equalIn (d + 1) t (.map none) (.map b)).run P w = .ok b.isNone w := by
  simp only [Op.equalIn, Sem.run_bind, h, Result.andThen_ok, Sem.run_pure]
theorem eqI_m2 {k e : TypeId} (h : (underlying t).run P w = .ok (.map k e) w) (a : Nat) : (Op.equalIn (d + 1) t (.map (some a)) (.map none)).run P w = .ok false w := by
  simp only [Op.equalIn, Sem.run_bind, h, Result.andThen_ok, Sem.run_pure]
theorem eqI_n1 {ps rs : Array TypeId} {v : Bool} (h : (underlying t).run P w = .ok (.func ps rs v) w) : (Op.equalIn (d + 1) t .nilFunc .nilFunc).run P w = .ok true w := by
  simp only [Op.equalIn, Sem.run_bind, h, Result.andThen_ok, Sem.run_pure]
theorem eqI_n2 {ps rs : Array TypeId} {v : Bool} (h : (underlying t).run P w = .ok (.func ps rs v) w) (f : Fn) (a b : Array Value) : (Op.equalIn (d + 1) t .nilFunc (.func f a b)).run P w = .ok false w := by
  simp only [Op.equalIn, Sem.run_bind, h, Result.andThen_ok, Sem.run_pure]
theorem eqI_n3 {ps rs : Array TypeId} {v : Bool} (h : (underlying t).run P w = .ok (.func ps rs v) w) (f : Fn) (a b : Array Value) : (Op.equalIn (d + 1) t (.func f a b) .nilFunc).run P w = .ok false w := by
  simp only [Op.equalIn, Sem.run_bind, h, Result.andThen_ok, Sem.run_pure]
end

theorem eql_sim {fr : Fr} {ac : Act} (rf : FrR σ fr ac) {o : Oper} {op : BinOp} {neg : Bool} (hop : (op = .eql ∧ neg = false) ∨ (op = .neq ∧ neg = true)) {t yt : TypeId} {x y : Operand} (ho : o.op = .binOp op t x y yt)
    {a a' b b' : Value} (ra : VR σ a a') (rb : VR σ b b') (ha : a' = ac.eval x) (hb : b' = ac.eval y) :
    Sim P N0 w0 σ (eqlM P fr o neg t a b) (do eqGuard op t x y a' b'; binOp op t a' b') := by
  have hpure : Sim P N0 w0 σ (.ofO (opPure P fr o)) (do eqGuard op t x y a' b'; binOp op t a' b') := pure_sim rf (fun cs b => by rw [ho]; intro e; cases e) (by simp only [execOp, ho, ha, hb])
  intro s q s' w h W
  unfold eqlM at h
  cases hd : pureRun P (underlying t) with
  | none => rw [hd] at h; exact hpure s q s' w h W
  | some d =>
  rw [hd] at h
  have hD := pureRun_run _ _ hd w
  have fin : ∀ r : Bool, (Op.equalIn (9999 + 1) t a' b').run P w = .ok r w → (eqGuard op t x y a' b').run P w = .ok () w →
      binOp .eql t a' b' = (do pure (.bool (← Op.equal t a' b'))) → binOp .neq t a' b' = (do pure (.bool (!(← Op.equal t a' b')))) → q = .bool (if neg then !r else r) → s' = s →
      ∃ τ v' w', σ.le τ ∧ (do eqGuard op t x y a' b'; binOp op t a' b' : Sem Value).run P w = .ok v' w' ∧ VR τ q v' ∧ WR P N0 w0 τ s'.h.get w' := by
    intro r h1 h2 h3 h4 h5 h6
    subst h5; subst h6
    exact ⟨σ, _, w, σ.le_refl, eql_run hop h1 h2 h3 h4, .bool _, W⟩
  cases d
  case pointer e =>
    cases ra <;> try (cases h; done)
    · cases rb <;> try (cases h; done)
      · cases M.pure_some h
        exact fin true (eqI_p1 _ hD _) (eqg_ptr _ _ _ _ _ _) rfl rfl (by cases neg <;> rfl) rfl
      · cases M.pure_some h
        exact fin false (eqI_p1 _ hD _) (eqg_ptr _ _ _ _ _ _) rfl rfl (by cases neg <;> rfl) rfl
    · cases rb <;> try (cases h; done)
      · cases M.pure_some h
        exact fin false (eqI_p2 _ hD _) (eqg_ptr _ _ _ _ _ _) rfl rfl (by cases neg <;> rfl) rfl
  case slice e =>
    cases ra <;> try (cases h; done)
    · cases rb <;> try (cases h; done)
      all_goals
        cases M.pure_some h
      · exact fin true (eqI_s1 _ hD _ _ _ _ _) (eqg_sl _ _ _ _ _ _ _ _ _ _) rfl rfl (by cases neg <;> rfl) rfl
      all_goals exact fin false (eqI_s1 _ hD _ _ _ _ _) (eqg_sl _ _ _ _ _ _ _ _ _ _) rfl rfl (by cases neg <;> rfl) rfl
    all_goals
      cases rb <;> try (cases h; done)
      cases M.pure_some h
      exact fin false (eqI_s2 _ hD _ _ _ _ _) (eqg_sl _ _ _ _ _ _ _ _ _ _) rfl rfl (by cases neg <;> rfl) rfl
  case map k e =>
    cases ra <;> try (cases h; done)
    · cases rb <;> try (cases h; done)
      · cases M.pure_some h
        exact fin true (eqI_m1 _ hD _) (eqg_map _ _ _ _ _ _) rfl rfl (by cases neg <;> rfl) rfl
      · cases M.pure_some h
        exact fin false (eqI_m1 _ hD _) (eqg_map _ _ _ _ _ _) rfl rfl (by cases neg <;> rfl) rfl
    · cases rb <;> try (cases h; done)
      · cases M.pure_some h
        exact fin false (eqI_m2 _ hD _) (eqg_map _ _ _ _ _ _) rfl rfl (by cases neg <;> rfl) rfl
  case func p r v =>
    cases ra <;> try (cases h; done)
    · cases rb <;> try (cases h; done)
      all_goals cases M.pure_some h
      · exact fin true (eqI_n1 _ hD) (eqg_nn _ _ _ _) rfl rfl (by cases neg <;> rfl) rfl
      all_goals exact fin false (eqI_n2 _ hD _ _ _) (eqg_nf _ _ _ _ _ _ _) rfl rfl (by cases neg <;> rfl) rfl
    all_goals
      cases rb <;> try (cases h; done)
      cases M.pure_some h
      exact fin false (eqI_n3 _ hD _ _ _) (eqg_fn _ _ _ _ _ _ _) rfl rfl (by cases neg <;> rfl) rfl
  all_goals exact hpure s q s' w h W

theorem cap_sim {argTypes : Array TypeId} {ty : TypeId} {x x' : Value} (r : VR σ x x') : Sim P N0 w0 σ (capM argTypes P x) (Builtin.cap_ argTypes ty #[x']) := by
  intro s q s' w h W
  unfold capM at h
  cases h0 : argTypes[0]? with
  | none => rw [h0] at h; cases h
  | some t =>
  rw [h0] at h
  dsimp only at h
  cases hd : pureRun P (underlying t) with
  | none => rw [hd] at h; cases h
  | some d =>
  rw [hd] at h
  cases d <;> try (cases h; done)
  rename_i e
  have hD := pureRun_run _ _ hd w
  cases r <;> try (cases h; done)
  case nils len cap =>
    dsimp only at h
    cases hb : Nat.beq cap SENT with
    | true => rw [hb] at h; cases h
    | false =>
      rw [hb] at h
      cases M.pure_some h
      exact ⟨σ, _, w, σ.le_refl, by simp [Builtin.cap_, h0, hD, goInt], .int _ _, W⟩
  case sl n off len cap L hL hc =>
    dsimp only at h
    cases hb : Nat.beq cap SENT with
    | true => rw [hb] at h; cases h
    | false =>
      rw [hb] at h
      cases M.pure_some h
      exact ⟨σ, _, w, σ.le_refl, by simp [Builtin.cap_, h0, hD, goInt], .int _ _, W⟩

theorem len_sim {argTypes : Array TypeId} {ty : TypeId} {x x' : Value} (r : VR σ x x') : Sim P N0 w0 σ (lenM argTypes P x) (Builtin.len_ argTypes ty #[x']) := by
  intro s q s' w h W
  unfold lenM at h
  cases h0 : argTypes[0]? with
  | none => rw [h0] at h; cases h
  | some t =>
  rw [h0] at h
  dsimp only at h
  cases hd : pureRun P (underlying t) with
  | none => rw [hd] at h; cases h
  | some d =>
  rw [hd] at h
  have hD := pureRun_run _ _ hd w
  cases d <;> try (cases h; done)
  case array n e =>
    cases M.pure_some h
    exact ⟨σ, _, w, σ.le_refl, by simp [Builtin.len_, h0, hD, goInt], .int _ _, W⟩
  case pointer e =>
    dsimp only at h
    cases he : pureRun P (underlying e) with
    | none => rw [he] at h; cases h
    | some ed =>
      rw [he] at h
      cases ed <;> try (cases h; done)
      cases M.pure_some h
      exact ⟨σ, _, w, σ.le_refl, by simp [Builtin.len_, h0, hD, pureRun_run _ _ he w, goInt], .int _ _, W⟩
  case slice e =>
    cases r <;> try (cases h; done)
    all_goals
      cases M.pure_some h
      exact ⟨σ, _, w, σ.le_refl, by simp [Builtin.len_, h0, hD, goInt], .int _ _, W⟩
  case string =>
    cases r <;> try (cases h; done)
    cases M.pure_some h
    exact ⟨σ, _, w, σ.le_refl, by simp [Builtin.len_, h0, hD, goInt], .int _ _, W⟩
  case map k e =>
    cases r <;> try (cases h; done)
    case nilm =>
      cases M.pure_some h
      exact ⟨σ, _, w, σ.le_refl, by simp [Builtin.len_, h0, hD, goInt], .int _ _, W⟩
    case mp n L hL =>
      obtain ⟨ob, s1, h1, h2⟩ := M.bind_some h
      rw [mObj_eq] at h1
      cases hg : s.h.get n with
      | none => rw [hg] at h1; cases h1
      | some o1 =>
        rw [hg] at h1
        cases h1
        cases ob <;> try (cases h2; done)
        rename_i es clock
        cases M.pure_some h2
        obtain ⟨_, o', ho', hor⟩ := W.at hg (by intro e; cases e) hL
        cases o' <;> try (exact hor.elim)
        rename_i es' clock'
        refine ⟨σ, goInt es.length, w, σ.le_refl, ?_, .int _ _, W⟩
        have hobj : (getObj L.b).run P w = .ok (.map es' clock') w := by simp [getObj, Sem.run, ho']
        simp [Builtin.len_, h0, hD, hobj, hor.2.1]

theorem clear_sim {argTypes : Array TypeId} {ty : TypeId} {x x' : Value} (r : VR σ x x') : Sim P N0 w0 σ (clearM P argTypes x) (Builtin.clear_ argTypes ty #[x']) := by
  intro s q s' w h W
  unfold clearM at h
  cases h0 : argTypes[0]? with
  | none => rw [h0] at h; cases h
  | some t =>
  rw [h0] at h
  dsimp only at h
  cases hd : pureRun P (underlying t) with
  | none => rw [hd] at h; cases h
  | some d =>
  rw [hd] at h
  have hD := pureRun_run _ _ hd w
  cases d <;> try (cases h; done)
  rename_i elem
  have big : ∀ (b off len cap' : Nat) (L : Loc), σ b = some L → (match pureRun P (zeroValue elem) with
        | some z => cond (plainD 8 z && okCells z.cells.toList) ((mWrite b off (zerosOf z.cells.toList (len + 1))).bind fun _ => M.pure undef) M.fail
        | none => M.fail) s = some (q, s') →
      ∃ τ v' w', σ.le τ ∧ (Builtin.clear_ argTypes ty #[.slice (some ⟨L.b, L.s + off, none⟩) (len + 1) cap']).run P w = .ok v' w' ∧ VR τ q v' ∧ WR P N0 w0 τ s'.h.get w' := by
    intro b off len cap' L hL h
    cases hz : pureRun P (zeroValue elem) with
    | none => rw [hz] at h; cases h
    | some z =>
      rw [hz] at h
      dsimp only at h
      cases hb : (plainD 8 z && okCells z.cells.toList) with
      | false => rw [hb] at h; cases h
      | true =>
        rw [hb] at h
        simp only [Bool.and_eq_true] at hb
        obtain ⟨_, s1, h1, h2⟩ := M.bind_some h
        cases M.pure_some h2
        have hok : okCells (zerosOf z.cells.toList (len + 1)) = true := by
          have all : ∀ l : List Value, (∀ v ∈ l, okCell v = true) → okCells l = true := by
            intro l
            induction l with
            | nil => intro _; rfl
            | cons v l ih => intro hv; unfold okCells; rw [hv v (by simp)]; exact ih (fun u hu => hv u (by simp [hu]))
          exact all _ (fun v hv => okCells_mem hb.2 v (mem_zerosOf hv))
        obtain ⟨w', hrun, hW⟩ := write_ok h1 W hL (zeros_LR hb.1 (len + 1)) hok
        refine ⟨σ, undef, w', σ.le_refl, ?_, undef_self σ, hW⟩
        simp [Builtin.clear_, h0, hD, pureRun_run _ _ hz w, zeroCells_eq, hrun, undef]
  cases r <;> try (cases h; done)
  case nils len cap =>
    cases M.pure_some h
    exact ⟨σ, undef, w, σ.le_refl, by simp [Builtin.clear_, h0, hD, undef], undef_self σ, W⟩
  case sl b off len cap L hL hc =>
    cases len with
    | zero =>
      cases M.pure_some h
      exact ⟨σ, undef, w, σ.le_refl, by simp [Builtin.clear_, h0, hD, undef], undef_self σ, W⟩
    | succ len => exact big b off len cap L hL h
  case opn b off len cap L hL hl hz =>
    cases len with
    | zero =>
      cases M.pure_some h
      exact ⟨σ, undef, w, σ.le_refl, by simp [Builtin.clear_, h0, hD, undef], undef_self σ, W⟩
    | succ len => exact big b off len cap L hL h
  case emp a cap =>
    cases M.pure_some h
    exact ⟨σ, undef, w, σ.le_refl, by simp [Builtin.clear_, h0, hD, undef], undef_self σ, W⟩

end
end Go.Proofs.YtkiakphfgdkdiaaGreat
