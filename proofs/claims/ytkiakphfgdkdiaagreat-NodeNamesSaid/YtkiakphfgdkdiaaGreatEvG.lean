/-
  An evaluator for closed calls, part G: append.
-/
import Derived.Test.YtkiakphfgdkdiaaGreatEvE
namespace Go.Proofs.YtkiakphfgdkdiaaGreat
open Go Go.RowKit
set_option linter.unusedVariables false

section
variable {P : Program} {N0 : Nat} {w0 : World} {σ : Ren} {w : World}

/-- What the builtin does once all that it looks at is known. -/
def appendTail (elem : TypeId) (k n : Nat) (bytes : Nat) (zero : Value) (base : Option Addr) (sLen sCap : Nat) (s : Value) (appended : Sem (Array Value)) : Sem Value :=
  if sLen + n ≤ sCap then do
    let new ← appended
    if let some a := base then storeCells (a.add (sLen * k)) new.toList
    pure (.slice base (sLen + n) sCap)
  else do
    let newCap ← choose (.appendCap (sLen + n) sCap elem)
    askRoom (newCap * bytes)
    let old ← Builtin.firstCells k sLen s
    let new ← appended
    pure (.slice (some (← newRow elem (old ++ new ++ Builtin.zeroCells zero.cells (newCap - (sLen + n))))) (sLen + n) newCap)

theorem append_run {argTypes : Array TypeId} {ty sType xType elem : TypeId} {xd : TypeDesc} {k n : Nat} {ti : TypeInfo} {z : Value} {base : Option Addr} {sLen sCap : Nat} {x : Value}
    (h0 : argTypes[0]? = some sType) (h1 : argTypes[1]? = some xType) (hd : pureRun P (underlying sType) = some (.slice elem)) (hx : pureRun P (underlying xType) = some xd)
    (hk : pureRun P (sizeOf elem) = some k) (hti : pureRun P (typeInfo elem) = some ti) (hz : pureRun P (zeroValue elem) = some z) (hk0 : 0 < k)
    (hb : (sLen + n) * ti.bytes ≤ 1000000000) (hb0 : 0 < ti.bytes)
    (hn : isIntT xd = false → (Builtin.lenOf x).run P w = .ok n w)
    (hm : isIntT xd = true → ∃ kd, x = .int kd (n : Int) ∧ n ≤ 100000) :
    (Builtin.append_ argTypes ty #[.slice base sLen sCap, x]).run P w =
      (appendTail elem k n ti.bytes z base sLen sCap (.slice base sLen sCap)
        (if isIntT xd = true then pure (Builtin.zeroCells z.cells n) else Builtin.firstCells k n x)).run P w := by
  have hneed : sLen + n ≤ 1000000000 := by
    have : (sLen + n) * 1 ≤ (sLen + n) * ti.bytes := Nat.mul_le_mul_left _ hb0
    omega
  unfold Builtin.append_ appendTail
  have hmax : ¬ (((sLen + n : Nat) : Int) > IntKind.i64.max) := by
    have : IntKind.i64.max = 9223372036854775807 := by decide
    rw [this]; omega
  have hcap : ¬ sLen + n ≤ sCap → ¬ Builtin.nextslicecap (sLen + n) sCap * ti.bytes > 2 ^ 48 := fun h => by
    have := growslice_fits (need := sLen + n) (old := sCap) (bytes := ti.bytes) (by omega) (by omega)
    omega
  cases xd
  case int ik =>
    obtain ⟨kd, rfl, hle⟩ := hm rfl
    have hwrap : IntKind.i64.wrap (n : Int) = n := IntWalk.i64_in _ (by omega)
    have hn0 : ¬ ((n : Int) < 0) := by omega
    have hnb : ¬ ((n : Int) * (ti.bytes : Int) > 2 ^ 48) := by
      have h2 : n * ti.bytes ≤ (sLen + n) * ti.bytes := Nat.mul_le_mul_right _ (by omega)
      have h3 : ((n * ti.bytes : Nat) : Int) ≤ 1000000000 := by omega
      rw [Int.natCast_mul] at h3
      omega
    have happ : ∀ w' : World, (if n * k = 0 then (Result.ok #[] w' : Result (Array Value)) else Result.ok (Builtin.zeroCells z.cells n) w') = Result.ok (Builtin.zeroCells z.cells n) w' := by
      intro w'
      by_cases h : n * k = 0
      · have hn : n = 0 := by
          rcases Nat.mul_eq_zero.1 h with h | h
          · exact h
          · omega
        subst hn
        rw [if_pos (by simp)]; simp [Builtin.zeroCells]
      · rw [if_neg h]
    simp only [h0, h1, List.getElem?_toArray, List.getElem?_cons_zero, List.getElem?_cons_succ, Sem.run_bind, pureRun_run _ _ hd, pureRun_run _ _ hk, pureRun_run _ _ hx, Result.andThen_ok, Sem.run_pure,
      if_true, asInt, asIntOf, Sem.run_ite, hwrap, pureRun_run _ _ hti, isIntT, hn0, hnb, if_false, Int.toNat_natCast, Bool.not_true, Bool.false_eq_true, happ, hmax, false_and, pureRun_run _ _ hz]
    by_cases hle2 : sLen + n ≤ sCap
    · simp only [hle2, if_true]
      cases base <;> simp
    · simp only [hle2, if_false, hcap hle2]
  all_goals
    have hn' := hn rfl
    simp only [h0, h1, List.getElem?_toArray, List.getElem?_cons_zero, List.getElem?_cons_succ, Sem.run_bind, pureRun_run _ _ hd, pureRun_run _ _ hk, pureRun_run _ _ hx, Result.andThen_ok, Sem.run_pure,
      Bool.false_eq_true, if_false, hn', Sem.run_ite, Bool.not_false, if_true, pureRun_run _ _ hti, isIntT, hmax, false_and, pureRun_run _ _ hz]
    by_cases hle2 : sLen + n ≤ sCap
    · simp only [hle2, if_true]
      cases base <;> simp
    · simp only [hle2, if_false, hcap hle2]

/-- A name that is new, for a block that is nobody's. -/
theorem WR.adopt {f : HF} (h : WR P N0 w0 σ f w) {n : Nat} (hn : f n = none) {L : Loc} (hN : N0 ≤ L.b) (hfree : ∀ m k, σ m = some k → alive f m → k.b ≠ L.b) (o : AObj) {o' : Obj} (ho' : w.heap[L.b]? = some o')
    (ho : ∀ τ : Ren, σ.le τ → OR P τ L o o') :
    ∃ τ : Ren, σ.le τ ∧ τ n = some L ∧ WR P N0 w0 τ (fun m => if m = n then some o else f m) w := by
  have hσ : σ n = none := by
    cases e : σ n with
    | none => rfl
    | some l => obtain ⟨q, hq⟩ := h.dom n l e; rw [hn] at hq; cases hq
  have hle : σ.le (fun m => if m = n then some L else σ m) := fun m l e => by
    show (if m = n then _ else σ m) = _
    rw [if_neg (fun hm => by subst hm; rw [hσ] at e; cases e)]; exact e
  refine ⟨_, hle, by simp, h.below, h.base, ?_, ?_, ?_⟩
  · intro m l e
    by_cases hm : m = n
    · exact ⟨o, if_pos hm⟩
    · have e : (if m = n then some L else σ m) = some l := e
      rw [if_neg hm] at e
      obtain ⟨q, hq⟩ := h.dom m l e
      exact ⟨q, (if_neg hm).trans hq⟩
  · intro m q e
    have e : (if m = n then some o else f m) = some q := e
    by_cases hm : m = n
    · rw [if_pos hm] at e; cases e
      exact .inr ⟨L, o', by simp [hm], hN, ho', ho _ hle⟩
    · rw [if_neg hm] at e
      rcases h.live m q e with e1 | ⟨l, q', h1, h2, h3, h4⟩
      · exact .inl e1
      · exact .inr ⟨l, q', (if_neg hm).trans h1, h2, h3, h4.mono hle⟩
  · intro m k l l' e1 e2 ⟨o1, a1, d1⟩ ⟨o2, a2, d2⟩ hb
    have e1 : (if m = n then some L else σ m) = some l := e1
    have e2 : (if k = n then some L else σ k) = some l' := e2
    have a1 : (if m = n then some o else f m) = some o1 := a1
    have a2 : (if k = n then some o else f k) = some o2 := a2
    by_cases hm : m = n
    · by_cases hk : k = n
      · rw [hm, hk]
      · rw [if_pos hm] at e1; rw [if_neg hk] at e2 a2
        cases e1
        exact absurd hb.symm (hfree k l' e2 ⟨o2, a2, d2⟩)
    · by_cases hk : k = n
      · rw [if_neg hm] at e1 a1; rw [if_pos hk] at e2
        cases e2
        exact absurd hb (hfree m l e1 ⟨o1, a1, d1⟩)
      · rw [if_neg hm] at e1 a1; rw [if_neg hk] at e2 a2
        exact h.inj m k l l' e1 e2 ⟨o1, a1, d1⟩ ⟨o2, a2, d2⟩ hb

/-- A name is no more; its block may have turned. -/
theorem WR.killW {f : HF} (h : WR P N0 w0 σ f w) {n : Nat} {o : AObj} {l : Loc} (hn : f n = some o) (ho : o ≠ .dead) (hl : σ n = some l) {w' : World}
    (hos : w'.os = w.os) (htape : w'.tape = w.tape) (hout : w'.output = w.output) (hsize : w'.heap.size = w.heap.size) (hoth : ∀ k, k ≠ l.b → w'.heap[k]? = w.heap[k]?) :
    WR P N0 w0 σ (fun m => if m = n then some .dead else f m) w' ∧ ∀ m k, σ m = some k → alive (fun m => if m = n then some .dead else f m) m → k.b ≠ l.b := by
  obtain ⟨hN, _⟩ := h.at hn ho hl
  have hk := h.kill hn
  have free : ∀ m k, σ m = some k → alive (fun m => if m = n then some AObj.dead else f m) m → k.b ≠ l.b := by
    intro m k e ⟨q, a, d⟩ hb
    have a : (if m = n then some AObj.dead else f m) = some q := a
    by_cases hm : m = n
    · rw [if_pos hm] at a; cases a; exact d rfl
    · rw [if_neg hm] at a
      exact hm (h.inj m n k l e hl ⟨q, a, d⟩ ⟨o, hn, ho⟩ hb)
  refine ⟨⟨hk.below.trans ⟨hos, htape, hout, by omega, fun k hk => hoth k (by omega)⟩, by rw [hsize]; exact hk.base, hk.dom, ?_, hk.inj⟩, free⟩
  intro m q e
  by_cases hd : q = .dead
  · exact .inl hd
  · rcases hk.live m q e with e1 | ⟨k, q', h1, h2, h3, h4⟩
    · exact .inl e1
    · exact .inr ⟨k, q', h1, h2, by rw [hoth _ (free m k h1 ⟨q, e, hd⟩)]; exact h3, h4⟩

end
end Go.Proofs.YtkiakphfgdkdiaaGreat
