/-
  Regions that draw their order, each operation shown once: in whatever later world it comes up, it yields a value of which a fact holds that every later world keeps.
-/
import Derived.StillTail
import Derived.Deep.Quiet
import Derived.Deep.QuietTactic
namespace Go.Proofs.YtlfpefnlgiohbaaGreat
set_option maxRecDepth 100000

/-- what is said of an operation's value ahead of the walk: nothing (it is computed), the value, or a fact -/
abbrev KSpec := Option (Sum Value (Value → World → Prop))
def kWaits (o : Oper) (j : Nat) : Bool := o.after.any fun e => Region.binds .any e && e.on == j
def kHas (o : Oper) (W : World) : List (Nat × (World → Prop)) → Prop
  | [] => True
  | p :: F => (if kWaits o p.1 = true then p.2 W else True) ∧ kHas o W F
def kAllHas (W : World) : List (Nat × (World → Prop)) → Prop
  | [] => True
  | p :: F => p.2 W ∧ kAllHas W F
/-- it yields v, and leaves the world as it is -/
def kQuietUpon (W : World) (v : Value) : Result Next → Prop
  | .ok (.value u) w' => w' = W ∧ u = v
  | .ok .skip w' => w' = W ∧ v = undef
  | _ => False
def kQuiet (P : Program) (o : Oper) (a : Act) (W : World) (v : Value) : Prop := kQuietUpon W v ((execOp a.eval o).run P W)
def kStep (P : Program) (ops : Array Oper) (R : World → World → Prop) (o : Oper) (a : Act) (W : World) (T : Value → World → Prop) : Prop :=
  if Region.wanted o (yielded ops a.tmps) then ∀ (K : Act → World → Prop) (Q : Exit → Act → World → Prop), (∀ v W', R W W' → T v W' → K (a.put o.dst v) W') → o.wp P a W K Q else T undef W

def kAll (P : Program) (ops : Array Oper) (R : World → World → Prop) (W0 : World) (Q : Act → World → Prop) : Nat → List Oper → List KSpec → Act → List (Nat × (World → Prop)) → Prop
  | _, [], _, a, F => ∀ W, R W0 W → kAllHas W F → Q a W
  | _, _ :: _, [], _, _ => False
  | k, o :: l, none :: Ts, a, F =>
    if Region.wanted o (yielded ops a.tmps) then ∃ v, (∀ W, R W0 W → kHas o W F → kQuiet P o a W v) ∧ kAll P ops R W0 Q (k + 1) l Ts (a.put o.dst v) F else kAll P ops R W0 Q (k + 1) l Ts (a.put o.dst undef) F
  | k, o :: l, some (.inl c) :: Ts, a, F => (∀ W, R W0 W → kHas o W F → kStep P ops R o a W (fun v _ => v = c)) ∧ kAll P ops R W0 Q (k + 1) l Ts (a.put o.dst c) F
  | k, o :: l, some (.inr T) :: Ts, a, F => (∀ v W W', R W W' → T v W → T v W') ∧ (∀ W, R W0 W → kHas o W F → kStep P ops R o a W T) ∧ ∀ u, kAll P ops R W0 Q (k + 1) l Ts (a.put o.dst u) ((k, T u) :: F)

section
variable {P : Program} {ops : Array Oper} {R : World → World → Prop} {W0 : World} {Q : Act → World → Prop}

/-- the frame a is a0, but that the operations of L have laid the values g -/
structure KSlots (ops : Array Oper) (a0 a : Act) (L : Nat → Prop) (g : Nat → Value) : Prop where
  defers : a.defers = a0.defers
  laid : ∀ j o d, L j → ops[j]? = some o → o.dst = some d → a.tmps[d]? = (a0.tmps[d]?).map (fun _ => g j)
  other : ∀ d, (∀ j o, L j → ops[j]? = some o → o.dst ≠ some d) → a.tmps[d]? = a0.tmps[d]?

theorem KSlots.init (ops : Array Oper) (a0 : Act) (g : Nat → Value) : KSlots ops a0 a0 (fun _ => False) g := ⟨rfl, fun _ _ _ h => h.elim, fun _ _ => rfl⟩
theorem put_get (a : Act) (d : Nat) (v : Value) : (a.put (some d) v).tmps[d]? = (a.tmps[d]?).map (fun _ => v) := by
  show (a.tmps.setIfInBounds d v)[d]? = _
  by_cases h : d < a.tmps.size
  · rw [Array.getElem?_setIfInBounds_self_of_lt h, Array.getElem?_eq_getElem h]; rfl
  · rw [Array.getElem?_eq_none (by simpa using h), Array.getElem?_eq_none (by simpa using h)]; rfl
theorem put_get_ne (a : Act) (dst : Option Tmp) (d : Nat) (v : Value) (h : dst ≠ some d) : (a.put dst v).tmps[d]? = a.tmps[d]? := by
  cases dst with
  | none => rfl
  | some e =>
    have : e ≠ d := fun q => h (by rw [q])
    simp [Act.put, Array.getElem?_setIfInBounds_ne this]
theorem put_defers' (a : Act) (dst : Option Tmp) (v : Value) : (a.put dst v).defers = a.defers := by cases dst <;> rfl
theorem KSlots.congrL {a0 a : Act} {L L' : Nat → Prop} {g g' : Nat → Value} (h : KSlots ops a0 a L g) (hL : ∀ j, j < ops.size → (L' j ↔ L j)) (hg : ∀ j, L j → g' j = g j) : KSlots ops a0 a L' g' where
  defers := h.defers
  laid j o d hl ho hd := by
    have hj : j < ops.size := (Array.getElem?_eq_some_iff.1 ho).1
    rw [h.laid j o d ((hL j hj).1 hl) ho hd, hg j ((hL j hj).1 hl)]
  other d hd := h.other d fun j o hl ho => hd j o ((hL j (Array.getElem?_eq_some_iff.1 ho).1).2 hl) ho
theorem KSlots.put {a0 a : Act} {L : Nat → Prop} {g : Nat → Value} (h : KSlots ops a0 a L g) {i : Nat} {oi : Oper} (hi : ops[i]? = some oi)
    (hnd : ∀ j o d, L j → ops[j]? = some o → o.dst = some d → oi.dst ≠ some d) (hg : ∀ j, L j → j ≠ i) (v : Value) : KSlots ops a0 (a.put oi.dst v) (fun j => j = i ∨ L j) (fun j => if j = i then v else g j) where
  defers := (put_defers' _ _ _).trans h.defers
  laid j o d hl ho hd := by
    rcases hl with rfl | hl
    · obtain rfl := Option.some.inj (hi.symm.trans ho)
      rw [hd, put_get]
      have : ((a.tmps[d]?).map fun _ => v) = (a0.tmps[d]?).map fun _ => v := by
        by_cases hex : ∃ j' o', L j' ∧ ops[j']? = some o' ∧ o'.dst = some d
        · obtain ⟨j', o', h1, h2, h3⟩ := hex
          rw [h.laid j' o' d h1 h2 h3]; cases a0.tmps[d]? <;> rfl
        · rw [h.other d fun j' o' h1 h2 h3 => hex ⟨j', o', h1, h2, h3⟩]
      rw [this]; simp
    · rw [put_get_ne _ _ _ _ (hnd j o d hl ho hd), h.laid j o d hl ho hd, if_neg (hg j hl)]
  other d hd := by
    rw [put_get_ne _ _ _ _ (hd i oi (.inl rfl) hi)]
    exact h.other d fun j o hl ho => hd j o (.inr hl) ho
/-- two frames that hold the same where an operation looks -/
theorem KSlots.same {a0 a a' : Act} {L L' : Nat → Prop} {g g' : Nat → Value} (h : KSlots ops a0 a L g) (h' : KSlots ops a0 a' L' g') {d : Nat}
    (hd : ∀ j o, ops[j]? = some o → o.dst = some d → (L j ↔ L' j) ∧ (L j → g j = g' j)) : a.tmps[d]? = a'.tmps[d]? := by
  by_cases hex : ∃ j o, L j ∧ ops[j]? = some o ∧ o.dst = some d
  · obtain ⟨j, o, h1, h2, h3⟩ := hex
    obtain ⟨h4, h5⟩ := hd j o h2 h3
    rw [h.laid j o d h1 h2 h3, h'.laid j o d (h4.1 h1) h2 h3, h5 h1]
  · rw [h.other d fun j o h1 h2 h3 => hex ⟨j, o, h1, h2, h3⟩, h'.other d fun j o h1 h2 h3 => hex ⟨j, o, (hd j o h2 h3).1.2 h1, h2, h3⟩]
theorem exec_same {a a' : Act} (o : Oper) (hs : ∀ cs b, o.op ≠ .select cs b) (h : ∀ d, d ∈ o.looksAt ops → a.tmps[d]? = a'.tmps[d]?) :
    execOp a.eval o = execOp a'.eval o ∧ Region.wanted o (yielded ops a.tmps) = Region.wanted o (yielded ops a'.tmps) := by
  constructor
  · refine execOp_congr o hs fun x hx => ?_
    cases x with
    | tmp t =>
      have ht : t ∈ o.looksAt ops := List.mem_append_left _ (List.mem_filterMap.2 ⟨.tmp t, by simpa using hx, rfl⟩)
      have := h t ht
      simp [Act.eval, this]
    | _ => rfl
  · unfold Region.wanted
    cases hg : o.guard with
    | none => rfl
    | some gw =>
      obtain ⟨j, want⟩ := gw
      have hy : yielded ops a.tmps j = yielded ops a'.tmps j := by
        unfold yielded
        cases ht : (ops[j]?).bind (·.dst) with
        | none => rfl
        | some t =>
          have := h t (by simp [Oper.looksAt, hg, ht])
          simp [this]
      simp only [hy]

theorem no_letsOut : ¬ LetsOut (fun _ _ _ => False) := fun ⟨_, _, h⟩ => h
/-- what an operation does in one frame it does in another one that holds the same where it looks -/
theorem wp_other {o : Oper} {A a : Act} {W : World} {G : Value → World → Prop} {Q' : Exit → Act → World → Prop} (he : execOp a.eval o = execOp A.eval o) (hz : ∀ d, o.dst = some d → (A.tmps[d]? = none ↔ a.tmps[d]? = none))
    (h : o.wp P A W (fun a' W' => ∃ v, a' = A.put o.dst v ∧ G v W') (fun _ _ _ => False)) : o.wp P a W (fun a' W' => ∃ v, a' = a.put o.dst v ∧ G v W') Q' := by
  have put : ∀ u v, A.put o.dst u = A.put o.dst v → a.put o.dst u = a.put o.dst v := by
    intro u v e
    cases hd : o.dst with
    | none => rfl
    | some d =>
      rw [hd] at e
      have h1 : (A.put (some d) u).tmps[d]? = (A.put (some d) v).tmps[d]? := by rw [e]
      rw [put_get, put_get] at h1
      cases hA : A.tmps[d]? with
      | none =>
        have ha := (hz d hd).1 hA
        have hs : a.tmps.size ≤ d := Array.getElem?_eq_none_iff.1 ha
        show ({ a with tmps := a.tmps.setIfInBounds d u } : Act) = { a with tmps := a.tmps.setIfInBounds d v }
        rw [Array.setIfInBounds_eq_of_size_le hs, Array.setIfInBounds_eq_of_size_le hs]
      | some x =>
        rw [hA] at h1
        simp only [Option.map_some, Option.some.injEq] at h1
        rw [h1]
  unfold Oper.wp at *
  rw [he]
  generalize (execOp A.eval o).run P W = r at *
  cases r with
  | ok n w' =>
    cases n <;> simp only [Oper.upon] at h ⊢
    case value u => obtain ⟨v, e, hv⟩ := h; exact ⟨v, put _ _ e, hv⟩
    case skip => obtain ⟨v, e, hv⟩ := h; exact ⟨v, put _ _ e, hv⟩
    case defer d =>
      obtain ⟨v, e, _⟩ := h
      have := congrArg Act.defers e
      rw [put_defers', put_defers'] at this
      simp at this
    case enter f args =>
      refine Calls.mono h fun e w'' he => ?_
      cases e with
      | returned u => obtain ⟨v, e, hv⟩ := he; exact ⟨v, put _ _ e, hv⟩
      | panicked c => exact he.elim
      | outgrown => exact absurd he no_letsOut
    case row row args => exact Rows.mono h fun u w'' he => by obtain ⟨v, e, hv⟩ := he; exact ⟨v, put _ _ e, hv⟩
  | halt x w' =>
    cases x <;> simp only [Oper.upon] at h

def kActs (ops : Array Oper) (a0 : Act) (vs : Nat → Value) : Nat → Act
  | 0 => a0
  | k + 1 => (kActs ops a0 vs k).put ((ops[k]?).bind (·.dst)) (vs k)
theorem kActs_congr {a0 : Act} {vs vs' : Nat → Value} : ∀ k, (∀ j, j < k → vs j = vs' j) → kActs ops a0 vs k = kActs ops a0 vs' k
  | 0, _ => rfl
  | k + 1, h => by unfold kActs; rw [kActs_congr k (fun j hj => h j (by omega)), h k (by omega)]

/-- the facts of those that it waits for -/
def KDeps (Ts : List KSpec) (u : Nat → Value) (o : Oper) (k : Nat) (W : World) : Prop := ∀ i T, Ts[i]? = some (some (.inr T)) → i < k → kWaits o i = true → T (u i) W
def KObl (P : Program) (ops : Array Oper) (R : World → World → Prop) (W0 : World) (Ts : List KSpec) (a0 : Act) (u vs : Nat → Value) (j : Nat) : Prop := ∀ o s, ops[j]? = some o → Ts[j]? = some s →
  match s with
  | none => if Region.wanted o (yielded ops (kActs ops a0 vs j).tmps) then ∀ W, R W0 W → KDeps Ts u o j W → kQuiet P o (kActs ops a0 vs j) W (vs j) else vs j = undef
  | some (.inl c) => vs j = c ∧ ∀ W, R W0 W → KDeps Ts u o j W → kStep P ops R o (kActs ops a0 vs j) W (fun v _ => v = c)
  | some (.inr T) => vs j = u j ∧ (∀ v W W', R W W' → T v W → T v W') ∧ ∀ W, R W0 W → KDeps Ts u o j W → kStep P ops R o (kActs ops a0 vs j) W T

theorem KObl.congr {Ts : List KSpec} {a0 : Act} {u vs vs' : Nat → Value} {j : Nat} (h : KObl P ops R W0 Ts a0 u vs j) (he : ∀ i, i ≤ j → vs' i = vs i) : KObl P ops R W0 Ts a0 u vs' j := by
  intro o s ho hs
  have := h o s ho hs
  rw [kActs_congr (vs := vs') (vs' := vs) j (fun i hi => he i (by omega)), he j (Nat.le_refl _)]
  exact this

theorem kAll_data {Ts : List KSpec} {a0 : Act} (u : Nat → Value) : ∀ (l : List Oper) (Ts' : List KSpec) (k : Nat) (F : List (Nat × (World → Prop))) (vs0 : Nat → Value), (∀ j, j < l.length → ops[k + j]? = l[j]?) → (∀ j, Ts[k + j]? = Ts'[j]?) →
    (∀ o W, KDeps Ts u o k W → kHas o W F) → (∀ W, (∀ i T, i < k → Ts[i]? = some (some (.inr T)) → T (u i) W) → kAllHas W F) → kAll P ops R W0 Q k l Ts' (kActs ops a0 vs0 k) F →
    ∃ vs, (∀ j, j < k → vs j = vs0 j) ∧ (∀ j, k ≤ j → j < k + l.length → j < Ts.length ∧ KObl P ops R W0 Ts a0 u vs j) ∧ ∀ W, R W0 W → (∀ i T, i < k + l.length → Ts[i]? = some (some (.inr T)) → T (u i) W) → Q (kActs ops a0 vs (k + l.length)) W
  | [], Ts', k, F, vs0, _, _, _, hall, h => ⟨vs0, fun _ _ => rfl, fun j h1 h2 => by simp at h2; omega, fun W hW hf => by unfold kAll at h; exact h W hW (hall W (by simpa using hf))⟩
  | o :: l, [], k, F, vs0, _, _, _, _, h => by unfold kAll at h; exact h.elim
  | o :: l, s :: Ts', k, F, vs0, hl, hT, hdep, hall, h => by
    have ho : ops[k]? = some o := by simpa using hl 0 (by simp)
    have hs : Ts[k]? = some s := by simpa using hT 0
    have hkT : k < Ts.length := (List.getElem?_eq_some_iff.1 hs).1
    have hl' : ∀ j, j < l.length → ops[k + 1 + j]? = l[j]? := fun j hj => by have := hl (j + 1) (by simp; omega); simpa [Nat.add_assoc, Nat.add_comm 1 j] using this
    have hT' : ∀ j, Ts[k + 1 + j]? = Ts'[j]? := fun j => by have := hT (j + 1); simpa [Nat.add_assoc, Nat.add_comm 1 j] using this
    have act : ∀ v, kActs ops a0 (fun j => if j = k then v else vs0 j) (k + 1) = (kActs ops a0 vs0 k).put o.dst v := fun v => by
      show (kActs ops a0 _ k).put _ _ = _
      rw [kActs_congr (vs' := vs0) k (fun j hj => if_neg (by omega)), ho]
      simp
    have depS : (∀ T, s ≠ some (.inr T)) → (∀ o W, KDeps Ts u o (k + 1) W → kHas o W F) ∧ (∀ W, (∀ i T, i < k + 1 → Ts[i]? = some (some (.inr T)) → T (u i) W) → kAllHas W F) := fun _ =>
      ⟨fun o W hd => hdep o W (fun i T h1 h2 h3 => hd i T h1 (by omega) h3), fun W hf => hall W (fun i T h1 h2 => hf i T (by omega) h2)⟩
    have fin : ∀ v, (KObl P ops R W0 Ts a0 u (fun j => if j = k then v else vs0 j) k) → (∃ vs, (∀ j, j < k + 1 → vs j = (fun j => if j = k then v else vs0 j) j) ∧ (∀ j, k + 1 ≤ j → j < k + 1 + l.length → j < Ts.length ∧ KObl P ops R W0 Ts a0 u vs j) ∧ ∀ W, R W0 W → (∀ i T, i < k + 1 + l.length → Ts[i]? = some (some (.inr T)) → T (u i) W) → Q (kActs ops a0 vs (k + 1 + l.length)) W) →
        ∃ vs, (∀ j, j < k → vs j = vs0 j) ∧ (∀ j, k ≤ j → j < k + (o :: l).length → j < Ts.length ∧ KObl P ops R W0 Ts a0 u vs j) ∧ ∀ W, R W0 W → (∀ i T, i < k + (o :: l).length → Ts[i]? = some (some (.inr T)) → T (u i) W) → Q (kActs ops a0 vs (k + (o :: l).length)) W := by
      rintro v hob ⟨vs, h1, h2, h3⟩
      have el : k + (o :: l).length = k + 1 + l.length := by simp; omega
      refine ⟨vs, fun j hj => (h1 j (by omega)).trans (if_neg (by omega)), fun j hj hj2 => ?_, ?_⟩
      · by_cases e : j = k
        · subst e; exact ⟨hkT, hob.congr fun i hi => h1 i (by omega)⟩
        · exact h2 j (by omega) (by omega)
      · rw [el]; exact h3
    have eacts : ∀ v, kActs ops a0 (fun j => if j = k then v else vs0 j) k = kActs ops a0 vs0 k := fun v => kActs_congr k (fun j hj => if_neg (by omega))
    cases s with
    | none =>
      unfold kAll at h
      obtain ⟨d1, d2⟩ := depS (fun T e => by cases e)
      by_cases hw : Region.wanted o (yielded ops (kActs ops a0 vs0 k).tmps) = true
      · rw [if_pos hw] at h
        obtain ⟨v, hq, hr⟩ := h
        rw [← act v] at hr
        refine fin v ?_ (kAll_data u l Ts' (k + 1) F _ hl' hT' d1 d2 hr)
        intro o' s' ho' hs'
        obtain rfl := Option.some.inj (ho.symm.trans ho')
        obtain rfl := Option.some.inj (hs.symm.trans hs')
        simp only [eacts, hw, if_true]
        exact fun W hW hd => hq W hW (hdep o W hd)
      · rw [if_neg hw] at h
        rw [← act undef] at h
        refine fin undef ?_ (kAll_data u l Ts' (k + 1) F _ hl' hT' d1 d2 h)
        intro o' s' ho' hs'
        obtain rfl := Option.some.inj (ho.symm.trans ho')
        obtain rfl := Option.some.inj (hs.symm.trans hs')
        simp only [eacts]
        rw [if_neg hw]; simp
    | some s =>
      cases s with
      | inl c =>
        unfold kAll at h
        obtain ⟨d1, d2⟩ := depS (fun T e => by cases e)
        obtain ⟨hq, hr⟩ := h
        rw [← act c] at hr
        refine fin c ?_ (kAll_data u l Ts' (k + 1) F _ hl' hT' d1 d2 hr)
        intro o' s' ho' hs'
        obtain rfl := Option.some.inj (ho.symm.trans ho')
        obtain rfl := Option.some.inj (hs.symm.trans hs')
        simp only [eacts, if_true]
        exact ⟨trivial, fun W hW hd => hq W hW (hdep o W hd)⟩
      | inr T =>
        unfold kAll at h
        obtain ⟨hm, hq, hr⟩ := h
        have hr := hr (u k)
        rw [← act (u k)] at hr
        refine fin (u k) ?_ (kAll_data u l Ts' (k + 1) _ _ hl' hT' ?_ ?_ hr)
        · intro o' s' ho' hs'
          obtain rfl := Option.some.inj (ho.symm.trans ho')
          obtain rfl := Option.some.inj (hs.symm.trans hs')
          simp only [eacts, if_true]
          exact ⟨trivial, hm, fun W hW hd => hq W hW (hdep o W hd)⟩
        · intro o' W hd
          refine ⟨?_, hdep o' W (fun i T h1 h2 h3 => hd i T h1 (by omega) h3)⟩
          by_cases hk : kWaits o' k = true
          · rw [if_pos hk]; exact hd k T hs (by omega) hk
          · rw [if_neg hk]; trivial
        · intro W hf
          exact ⟨hf k T (by omega) hs, hall W (fun i T h1 h2 => hf i T (by omega) h2)⟩

/-- the check over a region: n operations in whatever order, the rest one behind the other -/
def kripB (ops : Array Oper) (n : Nat) : Bool :=
  Region.noSelect ops && decide (n ≤ ops.size) && ((decide (n = ops.size)) || (Region.sinkB .any ops n && Region.chainB .any ops n)) &&
  (Region.seqB .any ops (ops.size - n) n ((List.replicate n true ++ List.replicate (ops.size - n) false).toArray)) &&
  ((List.range n).all fun i => (List.range n).all fun j => j ≤ i || (match (ops[i]?).bind (·.dst), (ops[j]?).bind (·.dst) with | some d, some e => d != e | _, _ => true)) &&
  ((List.range n).all fun j => match ops[j]? with
    | some oj => (oj.after.all fun e => !Region.binds .any e || decide (e.on < j)) &&
      (List.range n).all fun i => i == j || (match (ops[i]?).bind (·.dst) with | some d => !(oj.looksAt ops).contains d || (if i < j then kWaits oj i else Region.waitsFor .any ops i j) | none => true)
    | none => true)

structure KripB (ops : Array Oper) (n : Nat) : Prop where
  sel : Region.noSelect ops = true
  le : n ≤ ops.size
  tail : n = ops.size ∨ (Region.sinkB .any ops n = true ∧ Region.chainB .any ops n = true)
  seq : Region.seqB .any ops (ops.size - n) n ((List.replicate n true ++ List.replicate (ops.size - n) false).toArray) = true
  dst : ∀ i j oi oj d, i < n → j < n → i ≠ j → ops[i]? = some oi → ops[j]? = some oj → oi.dst = some d → oj.dst ≠ some d
  low : ∀ j oj, j < n → ops[j]? = some oj → ∀ e ∈ oj.after, Region.binds .any e = true → e.on < j
  look : ∀ i j oi oj d, i < n → j < n → i ≠ j → ops[i]? = some oi → ops[j]? = some oj → oi.dst = some d → d ∈ oj.looksAt ops → if i < j then kWaits oj i = true else Region.waitsFor .any ops i j = true
theorem kripB_spec {n : Nat} (h : kripB ops n = true) : KripB ops n := by
  simp only [kripB, Bool.and_eq_true, decide_eq_true_eq, Bool.or_eq_true] at h
  obtain ⟨⟨⟨⟨⟨h1, h2⟩, h3⟩, h4⟩, h5⟩, h6⟩ := h
  have hd : ∀ i j oi oj d, i < n → j < n → i < j → ops[i]? = some oi → ops[j]? = some oj → oi.dst = some d → oj.dst ≠ some d := by
    intro i j oi oj d hi hj hij ho ho' hd hd'
    have := List.all_eq_true.1 (List.all_eq_true.1 h5 i (List.mem_range.2 hi)) j (List.mem_range.2 hj)
    simp only [ho, ho', Option.bind_some, hd, hd', Bool.or_eq_true, decide_eq_true_eq] at this
    rcases this with h | h
    · omega
    · simp at h
  refine ⟨h1, h2, h3, h4, ?_, ?_, ?_⟩
  · intro i j oi oj d hi hj hij ho ho' hd1
    rcases Nat.lt_or_gt_of_ne hij with h | h
    · exact hd i j oi oj d hi hj h ho ho' hd1
    · intro hd2
      exact hd j i oj oi d hj hi h ho' ho hd2 hd1
  · intro j oj hj ho e he hb
    have := List.all_eq_true.1 h6 j (List.mem_range.2 hj)
    simp only [ho, Bool.and_eq_true] at this
    have := Array.all_eq_true_iff_forall_mem.1 this.1 e he
    simpa [hb] using this
  · intro i j oi oj d hi hj hij ho ho' hd1 hlook
    have := List.all_eq_true.1 h6 j (List.mem_range.2 hj)
    simp only [ho', Bool.and_eq_true] at this
    have := List.all_eq_true.1 this.2 i (List.mem_range.2 hi)
    simp only [ho, Option.bind_some, hd1, Bool.or_eq_true, beq_iff_eq, hij, false_or, Bool.not_eq_true', List.contains_eq_mem, decide_eq_false_iff_not, hlook, not_true_eq_false] at this
    by_cases hij' : i < j
    · simpa [hij'] using this
    · simpa [hij'] using this

/-- how a run stands: which operations have come up, what they have laid -/
structure KInv (ops : Array Oper) (R : World → World → Prop) (W0 : World) (n : Nat) (Ts : List KSpec) (a0 : Act) (V : (Nat → Value) → Nat → Value) (listed : Array Bool) (a : Act) (g : Nat → Value) (W : World) : Prop where
  head : HeadInv .any ops n listed
  rel : R W0 W
  facts : ∀ j T, listed.getD j false = true → Ts[j]? = some (some (.inr T)) → T (g j) W
  vals : ∀ u, (∀ j T, listed.getD j false = true → Ts[j]? = some (some (.inr T)) → u j = g j) → ∀ j, listed.getD j false = true → V u j = g j
  slots : KSlots ops a0 a (fun j => listed.getD j false = true) g

theorem kActs_slots {n : Nat} (hB : KripB ops n) (a0 : Act) (vs : Nat → Value) : ∀ k, k ≤ n → KSlots ops a0 (kActs ops a0 vs k) (fun j => j < k) vs
  | 0, _ => (KSlots.init ops a0 vs).congrL (fun j _ => by simp) (fun _ h => h.elim)
  | k + 1, hk => by
    have ih := kActs_slots hB a0 vs k (by omega)
    have hlt : k < ops.size := by have := hB.le; omega
    have ho : ops[k]? = some ops[k] := Array.getElem?_eq_getElem hlt
    have := ih.put ho (fun j o d hj hoj hd => fun hd' => hB.dst j k o _ d (by omega) (by omega) (by omega) hoj ho hd hd') (fun j hj => by omega) (vs k)
    have e : kActs ops a0 vs (k + 1) = (kActs ops a0 vs k).put (ops[k]).dst (vs k) := by
      show Act.put _ ((ops[k]?).bind (·.dst)) _ = _
      rw [ho]; rfl
    rw [e]
    refine this.congrL (fun j _ => by omega) (fun j hj => ?_)
    by_cases h : j = k
    · subst h; simp
    · simp [h]

variable {n : Nat} {Ts : List KSpec} {a0 : Act} {V : (Nat → Value) → Nat → Value}
theorem KInv.exec {listed : Array Bool} {a : Act} {g : Nat → Value} {W : World} (hB : KripB ops n) (h : KInv ops R W0 n Ts a0 V listed a g W) {i : Nat} {o : Oper} (ho : ops[i]? = some o) (hi : i < n) (hr : i ∈ Region.ready .any ops listed)
    {u : Nat → Value} (hu : ∀ j T, listed.getD j false = true → Ts[j]? = some (some (.inr T)) → u j = g j) :
    execOp a.eval o = execOp (kActs ops a0 (V u) i).eval o ∧ Region.wanted o (yielded ops a.tmps) = Region.wanted o (yielded ops (kActs ops a0 (V u) i).tmps) := by
  have hs := kActs_slots hB a0 (V u) i (by omega)
  obtain ⟨hun, o', ho', hall⟩ := mem_ready.1 hr
  obtain rfl := Option.some.inj (ho.symm.trans ho')
  refine exec_same o (fun cs b => Region.noSelect_spec hB.sel i o cs b ho) fun d hd => h.slots.same hs fun j oj hj hdj => ?_
  by_cases hjn : j < n
  · by_cases hji : j = i
    · subst hji
      have := getD_both hun
      simp [this]
    · have := hB.look j i oj o d hjn hi hji hj ho hdj hd
      by_cases hlt : j < i
      · rw [if_pos hlt] at this
        obtain ⟨e, he, hb⟩ := Array.any_eq_true'.1 this
        simp only [Bool.and_eq_true, beq_iff_eq] at hb
        have hl := hall e he hb.1
        rw [hb.2] at hl
        exact ⟨⟨fun _ => hlt, fun _ => hl⟩, fun _ => (h.vals u hu j hl).symm⟩
      · rw [if_neg hlt] at this
        obtain ⟨oj', hoj', e, he, hb, hon⟩ := Region.waitsFor_spec this
        have hnl : ¬ listed.getD j false = true := fun hl => by
          have := h.head.closed j oj' hoj' hl e he hb
          rw [hon, getD_both hun] at this
          cases this
        exact ⟨⟨fun hl => absurd hl hnl, fun hl => absurd hl hlt⟩, fun hl => absurd hl hnl⟩
  · have hjs : j < ops.size := (Array.getElem?_eq_some_iff.1 hj).1
    have hnl : ¬ listed.getD j false = true := fun hl => by
      have := getD_both (h.head.tail j (by omega) hjs)
      rw [this] at hl; cases hl
    exact ⟨⟨fun hl => absurd hl hnl, fun hl => by omega⟩, fun hl => absurd hl hnl⟩

theorem getD_set_iff {listed : Array Bool} {i j : Nat} (hi : i < listed.size) : (listed.setIfInBounds i true).getD j false = true ↔ j = i ∨ listed.getD j false = true := by
  by_cases h : i = j
  · subst h; simp [hi]
  · rw [getD_set_ne false h]
    constructor
    · exact fun h => .inr h
    · rintro (h' | h')
      · exact absurd h'.symm h
      · exact h'

theorem KInv.step {P : Program} {Q' : Exit → Act → World → Prop} {listed : Array Bool} {a : Act} {g : Nat → Value} {W : World} (hB : KripB ops n) (hRefl : ∀ a, R a a) (htr : ∀ a b c, R a b → R b c → R a c)
    (hV : ∀ u j, j < n → j < Ts.length ∧ KObl P ops R W0 Ts a0 u (V u) j)
    (h : KInv ops R W0 n Ts a0 V listed a g W) {i : Nat} (hi : i < n) (hr : i ∈ Region.ready .any ops listed) :
    wpOp P ops Q' i (fun a' W' => ∃ g', KInv ops R W0 n Ts a0 V (listed.setIfInBounds i true) a' g' W') a W := by
  have hr' := hr
  obtain ⟨hun, o, ho, hall⟩ := mem_ready.1 hr'
  have hsz : i < listed.size := by rw [h.head.size]; exact (Array.getElem?_eq_some_iff.1 ho).1
  have hunf := getD_both hun
  have hiT : i < Ts.length := (hV g i hi).1
  obtain ⟨s, hs⟩ : ∃ s, Ts[i]? = some s := ⟨_, List.getElem?_eq_getElem hiT⟩
  have deps : ∀ u, (∀ j T, listed.getD j false = true → Ts[j]? = some (some (.inr T)) → u j = g j) → KDeps Ts u o i W := by
    intro u hu j T hT hj hw
    obtain ⟨e, he, hb⟩ := Array.any_eq_true'.1 hw
    simp only [Bool.and_eq_true, beq_iff_eq] at hb
    have hl := hall e he hb.1
    rw [hb.2] at hl
    rw [hu j T hl hT]
    exact h.facts j T hl hT
  -- what stands behind a value v in a world W'
  have next : ∀ v W', R W W' → (∀ T, Ts[i]? = some (some (.inr T)) → T v W') → (∀ j T, listed.getD j false = true → Ts[j]? = some (some (.inr T)) → T (g j) W') → (∀ u, (∀ j T, listed.getD j false = true → Ts[j]? = some (some (.inr T)) → u j = g j) → (∀ T, Ts[i]? = some (some (.inr T)) → u i = v) → V u i = v) →
      ∃ g', KInv ops R W0 n Ts a0 V (listed.setIfInBounds i true) (a.put o.dst v) g' W' := by
    intro v W' hR hT hF hvu
    refine ⟨fun j => if j = i then v else g j, ⟨h.head.set hr hi, htr _ _ _ h.rel hR, ?_, ?_, ?_⟩⟩
    · intro j T hj hT'
      by_cases e : j = i
      · subst e; simpa using hT T hT'
      · rw [if_neg e]; exact hF j T (((getD_set_iff hsz).1 hj).resolve_left e) hT'
    · intro u hu
      have hu1 : ∀ j T, listed.getD j false = true → Ts[j]? = some (some (.inr T)) → u j = g j := fun j T hl hT' => by
        have e : j ≠ i := fun e => by subst e; rw [hunf] at hl; cases hl
        have := hu j T ((getD_set_iff hsz).2 (.inr hl)) hT'
        rwa [if_neg e] at this
      intro j hj
      by_cases e : j = i
      · subst e
        rw [if_pos rfl]
        exact hvu u hu1 fun T hT' => by have := hu j T ((getD_set_iff hsz).2 (.inl rfl)) hT'; rwa [if_pos rfl] at this
      · rw [if_neg e]; exact h.vals u hu1 j (((getD_set_iff hsz).1 hj).resolve_left e)
    · have := h.slots.put ho (fun j oj d hl hoj hd => by
        have e : j ≠ i := fun e => by subst e; rw [hunf] at hl; cases hl
        have hjn : j < n := by
          rcases Nat.lt_or_ge j n with h' | h'
          · exact h'
          · have := getD_both (h.head.tail j h' (Array.getElem?_eq_some_iff.1 hoj).1)
            rw [this] at hl; cases hl
        exact hB.dst j i oj o d hjn hi e hoj ho hd) (fun j hl e => by subst e; rw [hunf] at hl; cases hl) v
      exact this.congrL (fun j _ => getD_set_iff hsz) (fun _ _ => rfl)
  have ob := (hV g i hi).2 o s ho hs
  obtain ⟨ex, wn⟩ := h.exec hB ho hi hr (u := g) (fun _ _ _ _ => rfl)
  have dg := deps g (fun _ _ _ _ => rfl)
  have slot0 : ∀ (a a' : Act) (L : Nat → Prop) (g : Nat → Value), KSlots ops a a' L g → ∀ d : Nat, a'.tmps[d]? = none ↔ a.tmps[d]? = none := by
    intro a a' L g hk d
    by_cases hex : ∃ j oj, L j ∧ ops[j]? = some oj ∧ oj.dst = some d
    · obtain ⟨j, oj, h1, h2, h3⟩ := hex
      rw [hk.laid j oj d h1 h2 h3]; simp
    · rw [hk.other d fun j oj h1 h2 h3 => hex ⟨j, oj, h1, h2, h3⟩]
  have hz : ∀ d : Nat, o.dst = some d → ((kActs ops a0 (V g) i).tmps[d]? = none ↔ a.tmps[d]? = none) := fun d _ =>
    (slot0 _ _ _ _ (kActs_slots hB a0 (V g) i (by omega)) d).trans (slot0 _ _ _ _ h.slots d).symm
  have viaStep : ∀ (T : Value → World → Prop), kStep P ops R o (kActs ops a0 (V g) i) W T → (∀ v W', R W W' → T v W' → ∃ g', KInv ops R W0 n Ts a0 V (listed.setIfInBounds i true) (a.put o.dst v) g' W') → (∀ v, T v W → Region.wanted o (yielded ops a.tmps) = false → v = undef → ∃ g', KInv ops R W0 n Ts a0 V (listed.setIfInBounds i true) (a.put o.dst v) g' W) →
      wpOp P ops Q' i (fun a' W' => ∃ g', KInv ops R W0 n Ts a0 V (listed.setIfInBounds i true) a' g' W') a W := by
    intro T hst hn hn0
    unfold wpOp
    simp only [ho]
    unfold kStep at hst
    rw [← wn] at hst
    by_cases hw : Region.wanted o (yielded ops a.tmps) = true
    · rw [if_pos hw] at hst ⊢
      refine .inl ?_
      have := hst (fun a' W' => ∃ v, a' = (kActs ops a0 (V g) i).put o.dst v ∧ (R W W' ∧ T v W')) (fun _ _ _ => False) (fun v W' h1 h2 => ⟨v, rfl, h1, h2⟩)
      exact Oper.wp_mono (fun a' W' => by rintro ⟨v, rfl, h1, h2⟩; exact hn v W' h1 h2) (wp_other (Q' := Q') ex hz this)
    · rw [if_neg hw] at hst ⊢
      exact hn0 undef hst (by simpa using hw) rfl
  cases s with
  | none =>
    simp only at ob
    rw [← wn] at ob
    have noT : ∀ {p : (Value → World → Prop) → Prop}, ∀ T, Ts[i]? = some (some (.inr T)) → p T := fun T hT => by rw [hs] at hT; cases hT
    unfold wpOp
    simp only [ho]
    by_cases hw : Region.wanted o (yielded ops a.tmps) = true
    · rw [if_pos hw] at ob ⊢
      refine .inl ?_
      have hq := ob W h.rel dg
      have same : ∀ u, (∀ j T, listed.getD j false = true → Ts[j]? = some (some (.inr T)) → u j = g j) → kQuietUpon W (V u i) ((execOp a.eval o).run P W) := by
        intro u hu
        obtain ⟨ex', wn'⟩ := h.exec hB ho hi hr hu
        have ob' := (hV u i hi).2 o none ho hs
        simp only at ob'
        rw [← wn', if_pos hw] at ob'
        have := ob' W h.rel (deps u hu)
        unfold kQuiet at this
        rwa [← ex'] at this
      unfold kQuiet at hq
      rw [← ex] at hq
      unfold Oper.wp
      generalize (execOp a.eval o).run P W = r at *
      cases r with
      | halt x w' => exact hq.elim
      | ok nx w' =>
        cases nx with
        | value v =>
          simp only [kQuietUpon] at hq same
          simp only [Oper.upon]
          obtain ⟨e1, e2⟩ := hq
          refine next v w' ?_ noT ?_ (fun u hu _ => ((same u hu).2).symm)
          · rw [e1]; exact hRefl W
          · intro j T hl hT; rw [e1]; exact h.facts j T hl hT
        | skip =>
          simp only [kQuietUpon] at hq same
          simp only [Oper.upon]
          obtain ⟨e1, e2⟩ := hq
          refine next undef w' ?_ noT ?_ (fun u hu _ => (same u hu).2)
          · rw [e1]; exact hRefl W
          · intro j T hl hT; rw [e1]; exact h.facts j T hl hT
        | _ => exact hq.elim
    · rw [if_neg hw] at ob ⊢
      refine next undef W (hRefl W) noT (fun j T hl hT => h.facts j T hl hT) (fun u hu _ => ?_)
      obtain ⟨ex', wn'⟩ := h.exec hB ho hi hr hu
      have ob' := (hV u i hi).2 o none ho hs
      simp only at ob'
      rw [← wn', if_neg hw] at ob'
      exact ob'
  | some s =>
    have mono : ∀ j T, Ts[j]? = some (some (.inr T)) → j < n → ∀ v W W', R W W' → T v W → T v W' := by
      intro j T hT hj
      obtain ⟨oj, hoj⟩ : ∃ oj, ops[j]? = some oj := ⟨_, Array.getElem?_eq_getElem (by have := hB.le; omega)⟩
      have := (hV g j hj).2 oj _ hoj hT
      exact this.2.1
    have factsK : ∀ W', R W W' → ∀ j T, listed.getD j false = true → Ts[j]? = some (some (.inr T)) → T (g j) W' := by
      intro W' hR j T hl hT
      have hjn : j < n := by
        rcases Nat.lt_or_ge j n with h' | h'
        · exact h'
        · have hjs : j < ops.size := by
            rcases Nat.lt_or_ge j ops.size with h2 | h2
            · exact h2
            · rw [← h.head.size] at h2
              simp [Array.getElem?_eq_none h2] at hl
          have := getD_both (h.head.tail j h' hjs)
          rw [this] at hl; cases hl
      exact mono j T hT hjn _ _ _ hR (h.facts j T hl hT)
    cases s with
    | inl c =>
      simp only at ob
      have noT : ∀ {p : (Value → World → Prop) → Prop}, ∀ T, Ts[i]? = some (some (.inr T)) → p T := fun T hT => by rw [hs] at hT; cases hT
      have hc : ∀ u, V u i = c := fun u => by have := (hV u i hi).2 o _ ho hs; exact this.1
      refine viaStep _ (ob.2 W h.rel dg) (fun v W' hR hv => ?_) (fun v hv hw hu => ?_)
      · exact next v W' hR noT (factsK W' hR) (fun u _ _ => by rw [hc u, hv])
      · exact next v W (hRefl W) noT (factsK W (hRefl W)) (fun u _ _ => by rw [hc u, hv])
    | inr T =>
      simp only at ob
      have hc : ∀ u, V u i = u i := fun u => by have := (hV u i hi).2 o _ ho hs; exact this.1
      refine viaStep T (ob.2.2 W h.rel dg) (fun v W' hR hv => ?_) (fun v hv hw hu => ?_)
      · exact next v W' hR (fun T' hT' => by rw [hs] at hT'; cases hT'; exact hv) (factsK W' hR) (fun u _ hT => by rw [hc u, hT T hs])
      · exact next v W (hRefl W) (fun T' hT' => by rw [hs] at hT'; cases hT'; exact hv) (factsK W (hRefl W)) (fun u _ hT => by rw [hc u, hT T hs])

/-- those of the first n that have not come up -/
def unl (n : Nat) (listed : Array Bool) : List Nat := (List.range n).filter fun j => !listed.getD j false
theorem unl_set {listed : Array Bool} {i : Nat} (hi : i < n) (hsz : i < listed.size) (hun : listed.getD i false = false) : (unl n (listed.setIfInBounds i true)).length + 1 = (unl n listed).length := by
  have e : unl n (listed.setIfInBounds i true) = (unl n listed).erase i := by
    have hnd : (unl n listed).Nodup := List.Nodup.sublist List.filter_sublist List.nodup_range
    rw [hnd.erase_eq_filter]
    unfold unl
    rw [List.filter_filter]
    refine List.filter_congr fun j _ => ?_
    by_cases h : j = i
    · subst h; simp [hsz]
    · rw [getD_set_ne false (Ne.symm h)]; simp [h]
  have hm : i ∈ unl n listed := List.mem_filter.2 ⟨List.mem_range.2 hi, by simp [hun]⟩
  rw [e, List.length_erase_of_mem hm]
  have := List.length_pos_of_mem hm
  omega

theorem KInv.run {P : Program} {Q' : Exit → Act → World → Prop} (hB : KripB ops n) (hRefl : ∀ a, R a a) (htr : ∀ a b c, R a b → R b c → R a c)
    (hV : ∀ u j, j < n → j < Ts.length ∧ KObl P ops R W0 Ts a0 u (V u) j) (hfin : ∀ u W, R W0 W → (∀ i T, i < n → Ts[i]? = some (some (.inr T)) → T (u i) W) → wpList P ops Q' (ops.toList.drop n) (kActs ops a0 (V u) n) W) :
    ∀ (m : Nat) (listed : Array Bool) (a : Act) (g : Nat → Value) (W : World), KInv ops R W0 n Ts a0 V listed a g W → (unl n listed).length = m → wpAny P .any ops Q' (m + (ops.size - n)) listed a W
  | 0, listed, a, g, W, h, hm => by
    have hall : ∀ j, j < n → listed.getD j false = true := fun j hj => by
      cases hl : listed.getD j false with
      | true => rfl
      | false =>
        have : j ∈ unl n listed := List.mem_filter.2 ⟨List.mem_range.2 hj, by simp only [hl]; rfl⟩
        rw [List.eq_nil_of_length_eq_zero hm] at this
        cases this
    have hnot : ∀ j, n ≤ j → ¬ listed.getD j false = true := fun j hj hl => by
      rcases Nat.lt_or_ge j ops.size with h2 | h2
      · have := getD_both (h.head.tail j hj h2); rw [this] at hl; cases hl
      · rw [← h.head.size] at h2
        simp [Array.getElem?_eq_none h2] at hl
    have el : listed = (List.replicate n true ++ List.replicate (ops.size - n) false).toArray := by
      have hsz := h.head.size
      have hle := hB.le
      apply Array.ext
      · simp; omega
      · intro j h1 h2
        by_cases hj : j < n
        · have := hall j hj
          simp [h1] at this
          simp [this, hj]
        · have := hnot j (by omega)
          simp [h1] at this
          simp [this, List.getElem_append, hj]
    have ea : a = kActs ops a0 (V g) n := by
      have hs := kActs_slots hB a0 (V g) n (Nat.le_refl _)
      have ht : ∀ d : Nat, a.tmps[d]? = (kActs ops a0 (V g) n).tmps[d]? := fun d => h.slots.same hs fun j oj hj hd => by
        by_cases hjn : j < n
        · exact ⟨⟨fun _ => hjn, fun _ => hall j hjn⟩, fun _ => (h.vals g (fun _ _ _ _ => rfl) j (hall j hjn)).symm⟩
        · exact ⟨⟨fun hl => absurd hl (hnot j (by omega)), fun hl => absurd hl hjn⟩, fun hl => absurd hl (hnot j (by omega))⟩
      have hd : a.defers = (kActs ops a0 (V g) n).defers := h.slots.defers.trans hs.defers.symm
      have htm : a.tmps = (kActs ops a0 (V g) n).tmps := Array.ext_getElem? ht
      cases a
      simp only at htm hd
      rw [htm, hd]
    have := hfin g W h.rel (fun i T hi hT => h.facts i T (hall i hi) hT)
    rw [← ea] at this
    have hseq := hB.seq
    rw [← el] at hseq
    have hdl : (ops.toList.drop n).length = ops.size - n := by simp
    have := wpAny_of_seq (md := .any) (Q' := Q') (ops.toList.drop n) n listed a W (fun j => by simp [List.getElem?_drop]) (by rw [hdl]; exact hseq) this
    rw [hdl] at this
    rw [Nat.zero_add]
    exact this
  | m + 1, listed, a, g, W, h, hm => by
    rw [show m + 1 + (ops.size - n) = (m + (ops.size - n)) + 1 by omega]
    have hle := hB.le
    have hne : ∃ i, i ∈ Region.ready .any ops listed ∧ i < n := by
      have hex : ∃ j, j < n ∧ listed.getD j false = false := by
        have : unl n listed ≠ [] := fun e => by rw [e] at hm; cases hm
        obtain ⟨j, hj⟩ := List.exists_mem_of_ne_nil _ this
        obtain ⟨h1, h2⟩ := List.mem_filter.1 hj
        exact ⟨j, List.mem_range.1 h1, by simpa using h2⟩
      have least : ∀ j, j < n → listed.getD j false = false → ∃ i, i ∈ Region.ready .any ops listed ∧ i < n := by
        intro j
        induction j using Nat.strongRecOn with
        | _ j ih =>
          intro hj hl
          have hjs : j < ops.size := by omega
          have ho : ops[j]? = some ops[j] := Array.getElem?_eq_getElem hjs
          by_cases hall : ∀ e ∈ (ops[j]).after, Region.binds .any e = true → listed.getD e.on false = true
          · exact ⟨j, mem_ready.2 ⟨getD_in (by rw [h.head.size]; exact hjs) hl, _, ho, hall⟩, hj⟩
          · have : ∃ e ∈ (ops[j]).after, Region.binds .any e = true ∧ listed.getD e.on false = false := by
              apply Classical.byContradiction
              intro hn
              apply hall
              intro e he hb
              cases hl : listed.getD e.on false with
              | true => rfl
              | false => exact absurd ⟨e, he, hb, hl⟩ hn
            obtain ⟨e, he, hb, hl'⟩ := this
            have hlow := hB.low j _ hj ho e he hb
            exact ih e.on hlow (by omega) hl'
      obtain ⟨j, hj, hl⟩ := hex
      exact least j hj hl
    refine ⟨fun h0 => ?_, fun i hi => ?_⟩
    · obtain ⟨i, hi, _⟩ := hne
      rw [h0] at hi; cases hi
    · have hin : i < n := by
        rcases Nat.lt_or_ge i n with h' | h'
        · exact h'
        · obtain ⟨k, hk, hkn⟩ := hne
          have hkun := (mem_ready.1 hk).1
          have his : i < ops.size := by obtain ⟨_, o, ho, _⟩ := mem_ready.1 hi; exact (Array.getElem?_eq_some_iff.1 ho).1
          rcases hB.tail with ht | ⟨hs, hc⟩
          · omega
          · exact absurd hi (tail_waits hs hc (by omega) h.head _ k rfl hkn hkun i h')
      have hun := (mem_ready.1 hi).1
      have hsz : i < listed.size := by rw [h.head.size]; omega
      refine wpOp_mono (fun a' W' => ?_) (h.step hB hRefl htr hV hin hi)
      rintro ⟨g', hg'⟩
      have := unl_set hin hsz (getD_both hun)
      exact KInv.run hB hRefl htr hV hfin m _ a' g' W' hg' (by omega)

/-- A region that draws its order: the first n operations, each shown once, in whatever later world it comes up; then the rest, one behind the other. -/
theorem wp_region_krip {P : Program} (R : World → World → Prop) (hRefl : ∀ a, R a a) (htr : ∀ a b c, R a b → R b c → R a c) {id : Nat} {Q' : Exit → Act → World → Prop} {a : Act} {w : World} {l : List Oper} (n : Nat) (hm : P.follows .mixedOrders = true)
    (hB : kripB l.toArray n = true) {Ts : List KSpec}
    (h : kAll P l.toArray R w.drew (fun a W => wpList P l.toArray Q' (l.drop n) a W) 0 (l.take n) Ts a []) : (Code.region id l.toArray true).wp P Q' a w := by
  have hB := kripB_spec hB
  have hle := hB.le
  refine wp_region_any hm ?_
  have dat := fun u => kAll_data (Ts := Ts) (a0 := a) u (l.take n) Ts 0 [] (fun _ => undef) (fun j hj => by
    have : j < n := by simp at hj; omega
    simp [this]) (fun j => by simp) (fun _ _ _ => trivial) (fun _ _ => trivial) h
  have hlen : 0 + (l.take n).length = n := by simp at hle ⊢; omega
  rw [hlen] at dat
  let V := fun u => Classical.choose (dat u)
  have hV : ∀ u, _ := fun u => Classical.choose_spec (dat u)
  have inv0 : KInv l.toArray R w.drew n Ts a V (Array.replicate l.toArray.size false) a (fun _ => undef) w.drew := by
    refine ⟨⟨by simp, fun j oj _ hl => (by rw [getD_replicate_false] at hl; cases hl), fun t _ ht => getD_in (by simpa using ht) (getD_replicate_false _ _)⟩, hRefl _, fun j T hl => (by rw [getD_replicate_false] at hl; cases hl), fun u _ j hl => (by rw [getD_replicate_false] at hl; cases hl), ?_⟩
    exact (KSlots.init l.toArray a (fun _ => undef)).congrL (fun j _ => by rw [getD_replicate_false]; simp) (fun _ h => h.elim)
  have hu0 : (unl n (Array.replicate l.toArray.size false)).length = n := by
    unfold unl
    rw [List.filter_eq_self.2 (fun j _ => by rw [getD_replicate_false]; rfl)]
    simp
  have := KInv.run (P := P) (Q' := Q') hB hRefl htr (Ts := Ts) (V := V) (fun u j hj => (hV u).2.1 j (Nat.zero_le _) (by omega)) (fun u W hW hf => by
    exact (hV u).2.2 W hW (fun i T hi hT => hf i T (by omega) hT)) n _ a _ w.drew inv0 hu0
  rw [show n + (l.toArray.size - n) = l.toArray.size by omega] at this
  exact this
end

section
variable {P : Program} {ops : Array Oper} {R : World → World → Prop} {W0 : World} {Q : Act → World → Prop} {k : Nat} {o : Oper} {l : List Oper} {Ts : List KSpec} {a : Act} {F : List (Nat × (World → Prop))}
/-- an operation that only reckons -/
theorem kAll_q (h : ∀ K : Act → Prop, (∀ a', kAll P ops R W0 Q (k + 1) l Ts a' F → K a') → if Region.wanted o (yielded ops a.tmps) then ∃ v, (∀ W, R W0 W → kHas o W F → kQuiet P o a W v) ∧ K (a.put o.dst v) else K (a.put o.dst undef)) :
    kAll P ops R W0 Q k (o :: l) (none :: Ts) a F := by
  unfold kAll; exact h _ (fun _ h => h)
/-- .. in whatever world -/
theorem kAll_p (h : ∀ K : Act → Prop, (∀ a', kAll P ops R W0 Q (k + 1) l Ts a' F → K a') → if Region.wanted o (yielded ops a.tmps) then ∃ v, (∀ W, kQuiet P o a W v) ∧ K (a.put o.dst v) else K (a.put o.dst undef)) :
    kAll P ops R W0 Q k (o :: l) (none :: Ts) a F := by
  refine kAll_q fun K hK => ?_
  have := h K hK
  split
  · rename_i hw
    rw [if_pos hw] at this
    obtain ⟨v, h1, h2⟩ := this
    exact ⟨v, fun W _ _ => h1 W, h2⟩
  · rename_i hw
    rw [if_neg hw] at this
    exact this
/-- an operation whose value is known -/
theorem kAll_d (c : Value) (h : ∀ W, R W0 W → kHas o W F → kStep P ops R o a W (fun v _ => v = c)) (hr : kAll P ops R W0 Q (k + 1) l Ts (a.put o.dst c) F) : kAll P ops R W0 Q k (o :: l) (some (.inl c) :: Ts) a F := by
  unfold kAll; exact ⟨h, hr⟩
/-- an operation of whose value a fact is known, that stands from there on -/
theorem kAll_t (T : Value → World → Prop) (hm : ∀ v W W', R W W' → T v W → T v W') (h : ∀ W, R W0 W → kHas o W F → kStep P ops R o a W T) (hr : ∀ u, kAll P ops R W0 Q (k + 1) l Ts (a.put o.dst u) ((k, T u) :: F)) : kAll P ops R W0 Q k (o :: l) (some (.inr T) :: Ts) a F := by
  unfold kAll; exact ⟨hm, h, hr⟩
theorem kAll_nil (h : ∀ W, R W0 W → kAllHas W F → Q a W) : kAll P ops R W0 Q k [] Ts a F := by
  cases Ts <;> (unfold kAll; exact h)
theorem kStep_of {T : Value → World → Prop} {W : World} (h : ∀ (K : Act → World → Prop) (Q : Exit → Act → World → Prop), (∀ v W', R W W' → T v W' → K (a.put o.dst v) W') → if Region.wanted o (yielded ops a.tmps) then o.wp P a W K Q else T undef W) : kStep P ops R o a W T := by
  unfold kStep
  split
  · rename_i hw; intro K Q hK; have := h K Q hK; rwa [if_pos hw] at this
  · rename_i hw; have := h (fun _ _ => True) (fun _ _ _ => True) (fun _ _ _ _ => trivial); rwa [if_neg hw] at this
theorem kHas_at {W : World} : ∀ {F : List (Nat × (World → Prop))} (_ : kHas o W F) (i : Nat) {j : Nat} {p : World → Prop}, F[i]? = some (j, p) → kWaits o j = true → p W
  | [], _, _, _, _, h, _ => by simp at h
  | q :: F, hF, 0, j, p, h, hw => by
    simp only [List.getElem?_cons_zero, Option.some.injEq] at h
    subst h
    have := hF.1
    rwa [if_pos hw] at this
  | q :: F, hF, i + 1, j, p, h, hw => kHas_at hF.2 i (by simpa using h) hw
theorem kAllHas_at {W : World} : ∀ {F : List (Nat × (World → Prop))} (_ : kAllHas W F) (i : Nat) {j : Nat} {p : World → Prop}, F[i]? = some (j, p) → p W
  | [], _, _, _, _, h => by simp at h
  | q :: F, hF, 0, j, p, h => by
    simp only [List.getElem?_cons_zero, Option.some.injEq] at h
    subst h
    exact hF.1
  | q :: F, hF, i + 1, j, p, h => kAllHas_at hF.2 i (by simpa using h)
end
end Go.Proofs.YtlfpefnlgiohbaaGreat
