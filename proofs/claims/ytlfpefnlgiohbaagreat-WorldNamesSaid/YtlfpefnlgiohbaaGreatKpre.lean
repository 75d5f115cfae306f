/-
  A region that draws its order, in which one operation (the pivot, number p) turns more of the world than all others: XKrip with two relations. And one, number cc, whose fact serves the pivot alone. Made by gen_kpre.py out of XKpiv's text.
-/
import Derived.Test.YtlfpefnlgiohbaaGreatKrip
import Derived.Test.YtlfpefnlgiohbaaGreatKrip2
namespace Go.Proofs.YtlfpefnlgiohbaaGreat
set_option maxRecDepth 100000
def kAllC (P : Program) (ops : Array Oper) (R R0 : World → World → Prop) (p cc : Nat) (W0 : World) (Q : Act → World → Prop) : Nat → List Oper → List KSpec → Act → List (Nat × (World → Prop)) → Prop
  | _, [], _, a, F => ∀ W, R W0 W → kAllHas W (F.filter (fun q => q.1 != cc)) → Q a W
  | _, _ :: _, [], _, _ => False
  | k, o :: l, none :: Ts, a, F =>
    if Region.wanted o (yielded ops a.tmps) then ∃ v, (∀ W, R W0 W → kHas o W F → kQuiet P o a W v) ∧ kAllC P ops R R0 p cc W0 Q (k + 1) l Ts (a.put o.dst v) F else kAllC P ops R R0 p cc W0 Q (k + 1) l Ts (a.put o.dst undef) F
  | k, o :: l, some (.inl c) :: Ts, a, F => (∀ W, R W0 W → (k = p → R0 W0 W) → kHas o W F → kStep P ops (if k = p then R else R0) o a W (fun v _ => v = c)) ∧ kAllC P ops R R0 p cc W0 Q (k + 1) l Ts (a.put o.dst c) F
  | k, o :: l, some (.inr T) :: Ts, a, F => (∀ v W W', (if k = p ∨ k = cc then R0 else R) W W' → T v W → T v W') ∧ (∀ W, R W0 W → (k = p → R0 W0 W) → kHas o W F → kStep P ops (if k = p then R else R0) o a W T) ∧ ∀ u, kAllC P ops R R0 p cc W0 Q (k + 1) l Ts (a.put o.dst u) ((k, T u) :: F)

section
variable {P : Program} {ops : Array Oper} {R R0 : World → World → Prop} {p cc : Nat} {W0 : World} {Q : Act → World → Prop}

def KOblC (P : Program) (ops : Array Oper) (R R0 : World → World → Prop) (p cc : Nat) (W0 : World) (Ts : List KSpec) (a0 : Act) (u vs : Nat → Value) (j : Nat) : Prop := ∀ o s, ops[j]? = some o → Ts[j]? = some s →
  match s with
  | none => if Region.wanted o (yielded ops (kActs ops a0 vs j).tmps) then ∀ W, R W0 W → KDeps Ts u o j W → kQuiet P o (kActs ops a0 vs j) W (vs j) else vs j = undef
  | some (.inl c) => vs j = c ∧ ∀ W, R W0 W → (j = p → R0 W0 W) → KDeps Ts u o j W → kStep P ops (if j = p then R else R0) o (kActs ops a0 vs j) W (fun v _ => v = c)
  | some (.inr T) => vs j = u j ∧ (∀ v W W', (if j = p ∨ j = cc then R0 else R) W W' → T v W → T v W') ∧ ∀ W, R W0 W → (j = p → R0 W0 W) → KDeps Ts u o j W → kStep P ops (if j = p then R else R0) o (kActs ops a0 vs j) W T

theorem KOblC.congr {Ts : List KSpec} {a0 : Act} {u vs vs' : Nat → Value} {j : Nat} (h : KOblC P ops R R0 p cc W0 Ts a0 u vs j) (he : ∀ i, i ≤ j → vs' i = vs i) : KOblC P ops R R0 p cc W0 Ts a0 u vs' j := by
  intro o s ho hs
  have := h o s ho hs
  rw [kActs_congr (vs := vs') (vs' := vs) j (fun i hi => he i (by omega)), he j (Nat.le_refl _)]
  exact this

theorem kAllC_data {Ts : List KSpec} {a0 : Act} (u : Nat → Value) : ∀ (l : List Oper) (Ts' : List KSpec) (k : Nat) (F : List (Nat × (World → Prop))) (vs0 : Nat → Value), (∀ j, j < l.length → ops[k + j]? = l[j]?) → (∀ j, Ts[k + j]? = Ts'[j]?) →
    (∀ o W, KDeps Ts u o k W → kHas o W F) → (∀ W, (∀ i T, i < k → i ≠ cc → Ts[i]? = some (some (.inr T)) → T (u i) W) → kAllHas W (F.filter (fun q => q.1 != cc))) → kAllC P ops R R0 p cc W0 Q k l Ts' (kActs ops a0 vs0 k) F →
    ∃ vs, (∀ j, j < k → vs j = vs0 j) ∧ (∀ j, k ≤ j → j < k + l.length → j < Ts.length ∧ KOblC P ops R R0 p cc W0 Ts a0 u vs j) ∧ ∀ W, R W0 W → (∀ i T, i < k + l.length → i ≠ cc → Ts[i]? = some (some (.inr T)) → T (u i) W) → Q (kActs ops a0 vs (k + l.length)) W
  | [], Ts', k, F, vs0, _, _, _, hall, h => ⟨vs0, fun _ _ => rfl, fun j h1 h2 => by simp at h2; omega, fun W hW hf => by unfold kAllC at h; exact h W hW (hall W (by simpa using hf))⟩
  | o :: l, [], k, F, vs0, _, _, _, _, h => by unfold kAllC at h; exact h.elim
  | o :: l, s :: Ts', k, F, vs0, hl, hT, hdep, hall, h => by
    have ho : ops[k]? = some o := by simpa using hl 0 (by simp)
    have hs : Ts[k]? = some s := by simpa using hT 0
    have hkT : k < Ts.length := (List.getElem?_eq_some_iff.1 hs).1
    have hl' : ∀ j, j < l.length → ops[k + 1 + j]? = l[j]? := fun j hj => by have := hl (j + 1) (by simp; omega); simpa [Nat.add_assoc, Nat.add_comm 1 j] using this
    have hT' : ∀ j, Ts[k + 1 + j]? = Ts'[j]? := fun j => by have := hT (j + 1); simpa [Nat.add_assoc, Nat.add_comm 1 j] using this
    have act : ∀ v, kActs ops a0 (fun j => if j = k then v else vs0 j) (k + 1) = (kActs ops a0 vs0 k).put o.dst v := fun v => by
      show (kActs ops a0 _ k).put _ _ = _
      rw [kActs_congr (vs' := vs0) k (fun j hj => if_neg (by omega)), ho]
      simp
    have depS : (∀ T, s ≠ some (.inr T)) → (∀ o W, KDeps Ts u o (k + 1) W → kHas o W F) ∧ (∀ W, (∀ i T, i < k + 1 → i ≠ cc → Ts[i]? = some (some (.inr T)) → T (u i) W) → kAllHas W (F.filter (fun q => q.1 != cc))) := fun _ =>
      ⟨fun o W hd => hdep o W (fun i T h1 h2 h3 => hd i T h1 (by omega) h3), fun W hf => hall W (fun i T h1 hc h2 => hf i T (by omega) hc h2)⟩
    have fin : ∀ v, (KOblC P ops R R0 p cc W0 Ts a0 u (fun j => if j = k then v else vs0 j) k) → (∃ vs, (∀ j, j < k + 1 → vs j = (fun j => if j = k then v else vs0 j) j) ∧ (∀ j, k + 1 ≤ j → j < k + 1 + l.length → j < Ts.length ∧ KOblC P ops R R0 p cc W0 Ts a0 u vs j) ∧ ∀ W, R W0 W → (∀ i T, i < k + 1 + l.length → i ≠ cc → Ts[i]? = some (some (.inr T)) → T (u i) W) → Q (kActs ops a0 vs (k + 1 + l.length)) W) →
        ∃ vs, (∀ j, j < k → vs j = vs0 j) ∧ (∀ j, k ≤ j → j < k + (o :: l).length → j < Ts.length ∧ KOblC P ops R R0 p cc W0 Ts a0 u vs j) ∧ ∀ W, R W0 W → (∀ i T, i < k + (o :: l).length → i ≠ cc → Ts[i]? = some (some (.inr T)) → T (u i) W) → Q (kActs ops a0 vs (k + (o :: l).length)) W := by
      rintro v hob ⟨vs, h1, h2, h3⟩
      have el : k + (o :: l).length = k + 1 + l.length := by simp; omega
      refine ⟨vs, fun j hj => (h1 j (by omega)).trans (if_neg (by omega)), fun j hj hj2 => ?_, ?_⟩
      · by_cases e : j = k
        · subst e; exact ⟨hkT, hob.congr fun i hi => h1 i (by omega)⟩
        · exact h2 j (by omega) (by omega)
      · rw [el]; exact h3
    have eacts : ∀ v, kActs ops a0 (fun j => if j = k then v else vs0 j) k = kActs ops a0 vs0 k := fun v => kActs_congr k (fun j hj => if_neg (by omega))
    cases s with
    | none =>
      unfold kAllC at h
      obtain ⟨d1, d2⟩ := depS (fun T e => by cases e)
      by_cases hw : Region.wanted o (yielded ops (kActs ops a0 vs0 k).tmps) = true
      · rw [if_pos hw] at h
        obtain ⟨v, hq, hr⟩ := h
        rw [← act v] at hr
        refine fin v ?_ (kAllC_data u l Ts' (k + 1) F _ hl' hT' d1 d2 hr)
        intro o' s' ho' hs'
        obtain rfl := Option.some.inj (ho.symm.trans ho')
        obtain rfl := Option.some.inj (hs.symm.trans hs')
        simp only [eacts, hw, if_true]
        exact fun W hW hd => hq W hW (hdep o W hd)
      · rw [if_neg hw] at h
        rw [← act undef] at h
        refine fin undef ?_ (kAllC_data u l Ts' (k + 1) F _ hl' hT' d1 d2 h)
        intro o' s' ho' hs'
        obtain rfl := Option.some.inj (ho.symm.trans ho')
        obtain rfl := Option.some.inj (hs.symm.trans hs')
        simp only [eacts]
        rw [if_neg hw]; simp
    | some s =>
      cases s with
      | inl c =>
        unfold kAllC at h
        obtain ⟨d1, d2⟩ := depS (fun T e => by cases e)
        obtain ⟨hq, hr⟩ := h
        rw [← act c] at hr
        refine fin c ?_ (kAllC_data u l Ts' (k + 1) F _ hl' hT' d1 d2 hr)
        intro o' s' ho' hs'
        obtain rfl := Option.some.inj (ho.symm.trans ho')
        obtain rfl := Option.some.inj (hs.symm.trans hs')
        simp only [eacts, if_true]
        exact ⟨trivial, fun W hW hp hd => hq W hW hp (hdep o W hd)⟩
      | inr T =>
        unfold kAllC at h
        obtain ⟨hm, hq, hr⟩ := h
        have hr := hr (u k)
        rw [← act (u k)] at hr
        refine fin (u k) ?_ (kAllC_data u l Ts' (k + 1) _ _ hl' hT' ?_ ?_ hr)
        · intro o' s' ho' hs'
          obtain rfl := Option.some.inj (ho.symm.trans ho')
          obtain rfl := Option.some.inj (hs.symm.trans hs')
          simp only [eacts, if_true]
          exact ⟨trivial, hm, fun W hW hp hd => hq W hW hp (hdep o W hd)⟩
        · intro o' W hd
          refine ⟨?_, hdep o' W (fun i T h1 h2 h3 => hd i T h1 (by omega) h3)⟩
          by_cases hk : kWaits o' k = true
          · rw [if_pos hk]; exact hd k T hs (by omega) hk
          · rw [if_neg hk]; trivial
        · intro W hf
          have ih := hall W (fun i T h1 hc h2 => hf i T (by omega) hc h2)
          by_cases e : k = cc
          · rw [List.filter_cons_of_neg (by simp [e])]; exact ih
          · rw [List.filter_cons_of_pos (by simp [e])]; exact ⟨hf k T (by omega) e hs, ih⟩

/-- how a run stands: as KInv; and till the pivot has come up, only R0 has been at work -/
structure KInvC (ops : Array Oper) (R R0 : World → World → Prop) (p cc : Nat) (W0 : World) (n : Nat) (Ts : List KSpec) (a0 : Act) (V : (Nat → Value) → Nat → Value) (listed : Array Bool) (a : Act) (g : Nat → Value) (W : World) : Prop where
  head : HeadInv .any ops n listed
  rel : R W0 W
  facts : ∀ j T, listed.getD j false = true → (j = cc → listed.getD p false = false) → Ts[j]? = some (some (.inr T)) → T (g j) W
  vals : ∀ u, (∀ j T, listed.getD j false = true → Ts[j]? = some (some (.inr T)) → u j = g j) → ∀ j, listed.getD j false = true → V u j = g j
  slots : KSlots ops a0 a (fun j => listed.getD j false = true) g
  piv : listed.getD p false = false → R0 W0 W
variable {n : Nat} {Ts : List KSpec} {a0 : Act} {V : (Nat → Value) → Nat → Value}
theorem KInvC.exec {listed : Array Bool} {a : Act} {g : Nat → Value} {W : World} (hB : KripB ops n) (h : KInvC ops R R0 p cc W0 n Ts a0 V listed a g W) {i : Nat} {o : Oper} (ho : ops[i]? = some o) (hi : i < n) (hr : i ∈ Region.ready .any ops listed)
    {u : Nat → Value} (hu : ∀ j T, listed.getD j false = true → Ts[j]? = some (some (.inr T)) → u j = g j) :
    execOp a.eval o = execOp (kActs ops a0 (V u) i).eval o ∧ Region.wanted o (yielded ops a.tmps) = Region.wanted o (yielded ops (kActs ops a0 (V u) i).tmps) := by
  have hs := kActs_slots hB a0 (V u) i (by omega)
  obtain ⟨hun, o', ho', hall⟩ := mem_ready.1 hr
  obtain rfl := Option.some.inj (ho.symm.trans ho')
  refine exec_same o (fun cs b => Region.noSelect_spec hB.sel i o cs b ho) fun d hd => h.slots.same hs fun j oj hj hdj => ?_
  by_cases hjn : j < n
  · by_cases hji : j = i
    · subst hji
      have := getD_both hun
      simp [this]
    · have := hB.look j i oj o d hjn hi hji hj ho hdj hd
      by_cases hlt : j < i
      · rw [if_pos hlt] at this
        obtain ⟨e, he, hb⟩ := Array.any_eq_true'.1 this
        simp only [Bool.and_eq_true, beq_iff_eq] at hb
        have hl := hall e he hb.1
        rw [hb.2] at hl
        exact ⟨⟨fun _ => hlt, fun _ => hl⟩, fun _ => (h.vals u hu j hl).symm⟩
      · rw [if_neg hlt] at this
        obtain ⟨oj', hoj', e, he, hb, hon⟩ := Region.waitsFor_spec this
        have hnl : ¬ listed.getD j false = true := fun hl => by
          have := h.head.closed j oj' hoj' hl e he hb
          rw [hon, getD_both hun] at this
          cases this
        exact ⟨⟨fun hl => absurd hl hnl, fun hl => absurd hl hlt⟩, fun hl => absurd hl hnl⟩
  · have hjs : j < ops.size := (Array.getElem?_eq_some_iff.1 hj).1
    have hnl : ¬ listed.getD j false = true := fun hl => by
      have := getD_both (h.head.tail j (by omega) hjs)
      rw [this] at hl; cases hl
    exact ⟨⟨fun hl => absurd hl hnl, fun hl => by omega⟩, fun hl => absurd hl hnl⟩
def preB (ops : Array Oper) (p cc n : Nat) : Bool := (List.range n).all fun i => match ops[i]? with | some o => !(kWaits o cc) || i == p | none => true
theorem preB_spec {ops : Array Oper} {p cc n : Nat} (h : preB ops p cc n = true) : ∀ (i : Nat) (o : Oper), i < n → ops[i]? = some o → kWaits o cc = true → i = p := by
  intro i o hi ho hw
  have := List.all_eq_true.1 h i (List.mem_range.2 hi)
  rw [ho] at this
  simpa [hw] using this
theorem KInvC.step {P : Program} {Q' : Exit → Act → World → Prop} {listed : Array Bool} {a : Act} {g : Nat → Value} {W : World} (hB : KripB ops n) (hRefl : ∀ a, R a a) (htr : ∀ a b c, R a b → R b c → R a c) (h0Refl : ∀ a, R0 a a) (h0tr : ∀ a b c, R0 a b → R0 b c → R0 a c) (hsub : ∀ a b, R0 a b → R a b)
    (hpre : ∀ (i : Nat) (o : Oper), i < n → ops[i]? = some o → kWaits o cc = true → i = p) (hV : ∀ u j, j < n → j < Ts.length ∧ KOblC P ops R R0 p cc W0 Ts a0 u (V u) j)
    (h : KInvC ops R R0 p cc W0 n Ts a0 V listed a g W) {i : Nat} (hi : i < n) (hr : i ∈ Region.ready .any ops listed) :
    wpOp P ops Q' i (fun a' W' => ∃ g', KInvC ops R R0 p cc W0 n Ts a0 V (listed.setIfInBounds i true) a' g' W') a W := by
  have hr' := hr
  obtain ⟨hun, o, ho, hall⟩ := mem_ready.1 hr'
  have hsz : i < listed.size := by rw [h.head.size]; exact (Array.getElem?_eq_some_iff.1 ho).1
  have hunf := getD_both hun
  have hiT : i < Ts.length := (hV g i hi).1
  obtain ⟨s, hs⟩ : ∃ s, Ts[i]? = some s := ⟨_, List.getElem?_eq_getElem hiT⟩
  have deps : ∀ u, (∀ j T, listed.getD j false = true → Ts[j]? = some (some (.inr T)) → u j = g j) → KDeps Ts u o i W := by
    intro u hu j T hT hj hw
    obtain ⟨e, he, hb⟩ := Array.any_eq_true'.1 hw
    simp only [Bool.and_eq_true, beq_iff_eq] at hb
    have hl := hall e he hb.1
    rw [hb.2] at hl
    rw [hu j T hl hT]
    exact h.facts j T hl (fun e => by rw [← hpre i o hi ho (e ▸ hw)]; exact hunf) hT
  have hri : ∀ a b, (if i = p then R else R0) a b → R a b := fun a b h => by
    split at h
    · exact h
    · exact hsub _ _ h
  have hrefi : ∀ a, (if i = p then R else R0) a a := fun a => by
    split
    · exact hRefl a
    · exact h0Refl a
  have pre : i = p → R0 W0 W := fun e => h.piv (by rw [← e]; exact hunf)
  -- what stands behind a value v in a world W'
  have next : ∀ v W', (if i = p then R else R0) W W' → (∀ T, Ts[i]? = some (some (.inr T)) → T v W') → (∀ j T, listed.getD j false = true → (j = cc → listed.getD p false = false ∧ i ≠ p) → Ts[j]? = some (some (.inr T)) → T (g j) W') → (∀ u, (∀ j T, listed.getD j false = true → Ts[j]? = some (some (.inr T)) → u j = g j) → (∀ T, Ts[i]? = some (some (.inr T)) → u i = v) → V u i = v) →
      ∃ g', KInvC ops R R0 p cc W0 n Ts a0 V (listed.setIfInBounds i true) (a.put o.dst v) g' W' := by
    intro v W' hR hT hF hvu
    refine ⟨fun j => if j = i then v else g j, ⟨h.head.set hr hi, htr _ _ _ h.rel (hri _ _ hR), ?_, ?_, ?_, ?_⟩⟩
    · intro j T hj hc hT'
      by_cases e : j = i
      · subst e; simpa using hT T hT'
      · rw [if_neg e]
        refine hF j T (((getD_set_iff hsz).1 hj).resolve_left e) (fun ec => ?_) hT'
        have h0 := hc ec
        refine ⟨?_, fun ei => ?_⟩
        · cases hl : listed.getD p false with
          | false => rfl
          | true => rw [(getD_set_iff hsz).2 (.inr hl)] at h0; cases h0
        · rw [(getD_set_iff hsz).2 (.inl ei.symm)] at h0; cases h0
    · intro u hu
      have hu1 : ∀ j T, listed.getD j false = true → Ts[j]? = some (some (.inr T)) → u j = g j := fun j T hl hT' => by
        have e : j ≠ i := fun e => by subst e; rw [hunf] at hl; cases hl
        have := hu j T ((getD_set_iff hsz).2 (.inr hl)) hT'
        rwa [if_neg e] at this
      intro j hj
      by_cases e : j = i
      · subst e
        rw [if_pos rfl]
        exact hvu u hu1 fun T hT' => by have := hu j T ((getD_set_iff hsz).2 (.inl rfl)) hT'; rwa [if_pos rfl] at this
      · rw [if_neg e]; exact h.vals u hu1 j (((getD_set_iff hsz).1 hj).resolve_left e)
    · have := h.slots.put ho (fun j oj d hl hoj hd => by
        have e : j ≠ i := fun e => by subst e; rw [hunf] at hl; cases hl
        have hjn : j < n := by
          rcases Nat.lt_or_ge j n with h' | h'
          · exact h'
          · have := getD_both (h.head.tail j h' (Array.getElem?_eq_some_iff.1 hoj).1)
            rw [this] at hl; cases hl
        exact hB.dst j i oj o d hjn hi e hoj ho hd) (fun j hl e => by subst e; rw [hunf] at hl; cases hl) v
      exact this.congrL (fun j _ => getD_set_iff hsz) (fun _ _ => rfl)
    · intro hp
      by_cases e : i = p
      · subst e
        rw [(getD_set_iff hsz).2 (.inl rfl)] at hp; cases hp
      · rw [if_neg e] at hR
        refine h0tr _ _ _ (h.piv ?_) hR
        cases hl : listed.getD p false with
        | false => rfl
        | true => rw [(getD_set_iff hsz).2 (.inr hl)] at hp; cases hp
  have ob := (hV g i hi).2 o s ho hs
  obtain ⟨ex, wn⟩ := h.exec hB ho hi hr (u := g) (fun _ _ _ _ => rfl)
  have dg := deps g (fun _ _ _ _ => rfl)
  have slot0 : ∀ (a a' : Act) (L : Nat → Prop) (g : Nat → Value), KSlots ops a a' L g → ∀ d : Nat, a'.tmps[d]? = none ↔ a.tmps[d]? = none := by
    intro a a' L g hk d
    by_cases hex : ∃ j oj, L j ∧ ops[j]? = some oj ∧ oj.dst = some d
    · obtain ⟨j, oj, h1, h2, h3⟩ := hex
      rw [hk.laid j oj d h1 h2 h3]; simp
    · rw [hk.other d fun j oj h1 h2 h3 => hex ⟨j, oj, h1, h2, h3⟩]
  have hz : ∀ d : Nat, o.dst = some d → ((kActs ops a0 (V g) i).tmps[d]? = none ↔ a.tmps[d]? = none) := fun d _ =>
    (slot0 _ _ _ _ (kActs_slots hB a0 (V g) i (by omega)) d).trans (slot0 _ _ _ _ h.slots d).symm
  have viaStep : ∀ (T : Value → World → Prop), kStep P ops (if i = p then R else R0) o (kActs ops a0 (V g) i) W T → (∀ v W', (if i = p then R else R0) W W' → T v W' → ∃ g', KInvC ops R R0 p cc W0 n Ts a0 V (listed.setIfInBounds i true) (a.put o.dst v) g' W') → (∀ v, T v W → Region.wanted o (yielded ops a.tmps) = false → v = undef → ∃ g', KInvC ops R R0 p cc W0 n Ts a0 V (listed.setIfInBounds i true) (a.put o.dst v) g' W) →
      wpOp P ops Q' i (fun a' W' => ∃ g', KInvC ops R R0 p cc W0 n Ts a0 V (listed.setIfInBounds i true) a' g' W') a W := by
    intro T hst hn hn0
    unfold wpOp
    simp only [ho]
    unfold kStep at hst
    rw [← wn] at hst
    by_cases hw : Region.wanted o (yielded ops a.tmps) = true
    · rw [if_pos hw] at hst ⊢
      refine .inl ?_
      have := hst (fun a' W' => ∃ v, a' = (kActs ops a0 (V g) i).put o.dst v ∧ ((if i = p then R else R0) W W' ∧ T v W')) (fun _ _ _ => False) (fun v W' h1 h2 => ⟨v, rfl, h1, h2⟩)
      exact Oper.wp_mono (fun a' W' => by rintro ⟨v, rfl, h1, h2⟩; exact hn v W' h1 h2) (wp_other (Q' := Q') ex hz this)
    · rw [if_neg hw] at hst ⊢
      exact hn0 undef hst (by simpa using hw) rfl
  cases s with
  | none =>
    simp only at ob
    rw [← wn] at ob
    have noT : ∀ {p : (Value → World → Prop) → Prop}, ∀ T, Ts[i]? = some (some (.inr T)) → p T := fun T hT => by rw [hs] at hT; cases hT
    unfold wpOp
    simp only [ho]
    by_cases hw : Region.wanted o (yielded ops a.tmps) = true
    · rw [if_pos hw] at ob ⊢
      refine .inl ?_
      have hq := ob W h.rel dg
      have same : ∀ u, (∀ j T, listed.getD j false = true → Ts[j]? = some (some (.inr T)) → u j = g j) → kQuietUpon W (V u i) ((execOp a.eval o).run P W) := by
        intro u hu
        obtain ⟨ex', wn'⟩ := h.exec hB ho hi hr hu
        have ob' := (hV u i hi).2 o none ho hs
        simp only at ob'
        rw [← wn', if_pos hw] at ob'
        have := ob' W h.rel (deps u hu)
        unfold kQuiet at this
        rwa [← ex'] at this
      unfold kQuiet at hq
      rw [← ex] at hq
      unfold Oper.wp
      generalize (execOp a.eval o).run P W = r at *
      cases r with
      | halt x w' => exact hq.elim
      | ok nx w' =>
        cases nx with
        | value v =>
          simp only [kQuietUpon] at hq same
          simp only [Oper.upon]
          obtain ⟨e1, e2⟩ := hq
          refine next v w' ?_ noT ?_ (fun u hu _ => ((same u hu).2).symm)
          · rw [e1]; exact hrefi W
          · intro j T hl hc hT; rw [e1]; exact h.facts j T hl (fun e => (hc e).1) hT
        | skip =>
          simp only [kQuietUpon] at hq same
          simp only [Oper.upon]
          obtain ⟨e1, e2⟩ := hq
          refine next undef w' ?_ noT ?_ (fun u hu _ => (same u hu).2)
          · rw [e1]; exact hrefi W
          · intro j T hl hc hT; rw [e1]; exact h.facts j T hl (fun e => (hc e).1) hT
        | _ => exact hq.elim
    · rw [if_neg hw] at ob ⊢
      refine next undef W (hrefi W) noT (fun j T hl hc hT => h.facts j T hl (fun e => (hc e).1) hT) (fun u hu _ => ?_)
      obtain ⟨ex', wn'⟩ := h.exec hB ho hi hr hu
      have ob' := (hV u i hi).2 o none ho hs
      simp only at ob'
      rw [← wn', if_neg hw] at ob'
      exact ob'
  | some s =>
    have mono : ∀ j T, Ts[j]? = some (some (.inr T)) → j < n → ∀ v W W', (if j = p ∨ j = cc then R0 else R) W W' → T v W → T v W' := by
      intro j T hT hj
      obtain ⟨oj, hoj⟩ : ∃ oj, ops[j]? = some oj := ⟨_, Array.getElem?_eq_getElem (by have := hB.le; omega)⟩
      have := (hV g j hj).2 oj _ hoj hT
      exact this.2.1
    have factsK : ∀ W', (if i = p then R else R0) W W' → ∀ j T, listed.getD j false = true → (j = cc → listed.getD p false = false ∧ i ≠ p) → Ts[j]? = some (some (.inr T)) → T (g j) W' := by
      intro W' hR j T hl hc hT
      have hjn : j < n := by
        rcases Nat.lt_or_ge j n with h' | h'
        · exact h'
        · have hjs : j < ops.size := by
            rcases Nat.lt_or_ge j ops.size with h2 | h2
            · exact h2
            · rw [← h.head.size] at h2
              simp [Array.getElem?_eq_none h2] at hl
          have := getD_both (h.head.tail j h' hjs)
          rw [this] at hl; cases hl
      refine mono j T hT hjn _ _ _ ?_ (h.facts j T hl (fun e => (hc e).1) hT)
      by_cases ej : j = p ∨ j = cc
      · rw [if_pos ej]
        have ei : ¬ i = p := by
          rcases ej with ej | ej
          · exact fun e => by rw [ej, ← e, hunf] at hl; cases hl
          · exact (hc ej).2
        rwa [if_neg ei] at hR
      · rw [if_neg ej]; exact hri _ _ hR
    cases s with
    | inl c =>
      simp only at ob
      have noT : ∀ {p : (Value → World → Prop) → Prop}, ∀ T, Ts[i]? = some (some (.inr T)) → p T := fun T hT => by rw [hs] at hT; cases hT
      have hc : ∀ u, V u i = c := fun u => by have := (hV u i hi).2 o _ ho hs; exact this.1
      refine viaStep _ (ob.2 W h.rel pre dg) (fun v W' hR hv => ?_) (fun v hv hw hu => ?_)
      · exact next v W' hR noT (factsK W' hR) (fun u _ _ => by rw [hc u, hv])
      · exact next v W (hrefi W) noT (factsK W (hrefi W)) (fun u _ _ => by rw [hc u, hv])
    | inr T =>
      simp only at ob
      have hc : ∀ u, V u i = u i := fun u => by have := (hV u i hi).2 o _ ho hs; exact this.1
      refine viaStep T (ob.2.2 W h.rel pre dg) (fun v W' hR hv => ?_) (fun v hv hw hu => ?_)
      · exact next v W' hR (fun T' hT' => by rw [hs] at hT'; cases hT'; exact hv) (factsK W' hR) (fun u _ hT => by rw [hc u, hT T hs])
      · exact next v W (hrefi W) (fun T' hT' => by rw [hs] at hT'; cases hT'; exact hv) (factsK W (hrefi W)) (fun u _ hT => by rw [hc u, hT T hs])

theorem KInvC.run {P : Program} {Q' : Exit → Act → World → Prop} (hB : KripB ops n) (hRefl : ∀ a, R a a) (htr : ∀ a b c, R a b → R b c → R a c) (h0Refl : ∀ a, R0 a a) (h0tr : ∀ a b c, R0 a b → R0 b c → R0 a c) (hsub : ∀ a b, R0 a b → R a b)
    (hpre : ∀ (i : Nat) (o : Oper), i < n → ops[i]? = some o → kWaits o cc = true → i = p) (hV : ∀ u j, j < n → j < Ts.length ∧ KOblC P ops R R0 p cc W0 Ts a0 u (V u) j) (hfin : ∀ u W, R W0 W → (∀ i T, i < n → i ≠ cc → Ts[i]? = some (some (.inr T)) → T (u i) W) → wpList P ops Q' (ops.toList.drop n) (kActs ops a0 (V u) n) W) :
    ∀ (m : Nat) (listed : Array Bool) (a : Act) (g : Nat → Value) (W : World), KInvC ops R R0 p cc W0 n Ts a0 V listed a g W → (unl n listed).length = m → wpAny P .any ops Q' (m + (ops.size - n)) listed a W
  | 0, listed, a, g, W, h, hm => by
    have hall : ∀ j, j < n → listed.getD j false = true := fun j hj => by
      cases hl : listed.getD j false with
      | true => rfl
      | false =>
        have : j ∈ unl n listed := List.mem_filter.2 ⟨List.mem_range.2 hj, by simp only [hl]; rfl⟩
        rw [List.eq_nil_of_length_eq_zero hm] at this
        cases this
    have hnot : ∀ j, n ≤ j → ¬ listed.getD j false = true := fun j hj hl => by
      rcases Nat.lt_or_ge j ops.size with h2 | h2
      · have := getD_both (h.head.tail j hj h2); rw [this] at hl; cases hl
      · rw [← h.head.size] at h2
        simp [Array.getElem?_eq_none h2] at hl
    have el : listed = (List.replicate n true ++ List.replicate (ops.size - n) false).toArray := by
      have hsz := h.head.size
      have hle := hB.le
      apply Array.ext
      · simp; omega
      · intro j h1 h2
        by_cases hj : j < n
        · have := hall j hj
          simp [h1] at this
          simp [this, hj]
        · have := hnot j (by omega)
          simp [h1] at this
          simp [this, List.getElem_append, hj]
    have ea : a = kActs ops a0 (V g) n := by
      have hs := kActs_slots hB a0 (V g) n (Nat.le_refl _)
      have ht : ∀ d : Nat, a.tmps[d]? = (kActs ops a0 (V g) n).tmps[d]? := fun d => h.slots.same hs fun j oj hj hd => by
        by_cases hjn : j < n
        · exact ⟨⟨fun _ => hjn, fun _ => hall j hjn⟩, fun _ => (h.vals g (fun _ _ _ _ => rfl) j (hall j hjn)).symm⟩
        · exact ⟨⟨fun hl => absurd hl (hnot j (by omega)), fun hl => absurd hl hjn⟩, fun hl => absurd hl (hnot j (by omega))⟩
      have hd : a.defers = (kActs ops a0 (V g) n).defers := h.slots.defers.trans hs.defers.symm
      have htm : a.tmps = (kActs ops a0 (V g) n).tmps := Array.ext_getElem? ht
      cases a
      simp only at htm hd
      rw [htm, hd]
    have := hfin g W h.rel (fun i T hi hne hT => h.facts i T (hall i hi) (fun e => absurd e hne) hT)
    rw [← ea] at this
    have hseq := hB.seq
    rw [← el] at hseq
    have hdl : (ops.toList.drop n).length = ops.size - n := by simp
    have := wpAny_of_seq (md := .any) (Q' := Q') (ops.toList.drop n) n listed a W (fun j => by simp [List.getElem?_drop]) (by rw [hdl]; exact hseq) this
    rw [hdl] at this
    rw [Nat.zero_add]
    exact this
  | m + 1, listed, a, g, W, h, hm => by
    rw [show m + 1 + (ops.size - n) = (m + (ops.size - n)) + 1 by omega]
    have hle := hB.le
    have hne : ∃ i, i ∈ Region.ready .any ops listed ∧ i < n := by
      have hex : ∃ j, j < n ∧ listed.getD j false = false := by
        have : unl n listed ≠ [] := fun e => by rw [e] at hm; cases hm
        obtain ⟨j, hj⟩ := List.exists_mem_of_ne_nil _ this
        obtain ⟨h1, h2⟩ := List.mem_filter.1 hj
        exact ⟨j, List.mem_range.1 h1, by simpa using h2⟩
      have least : ∀ j, j < n → listed.getD j false = false → ∃ i, i ∈ Region.ready .any ops listed ∧ i < n := by
        intro j
        induction j using Nat.strongRecOn with
        | _ j ih =>
          intro hj hl
          have hjs : j < ops.size := by omega
          have ho : ops[j]? = some ops[j] := Array.getElem?_eq_getElem hjs
          by_cases hall : ∀ e ∈ (ops[j]).after, Region.binds .any e = true → listed.getD e.on false = true
          · exact ⟨j, mem_ready.2 ⟨getD_in (by rw [h.head.size]; exact hjs) hl, _, ho, hall⟩, hj⟩
          · have : ∃ e ∈ (ops[j]).after, Region.binds .any e = true ∧ listed.getD e.on false = false := by
              apply Classical.byContradiction
              intro hn
              apply hall
              intro e he hb
              cases hl : listed.getD e.on false with
              | true => rfl
              | false => exact absurd ⟨e, he, hb, hl⟩ hn
            obtain ⟨e, he, hb, hl'⟩ := this
            have hlow := hB.low j _ hj ho e he hb
            exact ih e.on hlow (by omega) hl'
      obtain ⟨j, hj, hl⟩ := hex
      exact least j hj hl
    refine ⟨fun h0 => ?_, fun i hi => ?_⟩
    · obtain ⟨i, hi, _⟩ := hne
      rw [h0] at hi; cases hi
    · have hin : i < n := by
        rcases Nat.lt_or_ge i n with h' | h'
        · exact h'
        · obtain ⟨k, hk, hkn⟩ := hne
          have hkun := (mem_ready.1 hk).1
          have his : i < ops.size := by obtain ⟨_, o, ho, _⟩ := mem_ready.1 hi; exact (Array.getElem?_eq_some_iff.1 ho).1
          rcases hB.tail with ht | ⟨hs, hc⟩
          · omega
          · exact absurd hi (tail_waits hs hc (by omega) h.head _ k rfl hkn hkun i h')
      have hun := (mem_ready.1 hi).1
      have hsz : i < listed.size := by rw [h.head.size]; omega
      refine wpOp_mono (fun a' W' => ?_) (h.step hB hRefl htr h0Refl h0tr hsub hpre hV hin hi)
      rintro ⟨g', hg'⟩
      have := unl_set hin hsz (getD_both hun)
      exact KInvC.run hB hRefl htr h0Refl h0tr hsub hpre hV hfin m _ a' g' W' hg' (by omega)

/-- A region that draws its order: the first n operations, each shown once, in whatever later world it comes up; then the rest, one behind the other. -/
theorem wp_region_kpre {P : Program} (R R0 : World → World → Prop) (p cc : Nat) (hRefl : ∀ a, R a a) (htr : ∀ a b c, R a b → R b c → R a c) (h0Refl : ∀ a, R0 a a) (h0tr : ∀ a b c, R0 a b → R0 b c → R0 a c) (hsub : ∀ a b, R0 a b → R a b) {id : Nat} {Q' : Exit → Act → World → Prop} {a : Act} {w : World} {l : List Oper} (n : Nat) (hm : P.follows .mixedOrders = true)
    (hB : kripB l.toArray n = true) (hpre : preB l.toArray p cc n = true) {Ts : List KSpec}
    (h : kAllC P l.toArray R R0 p cc w.drew (fun a W => wpList P l.toArray Q' (l.drop n) a W) 0 (l.take n) Ts a []) : (Code.region id l.toArray true).wp P Q' a w := by
  have hB := kripB_spec hB
  have hle := hB.le
  refine wp_region_any hm ?_
  have dat := fun u => kAllC_data (Ts := Ts) (a0 := a) u (l.take n) Ts 0 [] (fun _ => undef) (fun j hj => by
    have : j < n := by simp at hj; omega
    simp [this]) (fun j => by simp) (fun _ _ _ => trivial) (fun _ _ => trivial) h
  have hlen : 0 + (l.take n).length = n := by simp at hle ⊢; omega
  rw [hlen] at dat
  let V := fun u => Classical.choose (dat u)
  have hV : ∀ u, _ := fun u => Classical.choose_spec (dat u)
  have inv0 : KInvC l.toArray R R0 p cc w.drew n Ts a V (Array.replicate l.toArray.size false) a (fun _ => undef) w.drew := by
    refine ⟨⟨by simp, fun j oj _ hl => (by rw [getD_replicate_false] at hl; cases hl), fun t _ ht => getD_in (by simpa using ht) (getD_replicate_false _ _)⟩, hRefl _, fun j T hl => (by rw [getD_replicate_false] at hl; cases hl), fun u _ j hl => (by rw [getD_replicate_false] at hl; cases hl), ?_, fun _ => h0Refl _⟩
    exact (KSlots.init l.toArray a (fun _ => undef)).congrL (fun j _ => by rw [getD_replicate_false]; simp) (fun _ h => h.elim)
  have hu0 : (unl n (Array.replicate l.toArray.size false)).length = n := by
    unfold unl
    rw [List.filter_eq_self.2 (fun j _ => by rw [getD_replicate_false]; rfl)]
    simp
  have := KInvC.run (P := P) (Q' := Q') hB hRefl htr h0Refl h0tr hsub (preB_spec hpre) (Ts := Ts) (V := V) (fun u j hj => (hV u).2.1 j (Nat.zero_le _) (by omega)) (fun u W hW hf => by
    exact (hV u).2.2 W hW (fun i T hi hne hT => hf i T (by omega) hne hT)) n _ a _ w.drew inv0 hu0
  rw [show n + (l.toArray.size - n) = l.toArray.size by omega] at this
  exact this
end

section
variable {P : Program} {ops : Array Oper} {R R0 : World → World → Prop} {p cc : Nat} {W0 : World} {Q : Act → World → Prop} {k : Nat} {o : Oper} {l : List Oper} {Ts : List KSpec} {a : Act} {F : List (Nat × (World → Prop))}
theorem kAllC_p (h : ∀ K : Act → Prop, (∀ a', kAllC P ops R R0 p cc W0 Q (k + 1) l Ts a' F → K a') → if Region.wanted o (yielded ops a.tmps) then ∃ v, (∀ W, kQuiet P o a W v) ∧ K (a.put o.dst v) else K (a.put o.dst undef)) :
    kAllC P ops R R0 p cc W0 Q k (o :: l) (none :: Ts) a F := by
  unfold kAllC
  have := h _ (fun _ h => h)
  split
  · rename_i hw
    rw [if_pos hw] at this
    obtain ⟨v, h1, h2⟩ := this
    exact ⟨v, fun W _ _ => h1 W, h2⟩
  · rename_i hw
    rw [if_neg hw] at this
    exact this
theorem kAllC_skip (hw : Region.wanted o (yielded ops a.tmps) = false) (h : kAllC P ops R R0 p cc W0 Q (k + 1) l Ts (a.put o.dst undef) F) : kAllC P ops R R0 p cc W0 Q k (o :: l) (none :: Ts) a F := by
  unfold kAllC; rw [if_neg (by simp [hw])]; exact h
theorem kAllC_pw (hw : Region.wanted o (yielded ops a.tmps) = true) (h : ∀ K : Act → Prop, (∀ a', kAllC P ops R R0 p cc W0 Q (k + 1) l Ts a' F → K a') → ∃ v, (∀ W, kQuiet P o a W v) ∧ K (a.put o.dst v)) : kAllC P ops R R0 p cc W0 Q k (o :: l) (none :: Ts) a F := by
  unfold kAllC; rw [if_pos hw]
  obtain ⟨v, h1, h2⟩ := h _ (fun _ h => h)
  exact ⟨v, fun W _ _ => h1 W, h2⟩
/-- an operation whose value is known, not the pivot -/
theorem kAllC_d (c : Value) (hk : k ≠ p) (h : ∀ W, R W0 W → kHas o W F → kStep P ops R0 o a W (fun v _ => v = c)) (hr : kAllC P ops R R0 p cc W0 Q (k + 1) l Ts (a.put o.dst c) F) : kAllC P ops R R0 p cc W0 Q k (o :: l) (some (.inl c) :: Ts) a F := by
  unfold kAllC
  exact ⟨fun W hW _ hF => by rw [if_neg hk]; exact h W hW hF, hr⟩
/-- the pivot -/
theorem kAllC_t (T : Value → World → Prop) (hk : k = p) (hm : ∀ v W W', R0 W W' → T v W → T v W') (h : ∀ W, R0 W0 W → kHas o W F → kStep P ops R o a W T) (hr : ∀ u, kAllC P ops R R0 p cc W0 Q (k + 1) l Ts (a.put o.dst u) ((k, T u) :: F)) : kAllC P ops R R0 p cc W0 Q k (o :: l) (some (.inr T) :: Ts) a F := by
  unfold kAllC
  exact ⟨fun v W W' hR => hm v W W' (by rwa [if_pos (.inl hk)] at hR), fun W _ hp hF => by rw [if_pos hk]; exact h W (hp hk) hF, hr⟩
/-- a fact, not the pivot's -/
theorem kAllC_u (T : Value → World → Prop) (hk : k ≠ p) (hkc : k ≠ cc) (hm : ∀ v W W', R W W' → T v W → T v W') (h : ∀ W, R W0 W → kHas o W F → kStep P ops R0 o a W T) (hr : ∀ u, kAllC P ops R R0 p cc W0 Q (k + 1) l Ts (a.put o.dst u) ((k, T u) :: F)) : kAllC P ops R R0 p cc W0 Q k (o :: l) (some (.inr T) :: Ts) a F := by
  unfold kAllC
  exact ⟨fun v W W' hR => hm v W W' (by rwa [if_neg (fun h => h.elim hk hkc)] at hR), fun W hW _ hF => by rw [if_neg hk]; exact h W hW hF, hr⟩
/-- the fact that serves the pivot alone -/
theorem kAllC_c (T : Value → World → Prop) (hk : k ≠ p) (hkc : k = cc) (hm : ∀ v W W', R0 W W' → T v W → T v W') (h : ∀ W, R W0 W → kHas o W F → kStep P ops R0 o a W T) (hr : ∀ u, kAllC P ops R R0 p cc W0 Q (k + 1) l Ts (a.put o.dst u) ((k, T u) :: F)) : kAllC P ops R R0 p cc W0 Q k (o :: l) (some (.inr T) :: Ts) a F := by
  unfold kAllC
  exact ⟨fun v W W' hR => hm v W W' (by rwa [if_pos (.inr hkc)] at hR), fun W hW _ hF => by rw [if_neg hk]; exact h W hW hF, hr⟩
theorem kAllC_nil (h : ∀ W, R W0 W → kAllHas W (F.filter (fun q => q.1 != cc)) → Q a W) : kAllC P ops R R0 p cc W0 Q k [] Ts a F := by
  cases Ts <;> (unfold kAllC; exact h)
end
end Go.Proofs.YtlfpefnlgiohbaaGreat
