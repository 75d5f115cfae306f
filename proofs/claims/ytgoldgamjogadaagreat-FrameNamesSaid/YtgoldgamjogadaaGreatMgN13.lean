/-
  A region that draws its order, in which several operations (the pivots ps, each behind the one ahead of it) turn more of the world than all others; J r: how the world stands when r of them are done. Made by gen_kch.py out of XKpiv's text.
  frame.Decode, where the sum is right.
  The same views, the same frames: at one model.
-/
import Derived.Test.YtgoldgamjogadaaGreatMgN1
import Derived.Test.YtgoldgamjogadaaGreatMgN2
import Derived.Test.YtgoldgamjogadaaGreatMgN12
namespace Go.Proofs.YtgoldgamjogadaaGreat
def kAllJ (P : Program) (ops : Array Oper) (R R0 : World → World → Prop) (ps : List Nat) (J : Nat → World → Prop) (W0 : World) (Q : Act → World → Prop) : Nat → List Oper → List KSpec → Act → List (Nat × (World → Prop)) → Prop
  | _, [], _, a, F => ∀ W, R W0 W → kAllHas W F → J ps.length W → Q a W
  | _, _ :: _, [], _, _ => False
  | k, o :: l, none :: Ts, a, F => k ∉ ps ∧
    if Region.wanted o (yielded ops a.tmps) then ∃ v, (∀ W, R W0 W → kHas o W F → kQuiet P o a W v) ∧ kAllJ P ops R R0 ps J W0 Q (k + 1) l Ts (a.put o.dst v) F else kAllJ P ops R R0 ps J W0 Q (k + 1) l Ts (a.put o.dst undef) F
  | k, o :: l, some (.inl c) :: Ts, a, F => (∀ W, R W0 W → (∀ (r : Nat), ps[r]? = some k → J r W) → kHas o W F → kStep P ops (if k ∈ ps then R else R0) o a W (fun v W' => v = c ∧ ∀ (r : Nat), ps[r]? = some k → J (r + 1) W')) ∧ kAllJ P ops R R0 ps J W0 Q (k + 1) l Ts (a.put o.dst c) F
  | k, o :: l, some (.inr T) :: Ts, a, F => (∀ v W W', R W W' → T v W → T v W') ∧ (∀ W, R W0 W → (∀ (r : Nat), ps[r]? = some k → J r W) → kHas o W F → kStep P ops (if k ∈ ps then R else R0) o a W (fun v W' => T v W' ∧ ∀ (r : Nat), ps[r]? = some k → J (r + 1) W')) ∧ ∀ u, kAllJ P ops R R0 ps J W0 Q (k + 1) l Ts (a.put o.dst u) ((k, T u) :: F)

section
variable {P : Program} {ops : Array Oper} {R R0 : World → World → Prop} {ps : List Nat} {J : Nat → World → Prop} {W0 : World} {Q : Act → World → Prop}

def KOblJ (P : Program) (ops : Array Oper) (R R0 : World → World → Prop) (ps : List Nat) (J : Nat → World → Prop) (W0 : World) (Ts : List KSpec) (a0 : Act) (u vs : Nat → Value) (j : Nat) : Prop := ∀ o s, ops[j]? = some o → Ts[j]? = some s →
  match s with
  | none => j ∉ ps ∧ if Region.wanted o (yielded ops (kActs ops a0 vs j).tmps) then ∀ W, R W0 W → KDeps Ts u o j W → kQuiet P o (kActs ops a0 vs j) W (vs j) else vs j = undef
  | some (.inl c) => vs j = c ∧ ∀ W, R W0 W → (∀ (r : Nat), ps[r]? = some j → J r W) → KDeps Ts u o j W → kStep P ops (if j ∈ ps then R else R0) o (kActs ops a0 vs j) W (fun v W' => v = c ∧ ∀ (r : Nat), ps[r]? = some j → J (r + 1) W')
  | some (.inr T) => vs j = u j ∧ (∀ v W W', R W W' → T v W → T v W') ∧ ∀ W, R W0 W → (∀ (r : Nat), ps[r]? = some j → J r W) → KDeps Ts u o j W → kStep P ops (if j ∈ ps then R else R0) o (kActs ops a0 vs j) W (fun v W' => T v W' ∧ ∀ (r : Nat), ps[r]? = some j → J (r + 1) W')

theorem KOblJ.congr {Ts : List KSpec} {a0 : Act} {u vs vs' : Nat → Value} {j : Nat} (h : KOblJ P ops R R0 ps J W0 Ts a0 u vs j) (he : ∀ i, i ≤ j → vs' i = vs i) : KOblJ P ops R R0 ps J W0 Ts a0 u vs' j := by
  intro o s ho hs
  have := h o s ho hs
  rw [kActs_congr (vs := vs') (vs' := vs) j (fun i hi => he i (by omega)), he j (Nat.le_refl _)]
  exact this

theorem kAllJ_data {Ts : List KSpec} {a0 : Act} (u : Nat → Value) : ∀ (l : List Oper) (Ts' : List KSpec) (k : Nat) (F : List (Nat × (World → Prop))) (vs0 : Nat → Value), (∀ j, j < l.length → ops[k + j]? = l[j]?) → (∀ j, Ts[k + j]? = Ts'[j]?) →
    (∀ o W, KDeps Ts u o k W → kHas o W F) → (∀ W, (∀ i T, i < k → Ts[i]? = some (some (.inr T)) → T (u i) W) → kAllHas W F) → kAllJ P ops R R0 ps J W0 Q k l Ts' (kActs ops a0 vs0 k) F →
    ∃ vs, (∀ j, j < k → vs j = vs0 j) ∧ (∀ j, k ≤ j → j < k + l.length → j < Ts.length ∧ KOblJ P ops R R0 ps J W0 Ts a0 u vs j) ∧ ∀ W, R W0 W → (∀ i T, i < k + l.length → Ts[i]? = some (some (.inr T)) → T (u i) W) → J ps.length W → Q (kActs ops a0 vs (k + l.length)) W
  | [], Ts', k, F, vs0, _, _, _, hall, h => ⟨vs0, fun _ _ => rfl, fun j h1 h2 => by simp at h2; omega, fun W hW hf hJ => by unfold kAllJ at h; exact h W hW (hall W (by simpa using hf)) hJ⟩
  | o :: l, [], k, F, vs0, _, _, _, _, h => by unfold kAllJ at h; exact h.elim
  | o :: l, s :: Ts', k, F, vs0, hl, hT, hdep, hall, h => by
    have ho : ops[k]? = some o := by simpa using hl 0 (by simp)
    have hs : Ts[k]? = some s := by simpa using hT 0
    have hkT : k < Ts.length := (List.getElem?_eq_some_iff.1 hs).1
    have hl' : ∀ j, j < l.length → ops[k + 1 + j]? = l[j]? := fun j hj => by have := hl (j + 1) (by simp; omega); simpa [Nat.add_assoc, Nat.add_comm 1 j] using this
    have hT' : ∀ j, Ts[k + 1 + j]? = Ts'[j]? := fun j => by have := hT (j + 1); simpa [Nat.add_assoc, Nat.add_comm 1 j] using this
    have act : ∀ v, kActs ops a0 (fun j => if j = k then v else vs0 j) (k + 1) = (kActs ops a0 vs0 k).put o.dst v := fun v => by
      show (kActs ops a0 _ k).put _ _ = _
      rw [kActs_congr (vs' := vs0) k (fun j hj => if_neg (by omega)), ho]
      simp
    have depS : (∀ T, s ≠ some (.inr T)) → (∀ o W, KDeps Ts u o (k + 1) W → kHas o W F) ∧ (∀ W, (∀ i T, i < k + 1 → Ts[i]? = some (some (.inr T)) → T (u i) W) → kAllHas W F) := fun _ =>
      ⟨fun o W hd => hdep o W (fun i T h1 h2 h3 => hd i T h1 (by omega) h3), fun W hf => hall W (fun i T h1 h2 => hf i T (by omega) h2)⟩
    have fin : ∀ v, (KOblJ P ops R R0 ps J W0 Ts a0 u (fun j => if j = k then v else vs0 j) k) → (∃ vs, (∀ j, j < k + 1 → vs j = (fun j => if j = k then v else vs0 j) j) ∧ (∀ j, k + 1 ≤ j → j < k + 1 + l.length → j < Ts.length ∧ KOblJ P ops R R0 ps J W0 Ts a0 u vs j) ∧ ∀ W, R W0 W → (∀ i T, i < k + 1 + l.length → Ts[i]? = some (some (.inr T)) → T (u i) W) → J ps.length W → Q (kActs ops a0 vs (k + 1 + l.length)) W) →
        ∃ vs, (∀ j, j < k → vs j = vs0 j) ∧ (∀ j, k ≤ j → j < k + (o :: l).length → j < Ts.length ∧ KOblJ P ops R R0 ps J W0 Ts a0 u vs j) ∧ ∀ W, R W0 W → (∀ i T, i < k + (o :: l).length → Ts[i]? = some (some (.inr T)) → T (u i) W) → J ps.length W → Q (kActs ops a0 vs (k + (o :: l).length)) W := by
      rintro v hob ⟨vs, h1, h2, h3⟩
      have el : k + (o :: l).length = k + 1 + l.length := by simp; omega
      refine ⟨vs, fun j hj => (h1 j (by omega)).trans (if_neg (by omega)), fun j hj hj2 => ?_, ?_⟩
      · by_cases e : j = k
        · subst e; exact ⟨hkT, hob.congr fun i hi => h1 i (by omega)⟩
        · exact h2 j (by omega) (by omega)
      · rw [el]; exact h3
    have eacts : ∀ v, kActs ops a0 (fun j => if j = k then v else vs0 j) k = kActs ops a0 vs0 k := fun v => kActs_congr k (fun j hj => if_neg (by omega))
    cases s with
    | none =>
      unfold kAllJ at h
      obtain ⟨hnp, h⟩ := h
      obtain ⟨d1, d2⟩ := depS (fun T e => by cases e)
      by_cases hw : Region.wanted o (yielded ops (kActs ops a0 vs0 k).tmps) = true
      · rw [if_pos hw] at h
        obtain ⟨v, hq, hr⟩ := h
        rw [← act v] at hr
        refine fin v ?_ (kAllJ_data u l Ts' (k + 1) F _ hl' hT' d1 d2 hr)
        intro o' s' ho' hs'
        obtain rfl := Option.some.inj (ho.symm.trans ho')
        obtain rfl := Option.some.inj (hs.symm.trans hs')
        simp only [eacts, hw, if_true]
        exact ⟨hnp, fun W hW hd => hq W hW (hdep o W hd)⟩
      · rw [if_neg hw] at h
        rw [← act undef] at h
        refine fin undef ?_ (kAllJ_data u l Ts' (k + 1) F _ hl' hT' d1 d2 h)
        intro o' s' ho' hs'
        obtain rfl := Option.some.inj (ho.symm.trans ho')
        obtain rfl := Option.some.inj (hs.symm.trans hs')
        simp only [eacts]
        refine ⟨hnp, ?_⟩
        rw [if_neg hw]; simp
    | some s =>
      cases s with
      | inl c =>
        unfold kAllJ at h
        obtain ⟨d1, d2⟩ := depS (fun T e => by cases e)
        obtain ⟨hq, hr⟩ := h
        rw [← act c] at hr
        refine fin c ?_ (kAllJ_data u l Ts' (k + 1) F _ hl' hT' d1 d2 hr)
        intro o' s' ho' hs'
        obtain rfl := Option.some.inj (ho.symm.trans ho')
        obtain rfl := Option.some.inj (hs.symm.trans hs')
        simp only [eacts, if_true]
        exact ⟨trivial, fun W hW hp hd => hq W hW hp (hdep o W hd)⟩
      | inr T =>
        unfold kAllJ at h
        obtain ⟨hm, hq, hr⟩ := h
        have hr := hr (u k)
        rw [← act (u k)] at hr
        refine fin (u k) ?_ (kAllJ_data u l Ts' (k + 1) _ _ hl' hT' ?_ ?_ hr)
        · intro o' s' ho' hs'
          obtain rfl := Option.some.inj (ho.symm.trans ho')
          obtain rfl := Option.some.inj (hs.symm.trans hs')
          simp only [eacts, if_true]
          exact ⟨trivial, hm, fun W hW hp hd => hq W hW hp (hdep o W hd)⟩
        · intro o' W hd
          refine ⟨?_, hdep o' W (fun i T h1 h2 h3 => hd i T h1 (by omega) h3)⟩
          by_cases hk : kWaits o' k = true
          · rw [if_pos hk]; exact hd k T hs (by omega) hk
          · rw [if_neg hk]; trivial
        · intro W hf
          exact ⟨hf k T (by omega) hs, hall W (fun i T h1 h2 => hf i T (by omega) h2)⟩

/-- each pivot waits for the one ahead of it; none stands twice -/
structure KChain (ops : Array Oper) (ps : List Nat) : Prop where
  edge : ∀ (q x y : Nat) (oy : Oper), ps[q]? = some x → ps[q + 1]? = some y → ops[y]? = some oy → ∃ e ∈ oy.after, e.on = x ∧ Region.binds .any e = true
  one : ∀ (q q' x : Nat), ps[q]? = some x → ps[q']? = some x → q = q'
  lt : ∀ (q x : Nat), ps[q]? = some x → x < ops.size
def kchainB (ops : Array Oper) (ps : List Nat) : Bool :=
  (List.range ps.length).all fun q => decide (ps.getD q 0 < ops.size) && (decide (q + 1 = ps.length) || ((ops.getD (ps.getD (q + 1) 0) default).after.any fun e => e.on == ps.getD q 0 && Region.binds .any e)) && (List.range ps.length).all fun q' => decide (q = q') || decide (ps.getD q 0 ≠ ps.getD q' 0)
theorem kchainB_spec {ops : Array Oper} {ps : List Nat} (h : kchainB ops ps = true) : KChain ops ps := by
  have hq : ∀ (q x : Nat), ps[q]? = some x → q < ps.length ∧ ps.getD q 0 = x := fun q x hx => ⟨(List.getElem?_eq_some_iff.1 hx).1, by simp [List.getD, hx]⟩
  have ha : ∀ q, q < ps.length → _ := fun q hl => List.all_eq_true.1 h q (List.mem_range.2 hl)
  simp only [Bool.and_eq_true, Bool.or_eq_true, decide_eq_true_eq, List.all_eq_true, List.mem_range] at ha
  refine ⟨fun q x y oy hx hy ho => ?_, fun q q' x hx hx' => ?_, fun q x hx => ?_⟩
  · obtain ⟨h1, e1⟩ := hq q x hx
    obtain ⟨h2, e2⟩ := hq (q + 1) y hy
    rcases (ha q h1).1.2 with h3 | h3
    · omega
    · rw [e2, Array.getD_eq_getD_getElem?, ho] at h3
      obtain ⟨e, he, hb⟩ := Array.any_eq_true'.1 h3
      simp only [Bool.and_eq_true, beq_iff_eq] at hb
      exact ⟨e, he, hb.1.trans e1, hb.2⟩
  · obtain ⟨h1, e1⟩ := hq q x hx
    obtain ⟨h2, e2⟩ := hq q' x hx'
    rcases (ha q h1).2 q' h2 with h3 | h3
    · exact h3
    · exact absurd (e1.trans e2.symm) h3
  · obtain ⟨h1, e1⟩ := hq q x hx
    rw [← e1]; exact (ha q h1).1.1
/-- how a run stands: as KInv; and as J says of the pivots that are done -/
structure KInvJ (ops : Array Oper) (R R0 : World → World → Prop) (ps : List Nat) (J : Nat → World → Prop) (W0 : World) (n : Nat) (Ts : List KSpec) (a0 : Act) (V : (Nat → Value) → Nat → Value) (listed : Array Bool) (a : Act) (g : Nat → Value) (W : World) : Prop extends KInv ops R W0 n Ts a0 V listed a g W where
  stage : ∀ (r : Nat), r ≤ ps.length → (∀ (q x : Nat), q < r → ps[q]? = some x → listed.getD x false = true) → (∀ (q x : Nat), r ≤ q → ps[q]? = some x → listed.getD x false = false) → J r W
variable {n : Nat} {Ts : List KSpec} {a0 : Act} {V : (Nat → Value) → Nat → Value}
theorem KInvJ.step {P : Program} {Q' : Exit → Act → World → Prop} {listed : Array Bool} {a : Act} {g : Nat → Value} {W : World} (hB : KripB ops n) (hRefl : ∀ a, R a a) (htr : ∀ a b c, R a b → R b c → R a c) (h0Refl : ∀ a, R0 a a) (_h0tr : ∀ a b c, R0 a b → R0 b c → R0 a c) (hsub : ∀ a b, R0 a b → R a b) (hch : KChain ops ps) (hJ0 : ∀ r W W', R0 W W' → J r W → J r W')
    (hV : ∀ u j, j < n → j < Ts.length ∧ KOblJ P ops R R0 ps J W0 Ts a0 u (V u) j)
    (h : KInvJ ops R R0 ps J W0 n Ts a0 V listed a g W) {i : Nat} (hi : i < n) (hr : i ∈ Region.ready .any ops listed) :
    wpOp P ops Q' i (fun a' W' => ∃ g', KInvJ ops R R0 ps J W0 n Ts a0 V (listed.setIfInBounds i true) a' g' W') a W := by
  have hr' := hr
  obtain ⟨hun, o, ho, hall⟩ := mem_ready.1 hr'
  have hsz : i < listed.size := by rw [h.head.size]; exact (Array.getElem?_eq_some_iff.1 ho).1
  have hunf := getD_both hun
  have hiT : i < Ts.length := (hV g i hi).1
  obtain ⟨s, hs⟩ : ∃ s, Ts[i]? = some s := ⟨_, List.getElem?_eq_getElem hiT⟩
  have deps : ∀ u, (∀ j T, listed.getD j false = true → Ts[j]? = some (some (.inr T)) → u j = g j) → KDeps Ts u o i W := by
    intro u hu j T hT hj hw
    obtain ⟨e, he, hb⟩ := Array.any_eq_true'.1 hw
    simp only [Bool.and_eq_true, beq_iff_eq] at hb
    have hl := hall e he hb.1
    rw [hb.2] at hl
    rw [hu j T hl hT]
    exact h.facts j T hl hT
  have hri : ∀ a b, (if i ∈ ps then R else R0) a b → R a b := fun a b h => by
    split at h
    · exact h
    · exact hsub _ _ h
  have hrefi : ∀ a, (if i ∈ ps then R else R0) a a := fun a => by
    split
    · exact hRefl a
    · exact h0Refl a
  have down1 : ∀ (q x y : Nat), ps[q]? = some x → ps[q + 1]? = some y → listed.getD y false = true → listed.getD x false = true := by
    intro q x y hx hy hl
    obtain ⟨oy, hoy⟩ : ∃ oy, ops[y]? = some oy := ⟨_, Array.getElem?_eq_getElem (hch.lt _ _ hy)⟩
    obtain ⟨e, he, e1, e2⟩ := hch.edge q x y oy hx hy hoy
    rw [← e1]; exact h.head.closed y oy hoy hl e he e2
  have down : ∀ (d q x y : Nat), ps[q]? = some x → ps[q + d]? = some y → listed.getD y false = true → listed.getD x false = true := by
    intro d
    induction d with
    | zero => intro q x y hx hy hl; rw [Nat.add_zero, hx] at hy; injection hy with hy; rw [hy]; exact hl
    | succ d ih =>
      intro q x y hx hy hl
      have hlen : q + (d + 1) < ps.length := (List.getElem?_eq_some_iff.1 hy).1
      obtain ⟨z, hz⟩ : ∃ z, ps[q + d]? = some z := ⟨_, List.getElem?_eq_getElem (by omega)⟩
      exact ih q x z hx hz (down1 (q + d) z y hz (by rw [Nat.add_assoc]; exact hy) hl)
  have pre : ∀ (r : Nat), ps[r]? = some i → J r W := fun r hr0 => by
    have hrl : r < ps.length := (List.getElem?_eq_some_iff.1 hr0).1
    refine h.stage r (by omega) (fun q x hq hx => ?_) (fun q x hq hx => ?_)
    · obtain ⟨z, hz⟩ : ∃ z, ps[r - 1]? = some z := ⟨_, List.getElem?_eq_getElem (by omega)⟩
      obtain ⟨e, he, e1, e2⟩ := hch.edge (r - 1) z i o hz (by rw [show r - 1 + 1 = r by omega]; exact hr0) ho
      have hlz : listed.getD z false = true := by rw [← e1]; exact hall e he e2
      exact down (r - 1 - q) q x z hx (by rw [show q + (r - 1 - q) = r - 1 by omega]; exact hz) hlz
    · cases hl : listed.getD x false with
      | false => rfl
      | true =>
        have := down (q - r) r i x hr0 (by rw [show r + (q - r) = q by omega]; exact hx) hl
        rw [hunf] at this; cases this
  -- what stands behind a value v in a world W'
  have next : ∀ v W', (if i ∈ ps then R else R0) W W' → (∀ T, Ts[i]? = some (some (.inr T)) → T v W') → (∀ j T, listed.getD j false = true → Ts[j]? = some (some (.inr T)) → T (g j) W') → (∀ u, (∀ j T, listed.getD j false = true → Ts[j]? = some (some (.inr T)) → u j = g j) → (∀ T, Ts[i]? = some (some (.inr T)) → u i = v) → V u i = v) → (∀ (r : Nat), ps[r]? = some i → J (r + 1) W') →
      ∃ g', KInvJ ops R R0 ps J W0 n Ts a0 V (listed.setIfInBounds i true) (a.put o.dst v) g' W' := by
    intro v W' hR hT hF hvu hJ
    refine ⟨fun j => if j = i then v else g j, ⟨⟨h.head.set hr hi, htr _ _ _ h.rel (hri _ _ hR), ?_, ?_, ?_⟩, ?_⟩⟩
    · intro j T hj hT'
      by_cases e : j = i
      · subst e; simpa using hT T hT'
      · rw [if_neg e]; exact hF j T (((getD_set_iff hsz).1 hj).resolve_left e) hT'
    · intro u hu
      have hu1 : ∀ j T, listed.getD j false = true → Ts[j]? = some (some (.inr T)) → u j = g j := fun j T hl hT' => by
        have e : j ≠ i := fun e => by subst e; rw [hunf] at hl; cases hl
        have := hu j T ((getD_set_iff hsz).2 (.inr hl)) hT'
        rwa [if_neg e] at this
      intro j hj
      by_cases e : j = i
      · subst e
        rw [if_pos rfl]
        exact hvu u hu1 fun T hT' => by have := hu j T ((getD_set_iff hsz).2 (.inl rfl)) hT'; rwa [if_pos rfl] at this
      · rw [if_neg e]; exact h.vals u hu1 j (((getD_set_iff hsz).1 hj).resolve_left e)
    · have := h.slots.put ho (fun j oj d hl hoj hd => by
        have e : j ≠ i := fun e => by subst e; rw [hunf] at hl; cases hl
        have hjn : j < n := by
          rcases Nat.lt_or_ge j n with h' | h'
          · exact h'
          · have := getD_both (h.head.tail j h' (Array.getElem?_eq_some_iff.1 hoj).1)
            rw [this] at hl; cases hl
        exact hB.dst j i oj o d hjn hi e hoj ho hd) (fun j hl e => by subst e; rw [hunf] at hl; cases hl) v
      exact this.congrL (fun j _ => getD_set_iff hsz) (fun _ _ => rfl)
    · intro r hr1 h1 h2
      by_cases hp : ∃ r0 : Nat, ps[r0]? = some i
      · obtain ⟨r0, hr0⟩ := hp
        have hset : (listed.setIfInBounds i true).getD i false = true := (getD_set_iff hsz).2 (.inl rfl)
        have hlo : r0 < r := by
          rcases Nat.lt_or_ge r0 r with hlt | hge
          · exact hlt
          · have := h2 r0 i hge hr0; rw [hset] at this; cases this
        have hhi : r ≤ r0 + 1 := by
          rcases Nat.lt_or_ge (r0 + 1) r with hlt | hge
          · obtain ⟨y, hy⟩ : ∃ y, ps[r0 + 1]? = some y := ⟨_, List.getElem?_eq_getElem (by omega)⟩
            have hly := h1 (r0 + 1) y hlt hy
            rcases (getD_set_iff hsz).1 hly with e | e
            · subst e; have := hch.one _ _ _ hr0 hy; omega
            · have := down1 r0 i y hr0 hy e
              rw [hunf] at this; cases this
          · exact hge
        obtain rfl : r = r0 + 1 := by omega
        exact hJ r0 hr0
      · have hni : i ∉ ps := fun hm => by
          obtain ⟨q, hq, e⟩ := List.getElem_of_mem hm
          exact hp ⟨q, by rw [List.getElem?_eq_getElem hq, e]⟩
        rw [if_neg hni] at hR
        refine hJ0 _ _ _ hR (h.stage r hr1 (fun q x hq hx => ?_) (fun q x hq hx => ?_))
        · rcases (getD_set_iff hsz).1 (h1 q x hq hx) with e | e
          · subst e; exact absurd ⟨q, hx⟩ hp
          · exact e
        · cases hl : listed.getD x false with
          | false => rfl
          | true => have := h2 q x hq hx; rw [(getD_set_iff hsz).2 (.inr hl)] at this; cases this
  have ob := (hV g i hi).2 o s ho hs
  obtain ⟨ex, wn⟩ := h.toKInv.exec hB ho hi hr (u := g) (fun _ _ _ _ => rfl)
  have dg := deps g (fun _ _ _ _ => rfl)
  have slot0 : ∀ (a a' : Act) (L : Nat → Prop) (g : Nat → Value), KSlots ops a a' L g → ∀ d : Nat, a'.tmps[d]? = none ↔ a.tmps[d]? = none := by
    intro a a' L g hk d
    by_cases hex : ∃ j oj, L j ∧ ops[j]? = some oj ∧ oj.dst = some d
    · obtain ⟨j, oj, h1, h2, h3⟩ := hex
      rw [hk.laid j oj d h1 h2 h3]; simp
    · rw [hk.other d fun j oj h1 h2 h3 => hex ⟨j, oj, h1, h2, h3⟩]
  have hz : ∀ d : Nat, o.dst = some d → ((kActs ops a0 (V g) i).tmps[d]? = none ↔ a.tmps[d]? = none) := fun d _ =>
    (slot0 _ _ _ _ (kActs_slots hB a0 (V g) i (by omega)) d).trans (slot0 _ _ _ _ h.slots d).symm
  have viaStep : ∀ (T : Value → World → Prop), kStep P ops (if i ∈ ps then R else R0) o (kActs ops a0 (V g) i) W T → (∀ v W', (if i ∈ ps then R else R0) W W' → T v W' → ∃ g', KInvJ ops R R0 ps J W0 n Ts a0 V (listed.setIfInBounds i true) (a.put o.dst v) g' W') → (∀ v, T v W → Region.wanted o (yielded ops a.tmps) = false → v = undef → ∃ g', KInvJ ops R R0 ps J W0 n Ts a0 V (listed.setIfInBounds i true) (a.put o.dst v) g' W) →
      wpOp P ops Q' i (fun a' W' => ∃ g', KInvJ ops R R0 ps J W0 n Ts a0 V (listed.setIfInBounds i true) a' g' W') a W := by
    intro T hst hn hn0
    unfold wpOp
    simp only [ho]
    unfold kStep at hst
    rw [← wn] at hst
    by_cases hw : Region.wanted o (yielded ops a.tmps) = true
    · rw [if_pos hw] at hst ⊢
      refine .inl ?_
      have := hst (fun a' W' => ∃ v, a' = (kActs ops a0 (V g) i).put o.dst v ∧ ((if i ∈ ps then R else R0) W W' ∧ T v W')) (fun _ _ _ => False) (fun v W' h1 h2 => ⟨v, rfl, h1, h2⟩)
      exact Oper.wp_mono (fun a' W' => by rintro ⟨v, rfl, h1, h2⟩; exact hn v W' h1 h2) (wp_other (Q' := Q') ex hz this)
    · rw [if_neg hw] at hst ⊢
      exact hn0 undef hst (by simpa using hw) rfl
  cases s with
  | none =>
    simp only at ob
    obtain ⟨hnp, ob⟩ := ob
    have nj : ∀ W', ∀ (r : Nat), ps[r]? = some i → J (r + 1) W' := fun W' r hr0 => absurd (List.mem_of_getElem? hr0) hnp
    rw [← wn] at ob
    have noT : ∀ {p : (Value → World → Prop) → Prop}, ∀ T, Ts[i]? = some (some (.inr T)) → p T := fun T hT => by rw [hs] at hT; cases hT
    unfold wpOp
    simp only [ho]
    by_cases hw : Region.wanted o (yielded ops a.tmps) = true
    · rw [if_pos hw] at ob ⊢
      refine .inl ?_
      have hq := ob W h.rel dg
      have same : ∀ u, (∀ j T, listed.getD j false = true → Ts[j]? = some (some (.inr T)) → u j = g j) → kQuietUpon W (V u i) ((execOp a.eval o).run P W) := by
        intro u hu
        obtain ⟨ex', wn'⟩ := h.toKInv.exec hB ho hi hr hu
        have ob' := (hV u i hi).2 o none ho hs
        simp only at ob'
        replace ob' := ob'.2
        rw [← wn', if_pos hw] at ob'
        have := ob' W h.rel (deps u hu)
        unfold kQuiet at this
        rwa [← ex'] at this
      unfold kQuiet at hq
      rw [← ex] at hq
      unfold Oper.wp
      generalize (execOp a.eval o).run P W = r at *
      cases r with
      | halt x w' => exact hq.elim
      | ok nx w' =>
        cases nx with
        | value v =>
          simp only [kQuietUpon] at hq same
          simp only [Oper.upon]
          obtain ⟨e1, e2⟩ := hq
          refine next v w' ?_ noT ?_ (fun u hu _ => ((same u hu).2).symm) (nj _)
          · rw [e1]; exact hrefi W
          · intro j T hl hT; rw [e1]; exact h.facts j T hl hT
        | skip =>
          simp only [kQuietUpon] at hq same
          simp only [Oper.upon]
          obtain ⟨e1, e2⟩ := hq
          refine next undef w' ?_ noT ?_ (fun u hu _ => (same u hu).2) (nj _)
          · rw [e1]; exact hrefi W
          · intro j T hl hT; rw [e1]; exact h.facts j T hl hT
        | _ => exact hq.elim
    · rw [if_neg hw] at ob ⊢
      refine next undef W (hrefi W) noT (fun j T hl hT => h.facts j T hl hT) (fun u hu _ => ?_) (nj _)
      obtain ⟨ex', wn'⟩ := h.toKInv.exec hB ho hi hr hu
      have ob' := (hV u i hi).2 o none ho hs
      simp only at ob'
      replace ob' := ob'.2
      rw [← wn', if_neg hw] at ob'
      exact ob'
  | some s =>
    have mono : ∀ j T, Ts[j]? = some (some (.inr T)) → j < n → ∀ v W W', R W W' → T v W → T v W' := by
      intro j T hT hj
      obtain ⟨oj, hoj⟩ : ∃ oj, ops[j]? = some oj := ⟨_, Array.getElem?_eq_getElem (by have := hB.le; omega)⟩
      have := (hV g j hj).2 oj _ hoj hT
      exact this.2.1
    have factsK : ∀ W', (if i ∈ ps then R else R0) W W' → ∀ j T, listed.getD j false = true → Ts[j]? = some (some (.inr T)) → T (g j) W' := by
      intro W' hR j T hl hT
      have hjn : j < n := by
        rcases Nat.lt_or_ge j n with h' | h'
        · exact h'
        · have hjs : j < ops.size := by
            rcases Nat.lt_or_ge j ops.size with h2 | h2
            · exact h2
            · rw [← h.head.size] at h2
              simp [Array.getElem?_eq_none h2] at hl
          have := getD_both (h.head.tail j h' hjs)
          rw [this] at hl; cases hl
      exact mono j T hT hjn _ _ _ (hri _ _ hR) (h.facts j T hl hT)
    cases s with
    | inl c =>
      simp only at ob
      have noT : ∀ {p : (Value → World → Prop) → Prop}, ∀ T, Ts[i]? = some (some (.inr T)) → p T := fun T hT => by rw [hs] at hT; cases hT
      have hc : ∀ u, V u i = c := fun u => by have := (hV u i hi).2 o _ ho hs; exact this.1
      refine viaStep _ (ob.2 W h.rel pre dg) (fun v W' hR hv => ?_) (fun v hv hw hu => ?_)
      · exact next v W' hR noT (factsK W' hR) (fun u _ _ => by rw [hc u, hv.1]) hv.2
      · exact next v W (hrefi W) noT (factsK W (hrefi W)) (fun u _ _ => by rw [hc u, hv.1]) hv.2
    | inr T =>
      simp only at ob
      have hc : ∀ u, V u i = u i := fun u => by have := (hV u i hi).2 o _ ho hs; exact this.1
      refine viaStep _ (ob.2.2 W h.rel pre dg) (fun v W' hR hv => ?_) (fun v hv hw hu => ?_)
      · exact next v W' hR (fun T' hT' => by rw [hs] at hT'; cases hT'; exact hv.1) (factsK W' hR) (fun u _ hT => by rw [hc u, hT T hs]) hv.2
      · exact next v W (hrefi W) (fun T' hT' => by rw [hs] at hT'; cases hT'; exact hv.1) (factsK W (hrefi W)) (fun u _ hT => by rw [hc u, hT T hs]) hv.2

theorem KInvJ.run {P : Program} {Q' : Exit → Act → World → Prop} (hB : KripB ops n) (hRefl : ∀ a, R a a) (htr : ∀ a b c, R a b → R b c → R a c) (h0Refl : ∀ a, R0 a a) (h0tr : ∀ a b c, R0 a b → R0 b c → R0 a c) (hsub : ∀ a b, R0 a b → R a b) (hch : KChain ops ps) (hJ0 : ∀ r W W', R0 W W' → J r W → J r W')
    (hV : ∀ u j, j < n → j < Ts.length ∧ KOblJ P ops R R0 ps J W0 Ts a0 u (V u) j) (hfin : ∀ u W, R W0 W → (∀ i T, i < n → Ts[i]? = some (some (.inr T)) → T (u i) W) → J ps.length W → wpList P ops Q' (ops.toList.drop n) (kActs ops a0 (V u) n) W) (hpn : ∀ (q x : Nat), ps[q]? = some x → x < n) :
    ∀ (m : Nat) (listed : Array Bool) (a : Act) (g : Nat → Value) (W : World), KInvJ ops R R0 ps J W0 n Ts a0 V listed a g W → (unl n listed).length = m → wpAny P .any ops Q' (m + (ops.size - n)) listed a W
  | 0, listed, a, g, W, h, hm => by
    have hall : ∀ j, j < n → listed.getD j false = true := fun j hj => by
      cases hl : listed.getD j false with
      | true => rfl
      | false =>
        have : j ∈ unl n listed := List.mem_filter.2 ⟨List.mem_range.2 hj, by simp only [hl]; rfl⟩
        rw [List.eq_nil_of_length_eq_zero hm] at this
        cases this
    have hnot : ∀ j, n ≤ j → ¬ listed.getD j false = true := fun j hj hl => by
      rcases Nat.lt_or_ge j ops.size with h2 | h2
      · have := getD_both (h.head.tail j hj h2); rw [this] at hl; cases hl
      · rw [← h.head.size] at h2
        simp [Array.getElem?_eq_none h2] at hl
    have el : listed = (List.replicate n true ++ List.replicate (ops.size - n) false).toArray := by
      have hsz := h.head.size
      have hle := hB.le
      apply Array.ext
      · simp; omega
      · intro j h1 h2
        by_cases hj : j < n
        · have := hall j hj
          simp [h1] at this
          simp [this, hj]
        · have := hnot j (by omega)
          simp [h1] at this
          simp [this, List.getElem_append, hj]
    have ea : a = kActs ops a0 (V g) n := by
      have hs := kActs_slots hB a0 (V g) n (Nat.le_refl _)
      have ht : ∀ d : Nat, a.tmps[d]? = (kActs ops a0 (V g) n).tmps[d]? := fun d => h.slots.same hs fun j oj hj hd => by
        by_cases hjn : j < n
        · exact ⟨⟨fun _ => hjn, fun _ => hall j hjn⟩, fun _ => (h.vals g (fun _ _ _ _ => rfl) j (hall j hjn)).symm⟩
        · exact ⟨⟨fun hl => absurd hl (hnot j (by omega)), fun hl => absurd hl hjn⟩, fun hl => absurd hl (hnot j (by omega))⟩
      have hd : a.defers = (kActs ops a0 (V g) n).defers := h.slots.defers.trans hs.defers.symm
      have htm : a.tmps = (kActs ops a0 (V g) n).tmps := Array.ext_getElem? ht
      cases a
      simp only at htm hd
      rw [htm, hd]
    have := hfin g W h.rel (fun i T hi hT => h.facts i T (hall i hi) hT) (h.stage ps.length (Nat.le_refl _) (fun q x _ hx => hall x (hpn q x hx)) (fun q x hq hx => by have := (List.getElem?_eq_some_iff.1 hx).1; omega))
    rw [← ea] at this
    have hseq := hB.seq
    rw [← el] at hseq
    have hdl : (ops.toList.drop n).length = ops.size - n := by simp
    have := wpAny_of_seq (md := .any) (Q' := Q') (ops.toList.drop n) n listed a W (fun j => by simp [List.getElem?_drop]) (by rw [hdl]; exact hseq) this
    rw [hdl] at this
    rw [Nat.zero_add]
    exact this
  | m + 1, listed, a, g, W, h, hm => by
    rw [show m + 1 + (ops.size - n) = (m + (ops.size - n)) + 1 by omega]
    have hle := hB.le
    have hne : ∃ i, i ∈ Region.ready .any ops listed ∧ i < n := by
      have hex : ∃ j, j < n ∧ listed.getD j false = false := by
        have : unl n listed ≠ [] := fun e => by rw [e] at hm; cases hm
        obtain ⟨j, hj⟩ := List.exists_mem_of_ne_nil _ this
        obtain ⟨h1, h2⟩ := List.mem_filter.1 hj
        exact ⟨j, List.mem_range.1 h1, by simpa using h2⟩
      have least : ∀ j, j < n → listed.getD j false = false → ∃ i, i ∈ Region.ready .any ops listed ∧ i < n := by
        intro j
        induction j using Nat.strongRecOn with
        | _ j ih =>
          intro hj hl
          have hjs : j < ops.size := by omega
          have ho : ops[j]? = some ops[j] := Array.getElem?_eq_getElem hjs
          by_cases hall : ∀ e ∈ (ops[j]).after, Region.binds .any e = true → listed.getD e.on false = true
          · exact ⟨j, mem_ready.2 ⟨getD_in (by rw [h.head.size]; exact hjs) hl, _, ho, hall⟩, hj⟩
          · have : ∃ e ∈ (ops[j]).after, Region.binds .any e = true ∧ listed.getD e.on false = false := by
              apply Classical.byContradiction
              intro hn
              apply hall
              intro e he hb
              cases hl : listed.getD e.on false with
              | true => rfl
              | false => exact absurd ⟨e, he, hb, hl⟩ hn
            obtain ⟨e, he, hb, hl'⟩ := this
            have hlow := hB.low j _ hj ho e he hb
            exact ih e.on hlow (by omega) hl'
      obtain ⟨j, hj, hl⟩ := hex
      exact least j hj hl
    refine ⟨fun h0 => ?_, fun i hi => ?_⟩
    · obtain ⟨i, hi, _⟩ := hne
      rw [h0] at hi; cases hi
    · have hin : i < n := by
        rcases Nat.lt_or_ge i n with h' | h'
        · exact h'
        · obtain ⟨k, hk, hkn⟩ := hne
          have hkun := (mem_ready.1 hk).1
          have his : i < ops.size := by obtain ⟨_, o, ho, _⟩ := mem_ready.1 hi; exact (Array.getElem?_eq_some_iff.1 ho).1
          rcases hB.tail with ht | ⟨hs, hc⟩
          · omega
          · exact absurd hi (tail_waits hs hc (by omega) h.head _ k rfl hkn hkun i h')
      have hun := (mem_ready.1 hi).1
      have hsz : i < listed.size := by rw [h.head.size]; omega
      refine wpOp_mono (fun a' W' => ?_) (h.step hB hRefl htr h0Refl h0tr hsub hch hJ0 hV hin hi)
      rintro ⟨g', hg'⟩
      have := unl_set hin hsz (getD_both hun)
      exact KInvJ.run hB hRefl htr h0Refl h0tr hsub hch hJ0 hV hfin hpn m _ a' g' W' hg' (by omega)

/-- A region that draws its order: the first n operations, each shown once, in whatever later world it comes up; then the rest, one behind the other. -/
theorem wp_region_kch {P : Program} (R R0 : World → World → Prop) (ps : List Nat) (J : Nat → World → Prop) (hRefl : ∀ a, R a a) (htr : ∀ a b c, R a b → R b c → R a c) (h0Refl : ∀ a, R0 a a) (h0tr : ∀ a b c, R0 a b → R0 b c → R0 a c) (hsub : ∀ a b, R0 a b → R a b) {id : Nat} {Q' : Exit → Act → World → Prop} {a : Act} {w : World} {l : List Oper} (n : Nat) (hm : P.follows .mixedOrders = true)
    (hB : kripB l.toArray n = true) (hC : kchainB l.toArray ps = true) (hP : ps.all (fun x => decide (x < n)) = true) (hJ0 : ∀ r W W', R0 W W' → J r W → J r W') (hJ : J 0 w.drew) {Ts : List KSpec}
    (h : kAllJ P l.toArray R R0 ps J w.drew (fun a W => wpList P l.toArray Q' (l.drop n) a W) 0 (l.take n) Ts a []) : (Code.region id l.toArray true).wp P Q' a w := by
  have hB := kripB_spec hB
  have hle := hB.le
  refine wp_region_any hm ?_
  have dat := fun u => kAllJ_data (Ts := Ts) (a0 := a) u (l.take n) Ts 0 [] (fun _ => undef) (fun j hj => by
    have : j < n := by simp at hj; omega
    simp [this]) (fun j => by simp) (fun _ _ _ => trivial) (fun _ _ => trivial) h
  have hlen : 0 + (l.take n).length = n := by simp at hle ⊢; omega
  rw [hlen] at dat
  let V := fun u => Classical.choose (dat u)
  have hV : ∀ u, _ := fun u => Classical.choose_spec (dat u)
  have inv0 : KInvJ l.toArray R R0 ps J w.drew n Ts a V (Array.replicate l.toArray.size false) a (fun _ => undef) w.drew := by
    refine ⟨⟨⟨by simp, fun j oj _ hl => (by rw [getD_replicate_false] at hl; cases hl), fun t _ ht => getD_in (by simpa using ht) (getD_replicate_false _ _)⟩, hRefl _, fun j T hl => (by rw [getD_replicate_false] at hl; cases hl), fun u _ j hl => (by rw [getD_replicate_false] at hl; cases hl), ?_⟩, fun r _ h1 _ => ?_⟩
    rotate_left
    · match r, h1 with
      | 0, _ => exact hJ
      | r + 1, h1 =>
        rename_i hr
        obtain ⟨z, hz⟩ : ∃ z, ps[0]? = some z := ⟨_, List.getElem?_eq_getElem (by omega)⟩
        have := h1 0 z (by omega) hz
        rw [getD_replicate_false] at this; cases this
    exact (KSlots.init l.toArray a (fun _ => undef)).congrL (fun j _ => by rw [getD_replicate_false]; simp) (fun _ h => h.elim)
  have hu0 : (unl n (Array.replicate l.toArray.size false)).length = n := by
    unfold unl
    rw [List.filter_eq_self.2 (fun j _ => by rw [getD_replicate_false]; rfl)]
    simp
  have := KInvJ.run (P := P) (Q' := Q') hB hRefl htr h0Refl h0tr hsub (kchainB_spec hC) hJ0 (Ts := Ts) (V := V) (fun u j hj => (hV u).2.1 j (Nat.zero_le _) (by omega)) (fun u W hW hf hJe => by
    exact (hV u).2.2 W hW (fun i T hi hT => hf i T (by omega) hT) hJe) (fun q x hx => by simpa using List.all_eq_true.1 hP x (List.mem_of_getElem? hx)) n _ a _ w.drew inv0 hu0
  rw [show n + (l.toArray.size - n) = l.toArray.size by omega] at this
  exact this
end

section
variable {P : Program} {ops : Array Oper} {R R0 : World → World → Prop} {ps : List Nat} {J : Nat → World → Prop} {W0 : World} {Q : Act → World → Prop} {k : Nat} {o : Oper} {l : List Oper} {Ts : List KSpec} {a : Act} {F : List (Nat × (World → Prop))}
theorem kAllJ_p (hk : k ∉ ps) (h : ∀ K : Act → Prop, (∀ a', kAllJ P ops R R0 ps J W0 Q (k + 1) l Ts a' F → K a') → if Region.wanted o (yielded ops a.tmps) then ∃ v, (∀ W, kQuiet P o a W v) ∧ K (a.put o.dst v) else K (a.put o.dst undef)) :
    kAllJ P ops R R0 ps J W0 Q k (o :: l) (none :: Ts) a F := by
  unfold kAllJ
  refine ⟨hk, ?_⟩
  have := h _ (fun _ h => h)
  split
  · rename_i hw
    rw [if_pos hw] at this
    obtain ⟨v, h1, h2⟩ := this
    exact ⟨v, fun W _ _ => h1 W, h2⟩
  · rename_i hw
    rw [if_neg hw] at this
    exact this
theorem kAllJ_skip (hk : k ∉ ps) (hw : Region.wanted o (yielded ops a.tmps) = false) (h : kAllJ P ops R R0 ps J W0 Q (k + 1) l Ts (a.put o.dst undef) F) : kAllJ P ops R R0 ps J W0 Q k (o :: l) (none :: Ts) a F := by
  unfold kAllJ; refine ⟨hk, ?_⟩; rw [if_neg (by simp [hw])]; exact h
theorem kAllJ_pw (hk : k ∉ ps) (hw : Region.wanted o (yielded ops a.tmps) = true) (h : ∀ K : Act → Prop, (∀ a', kAllJ P ops R R0 ps J W0 Q (k + 1) l Ts a' F → K a') → ∃ v, (∀ W, kQuiet P o a W v) ∧ K (a.put o.dst v)) : kAllJ P ops R R0 ps J W0 Q k (o :: l) (none :: Ts) a F := by
  unfold kAllJ; refine ⟨hk, ?_⟩; rw [if_pos hw]
  obtain ⟨v, h1, h2⟩ := h _ (fun _ h => h)
  exact ⟨v, fun W _ _ => h1 W, h2⟩
/-- an operation whose value is known, no pivot -/
theorem kAllJ_d (c : Value) (hk : k ∉ ps) (h : ∀ W, R W0 W → kHas o W F → kStep P ops R0 o a W (fun v _ => v = c)) (hr : kAllJ P ops R R0 ps J W0 Q (k + 1) l Ts (a.put o.dst c) F) : kAllJ P ops R R0 ps J W0 Q k (o :: l) (some (.inl c) :: Ts) a F := by
  unfold kAllJ
  refine ⟨fun W hW _ hF => ?_, hr⟩
  rw [if_neg hk]
  have hst := h W hW hF
  unfold kStep at hst ⊢
  split
  · rename_i hw
    rw [if_pos hw] at hst
    exact fun K Q hK => hst K Q (fun v W' h1 h2 => hK v W' h1 ⟨h2, fun r hr0 => absurd (List.mem_of_getElem? hr0) hk⟩)
  · rename_i hw
    rw [if_neg hw] at hst
    exact ⟨hst, fun r hr0 => absurd (List.mem_of_getElem? hr0) hk⟩
/-- a fact, no pivot's -/
theorem kAllJ_u (T : Value → World → Prop) (hk : k ∉ ps) (hm : ∀ v W W', R W W' → T v W → T v W') (h : ∀ W, R W0 W → kHas o W F → kStep P ops R0 o a W T) (hr : ∀ u, kAllJ P ops R R0 ps J W0 Q (k + 1) l Ts (a.put o.dst u) ((k, T u) :: F)) : kAllJ P ops R R0 ps J W0 Q k (o :: l) (some (.inr T) :: Ts) a F := by
  unfold kAllJ
  refine ⟨hm, fun W hW _ hF => ?_, hr⟩
  rw [if_neg hk]
  have hst := h W hW hF
  unfold kStep at hst ⊢
  split
  · rename_i hw
    rw [if_pos hw] at hst
    exact fun K Q hK => hst K Q (fun v W' h1 h2 => hK v W' h1 ⟨h2, fun r hr0 => absurd (List.mem_of_getElem? hr0) hk⟩)
  · rename_i hw
    rw [if_neg hw] at hst
    exact ⟨hst, fun r hr0 => absurd (List.mem_of_getElem? hr0) hk⟩
/-- pivot number r, whose value is known -/
theorem kAllJ_dp (c : Value) (r : Nat) (hk : ps[r]? = some k) (hone : ∀ (r' : Nat), ps[r']? = some k → r' = r) (h : ∀ W, R W0 W → J r W → kHas o W F → kStep P ops R o a W (fun v W' => v = c ∧ J (r + 1) W')) (hr : kAllJ P ops R R0 ps J W0 Q (k + 1) l Ts (a.put o.dst c) F) : kAllJ P ops R R0 ps J W0 Q k (o :: l) (some (.inl c) :: Ts) a F := by
  unfold kAllJ
  refine ⟨fun W hW hp hF => ?_, hr⟩
  rw [if_pos (List.mem_of_getElem? hk)]
  have hst := h W hW (hp r hk) hF
  unfold kStep at hst ⊢
  split
  · rename_i hw
    rw [if_pos hw] at hst
    exact fun K Q hK => hst K Q (fun v W' h1 h2 => hK v W' h1 ⟨h2.1, fun r' hr0 => by rw [hone r' hr0]; exact h2.2⟩)
  · rename_i hw
    rw [if_neg hw] at hst
    exact ⟨hst.1, fun r' hr0 => by rw [hone r' hr0]; exact hst.2⟩
/-- pivot number r, with a fact -/
theorem kAllJ_t (T : Value → World → Prop) (r : Nat) (hk : ps[r]? = some k) (hone : ∀ (r' : Nat), ps[r']? = some k → r' = r) (hm : ∀ v W W', R W W' → T v W → T v W') (h : ∀ W, R W0 W → J r W → kHas o W F → kStep P ops R o a W (fun v W' => T v W' ∧ J (r + 1) W')) (hr : ∀ u, kAllJ P ops R R0 ps J W0 Q (k + 1) l Ts (a.put o.dst u) ((k, T u) :: F)) : kAllJ P ops R R0 ps J W0 Q k (o :: l) (some (.inr T) :: Ts) a F := by
  unfold kAllJ
  refine ⟨hm, fun W hW hp hF => ?_, hr⟩
  rw [if_pos (List.mem_of_getElem? hk)]
  have hst := h W hW (hp r hk) hF
  unfold kStep at hst ⊢
  split
  · rename_i hw
    rw [if_pos hw] at hst
    exact fun K Q hK => hst K Q (fun v W' h1 h2 => hK v W' h1 ⟨h2.1, fun r' hr0 => by rw [hone r' hr0]; exact h2.2⟩)
  · rename_i hw
    rw [if_neg hw] at hst
    exact ⟨hst.1, fun r' hr0 => by rw [hone r' hr0]; exact hst.2⟩
theorem kAllJ_nil (h : ∀ W, R W0 W → kAllHas W F → J ps.length W → Q a W) : kAllJ P ops R R0 ps J W0 Q k [] Ts a F := by
  cases Ts <;> (unfold kAllJ; exact h)
end
end Go.Proofs.YtgoldgamjogadaaGreat

namespace Go.Proofs.YtgoldgamjogadaaGreat
open Go.RowKit Go
set_option maxRecDepth 100000
attribute [local go_sem] bs_toList bs_size bs_get
attribute [local irreducible] kAll kAllJ
attribute [local go_sem] kQuiet kQuietUpon

theorem copen_any (s : Bs) (w : World) : Calls Tryz.prog 27 #[.string (bs s)] w (fun e w' => e = .returned (.pointer (some ⟨w.heap.size, 0, none⟩)) ∧ Rdr w' w.heap.size (s, 0) ∧ Keep (fun _ => False) w w') := by
  go_enter Tryz.func27, Tryz.ntmps27
  go_wp2
  go_ret
  exact ⟨rfl, Blk.new _ _ _, (Keep.refl _ w).alloc _⟩
def FrR (st : WS) (f : FrM) (m1 m2 m3 m4 m5 m6 st' : WS) : Prop := (∃ e, NumR st (f.kind : Int) e m1) ∧ IdR m1 f.frm m2 ∧ IdR m2 f.to m3 ∧ (∃ e, NumR m3 f.n e m4) ∧ (∃ e, NumR m4 f.tok e m5) ∧ IdR m5 f.abt m6 ∧ ViewR m6 f.view st'
/-- what Decode tells of a frame that was read, with what End said -/
def DecPost (f : FrM) (er : Int) (w : World) (e : Ending) (w' : World) : Prop := (if er = 0 ∧ mayF f = true then ∃ m l r c s, e = .returned (.tuple #[frV f m l r c s, .int .i64 0]) ∧ NewV f.view w m l r c s w' else e = .returned (.tuple #[zfrV, .int .i64 4])) ∧ Keep (fun _ => False) w w'
theorem NewV.base {v : VwM} {w0 w1 w : World} {m f r c s : Value} (h : NewV v w1 m f r c s w) (hb : w0.heap.size ≤ w1.heap.size) : NewV v w0 m f r c s w :=
  ⟨h.mem.base hb, h.fl.base hb, h.rows.base hb, h.clk.base hb, h.seen.base hb⟩
set_option maxHeartbeats 8000000 in
theorem dec_ok (s : Bs) (n : Nat) (hn : s.length = n + 4) (h : s.length ≤ 8192) (hd : s.drop n = le4 (sumM (s.take n))) (f : FrM) (hk : f.kind < 256) (m1 m2 m3 m4 m5 m6 st' : WS) (hr : FrR (s.take n, 0) f m1 m2 m3 m4 m5 m6 st') (er : Int) (he : (st'.2 ≠ 0 ∧ er = st'.2) ∨ (st' = ([], 0) ∧ er = 0)) (hfew : Few f.view) (hst : ∀ x ∈ f.view.mem, 0 ≤ x.st ∧ x.st < 256) (w : World) :
    Calls Tryz.prog 13 #[.string (bs s)] w (DecPost f er w) := by
  obtain ⟨W0, hW0⟩ : ∃ W0, w.alloc (.cells #[.int .u8 0, .int .i64 0, .int .i64 0, .int .i64 0, .int .i64 0, .int .i64 0, .int .i64 0, .int .i64 0, .int .i64 0, .slice none 0 0, .slice none 0 0, .slice none 0 0, .slice none 0 0, .slice none 0 0] 39) = W0 := ⟨_, rfl⟩
  have hb : Blk W0 w.heap.size 39 #[.int .u8 0, .int .i64 0, .int .i64 0, .int .i64 0, .int .i64 0, .int .i64 0, .int .i64 0, .int .i64 0, .int .i64 0, .slice none 0 0, .slice none 0 0, .slice none 0 0, .slice none 0 0, .slice none 0 0] := by rw [← hW0]; exact Blk.new _ _ _
  have hk0 : Keep (fun _ => False) w W0 := by rw [← hW0]; exact (Keep.refl _ w).alloc _
  have HB := Lib.hid hb
  have HK := Lib.hid hk0
  have q1 : ¬ (8192 : Int) < (s.length : Int) := by omega
  have q3 : IntKind.i64.wrap ((s.length : Int) - 4) = (n : Int) := by rw [IntWalk.i64_in _ (by omega)]; omega
  have q4 : ¬ (n : Int) < 0 := by omega
  have q5 : (n : Int) ≤ (s.length : Int) := by omega
  have hlt : (s.take n).length ≤ 1000000000 := by rw [List.length_take]; omega
  have hdr : (s.drop n).take (s.length - n) = s.drop n := List.take_of_length_le (by rw [List.length_drop]; omega)
  have htk : (s.drop 0).take (n - 0) = s.take n := by simp
  have hne : (s.drop n == le4 (sumM (s.take n))) = true := by rw [beq_iff_eq]; exact hd
  have HNl := Lib.hid hn
  have HR := Lib.hid hr
  have HE := Lib.hid he
  have HF := Lib.hid hfew
  have HST := Lib.hid hst
  clear hb hk0 hn h hr he hd hfew hst
  go_enter Tryz.func13, Tryz.ntmps13
  go_wp2_with fail
  refine wp_region_krip (Keep (fun _ => False)) (Keep.refl _) keep0_trans 9 (by kernel_rfl) (by kernel_rfl) (Ts := [none, none, some (.inl (.string (bs (s.drop n)))), none, none, some (.inl (.string (bs (s.take n)))), some (.inl (.string (bs (le4 (sumM (s.take n)))))), some (.inl (.bool false)), none]) ?_
  simp only [List.take, List.drop]
  refine kAll_p (fun K hK => ?_)
  go_simp
  generalize hZ : (Act.mk _ _) = Z
  refine hK Z ?_
  subst hZ
  clear hK K
  refine kAll_p (fun K hK => ?_)
  go_simp
  generalize hZ : (Act.mk _ _) = Z
  refine hK Z ?_
  subst hZ
  clear hK K
  refine kAll_dn _ (fun W hW hF => kStep_of fun K Q hK => ?_) (fun K hK => ?_)
  · go_simp
    first | exact hK _ _ (Keep.refl _ _) rfl | (rw [bs_extract, hdr]; exact hK _ _ (Keep.refl _ _) rfl)
  go_simp
  generalize hZ : (Act.mk _ _) = Z
  refine hK Z ?_
  subst hZ
  clear hK K
  refine kAll_p (fun K hK => ?_)
  go_simp
  generalize hZ : (Act.mk _ _) = Z
  refine hK Z ?_
  subst hZ
  clear hK K
  refine kAll_p (fun K hK => ?_)
  go_simp
  generalize hZ : (Act.mk _ _) = Z
  refine hK Z ?_
  subst hZ
  clear hK K
  refine kAll_dn _ (fun W hW hF => kStep_of fun K Q hK => ?_) (fun K hK => ?_)
  · go_simp
    first | exact hK _ _ (Keep.refl _ _) rfl | (rw [bs_extract, htk]; exact hK _ _ (Keep.refl _ _) rfl)
  go_simp
  generalize hZ : (Act.mk _ _) = Z
  refine hK Z ?_
  subst hZ
  clear hK K
  refine kAll_dn _ (fun W hW hF => kStep_of fun K Q hK => ?_) (fun K hK => ?_)
  · go_simp
    refine (fsum_any (s.take n) hlt W).mono ?_
    rintro e w' ⟨rfl, hk⟩
    exact hK _ _ hk rfl
  go_simp
  generalize hZ : (Act.mk _ _) = Z
  refine hK Z ?_
  subst hZ
  clear hK K
  refine kAll_dn _ (fun W hW hF => kStep_of fun K Q hK => ?_) (fun K hK => ?_)
  · go_simp
    first | exact hK _ _ (Keep.refl _ _) rfl | (rw [hne]; exact hK _ _ (Keep.refl _ _) rfl)
  go_simp
  generalize hZ : (Act.mk _ _) = Z
  refine hK Z ?_
  subst hZ
  clear hK K
  refine kAll_p (fun K hK => ?_)
  go_simp
  generalize hZ : (Act.mk _ _) = Z
  refine hK Z ?_
  subst hZ
  clear hK K
  refine kAll_nil (fun W hW hF => ?_)
  clear hF
  have HB2 := Lib.hid (HB.out.keep (keepD (Keep.refl _ _) hW) (fun h => h))
  have HK2 := Lib.hid (keep0_trans _ _ _ HK.out (keepD (Keep.refl _ _) hW))
  clear hW
  have hss : (bs s).extract 0 n = bs (s.take n) := by rw [bs_extract, htk]
  go_wp2_with fail
  refine (copen_any (s.take n) _).mono ?_
  rintro e W7 ⟨rfl, hr7, hk7⟩
  obtain ⟨B, hB⟩ : ∃ b, W.heap.size = b := ⟨_, rfl⟩
  rw [hB] at hr7 ⊢
  have hBw : w.heap.size < B := by rw [← hB]; exact HB2.out.lt
  obtain ⟨W8, hW8⟩ : ∃ V, W7.alloc (.cells #[.pointer (some ⟨B, 0, none⟩)] 73) = V := ⟨_, rfl⟩
  have hq8 : Blk W8 W7.heap.size 73 #[.pointer (some ⟨B, 0, none⟩)] := by rw [← hW8]; exact Blk.new _ _ _
  have hk8 : Keep (fun _ => False) W7 W8 := by rw [← hW8]; exact (Keep.refl _ W7).alloc _
  obtain ⟨B5, hB5⟩ : ∃ b, W7.heap.size = b := ⟨_, rfl⟩
  rw [hB5] at hq8
  have hNB : ¬ B = B5 := fun e => by have := Blk.lt hr7; omega
  have HRd : Hid (Rdr W8 B (s.take n, 0)) := Lib.hid (Blk.keep hr7 hk8 (fun h => h))
  have HQ := Lib.hid hq8
  have HB8 := Lib.hid ((HB2.out.keep hk7 (fun h => h)).keep hk8 (fun h => h))
  have HK8 := Lib.hid (keep0_trans _ _ _ HK2.out (keep0_trans _ _ _ hk7 hk8))
  have HNB := Lib.hid hNB
  have HBw := Lib.hid hBw
  have q0 := hq8.cell 0
  simp at q0
  have HL5 := Lib.hid (show w.heap.size < B5 by have := Blk.lt hr7; omega)
  have hh1 := HR.out.1
  obtain ⟨ee1, hn1⟩ := hh1
  have hn2 := HR.out.2.1
  have hn3 := HR.out.2.2.1
  have HN1 := Lib.hid hn1
  have HN2 := Lib.hid hn2
  have HN3 := Lib.hid hn3
  clear hr7 hk7 hq8 hk8 hNB hBw hn1 hn2 hn3
  go_upto_region 9 with (fail)
  refine wp_region_kch (Keep (fun y => B = y)) (Keep (fun _ => False)) [1, 3, 5] (fun r W => Rdr W B ([(s.take n, 0), m1, m2, m3].getD r (([], 0) : WS))) (Keep.refl _) (keepT_trans _) (Keep.refl _) keep0_trans (fun _ _ h => h.mono fun _ _ e => e.elim) 8 (by kernel_rfl) (by kernel_rfl) (by kernel_rfl) (by decide) (fun r W W2 hk hj => Blk.keep hj hk (fun h => h)) (HRd.out) (Ts := [some (.inl (rdV B)), some (.inl (.int .u8 (f.kind : Int))), some (.inl (rdV B)), some (.inl (idV f.frm)), some (.inl (rdV B)), some (.inl (idV f.to)), none, some (.inr (fun v W => ∃ g, v = .pointer (some ⟨g, 0, none⟩) ∧ Blk W g 39 #[.int .u8 0, .int .i64 0, .int .i64 0, .int .i64 0, .int .i64 0, .int .i64 0, .int .i64 0, .int .i64 0, .int .i64 0, .slice none 0 0, .slice none 0 0, .slice none 0 0, .slice none 0 0, .slice none 0 0] ∧ W8.heap.size ≤ g))]) ?_
  simp only [List.take, List.drop]
  refine kAllJ_d _ (by decide) (fun W hW hF => kStep_of fun K Q hK => ?_) ?_
  · have hqq := HQ.out.keep (keepDT hW) HNB.out
    have e0 := hqq.cell 0
    simp at e0
    go_simp
    exact hK _ _ (Keep.refl _ _) rfl
  refine kAllJ_dp _ 0 rfl (fun r2 h2 => by match r2, h2 with | 0, h2 => rfl | 1, h2 => exact absurd h2 (by decide) | 2, h2 => exact absurd h2 (by decide) | q + 3, h2 => simp at h2) (fun W hW hJ hF => kStep_of fun K Q hK => ?_) ?_
  · have hj : Rdr W B (s.take n, 0) := hJ
    go_simp
    refine (fsmall_any B (s.take n, 0) m1 (f.kind : Int) ee1 W hj HN1.out (by omega) (by omega)).mono ?_
    rintro e w2 ⟨u, rfl, rfl, h1, h2⟩
    exact hK _ _ h2 ⟨rfl, h1⟩
  refine kAllJ_d _ (by decide) (fun W hW hF => kStep_of fun K Q hK => ?_) ?_
  · have hqq := HQ.out.keep (keepDT hW) HNB.out
    have e0 := hqq.cell 0
    simp at e0
    go_simp
    exact hK _ _ (Keep.refl _ _) rfl
  refine kAllJ_dp _ 1 rfl (fun r2 h2 => by match r2, h2 with | 0, h2 => exact absurd h2 (by decide) | 1, h2 => rfl | 2, h2 => exact absurd h2 (by decide) | q + 3, h2 => simp at h2) (fun W hW hJ hF => kStep_of fun K Q hK => ?_) ?_
  · have hj : Rdr W B m1 := hJ
    go_simp
    refine (fid_any B m1 m2 f.frm W hj HN2.out).mono ?_
    rintro e w2 ⟨u, rfl, rfl, h1, h2⟩
    exact hK _ _ h2 ⟨rfl, h1⟩
  refine kAllJ_d _ (by decide) (fun W hW hF => kStep_of fun K Q hK => ?_) ?_
  · have hqq := HQ.out.keep (keepDT hW) HNB.out
    have e0 := hqq.cell 0
    simp at e0
    go_simp
    exact hK _ _ (Keep.refl _ _) rfl
  refine kAllJ_dp _ 2 rfl (fun r2 h2 => by match r2, h2 with | 0, h2 => exact absurd h2 (by decide) | 1, h2 => exact absurd h2 (by decide) | 2, h2 => rfl | q + 3, h2 => simp at h2) (fun W hW hJ hF => kStep_of fun K Q hK => ?_) ?_
  · have hj : Rdr W B m2 := hJ
    go_simp
    refine (fid_any B m2 m3 f.to W hj HN3.out).mono ?_
    rintro e w2 ⟨u, rfl, rfl, h1, h2⟩
    exact hK _ _ h2 ⟨rfl, h1⟩
  refine kAllJ_p (by decide) (fun K hK => ?_)
  go_simp
  generalize hZ : (Act.mk _ _) = Z
  refine hK Z ?_
  subst hZ
  clear hK K
  refine kAllJ_u _ (by decide) (fun _ _ _ hk h => by obtain ⟨g, e, hb, hl⟩ := h; exact ⟨g, e, hb.keep hk (fun e => by have := Blk.lt HRd.out; omega), hl⟩) (fun W hW hF => kStep_of fun K Q hK => ?_) (fun u0 => ?_)
  · go_simp
    have hs := hW.size
    exact hK _ _ ((Keep.refl _ _).alloc _) ⟨_, rfl, Blk.new _ _ _, hs⟩
  refine kAllJ_nil (fun V9 hW hF hJ => ?_)
  obtain ⟨g, rfl, hg, hgl⟩ : ∃ g, u0 = .pointer (some ⟨g, 0, none⟩) ∧ Blk V9 g 39 #[.int .u8 0, .int .i64 0, .int .i64 0, .int .i64 0, .int .i64 0, .int .i64 0, .int .i64 0, .int .i64 0, .int .i64 0, .slice none 0 0, .slice none 0 0, .slice none 0 0, .slice none 0 0, .slice none 0 0] ∧ W8.heap.size ≤ g := kAllHas_at hF 0 rfl
  have hR9 : Rdr V9 B m3 := hJ
  have hk9 := keepDT hW
  have HR9 := Lib.hid hR9
  have hQ9 := HQ.out.keep hk9 HNB.out
  have HQ := Lib.hid hQ9
  have HZ := Lib.hid (HB8.out.keep hk9 (fun e => by have := HBw.out; omega))
  have HK := Lib.hid (HK8.out.trans (hk9.mono fun q _ e => .inr (by have := HBw.out; omega)))
  have HBl9 := Lib.hid (show B < W8.heap.size from Blk.lt HRd.out)
  have HQl := Lib.hid (show B5 < W8.heap.size by rw [← hW8, ← hB5]; simp)
  have HGl := Lib.hid hgl
  have HNg := Lib.hid (show ¬ B = g by have := HBl9.out; omega)
  have HNq := Lib.hid (show ¬ g = B5 by have := HQl.out; omega)
  have HNz := Lib.hid (show ¬ g = w.heap.size by have := HQl.out; have := HL5.out; omega)
  have HNw := Lib.hid (show w.heap.size ≤ g by have := HQl.out; have := HL5.out; omega)
  have HG0 := Lib.hid hg
  have hgz := hg
  have HRD0 := HR9
  have z0 := hgz.cell 0
  have f0 := hgz.frozen 0
  have z1 := hgz.cell 1
  have f1 := hgz.frozen 1
  have z2 := hgz.cell 2
  have f2 := hgz.frozen 2
  have z3 := hgz.cell 3
  have f3 := hgz.frozen 3
  have z4 := hgz.cell 4
  have f4 := hgz.frozen 4
  have z5 := hgz.cell 5
  have f5 := hgz.frozen 5
  have z6 := hgz.cell 6
  have f6 := hgz.frozen 6
  have z7 := hgz.cell 7
  have f7 := hgz.frozen 7
  have z8 := hgz.cell 8
  have f8 := hgz.frozen 8
  have z9 := hgz.cell 9
  have f9 := hgz.frozen 9
  have z10 := hgz.cell 10
  have f10 := hgz.frozen 10
  have z11 := hgz.cell 11
  have f11 := hgz.frozen 11
  have z12 := hgz.cell 12
  have f12 := hgz.frozen 12
  have z13 := hgz.cell 13
  have f13 := hgz.frozen 13
  simp at z0 z1 z2 z3 z4 z5 z6 z7 z8 z9 z10 z11 z12 z13
  obtain ⟨V10, hSV10⟩ : ∃ V, ((((((((((((((V9.setCell ⟨g, 0, none⟩ (.int .u8 (f.kind : Int))).setCell ⟨g, 1, none⟩ (.int .i64 f.frm.1)).setCell ⟨g, 2, none⟩ (.int .i64 f.frm.2)).setCell ⟨g, 3, none⟩ (.int .i64 f.to.1)).setCell ⟨g, 4, none⟩ (.int .i64 f.to.2)).setCell ⟨g, 5, none⟩ (.int .i64 0)).setCell ⟨g, 6, none⟩ (.int .i64 0)).setCell ⟨g, 7, none⟩ (.int .i64 0)).setCell ⟨g, 8, none⟩ (.int .i64 0)).setCell ⟨g, 9, none⟩ (.slice none 0 0)).setCell ⟨g, 10, none⟩ (.slice none 0 0)).setCell ⟨g, 11, none⟩ (.slice none 0 0)).setCell ⟨g, 12, none⟩ (.slice none 0 0)).setCell ⟨g, 13, none⟩ (.slice none 0 0)) = V := ⟨_, rfl⟩
  have hgn : Blk V10 g 39 #[.int .u8 (f.kind : Int), .int .i64 f.frm.1, .int .i64 f.frm.2, .int .i64 f.to.1, .int .i64 f.to.2, .int .i64 0, .int .i64 0, .int .i64 0, .int .i64 0, .slice none 0 0, .slice none 0 0, .slice none 0 0, .slice none 0 0, .slice none 0 0] := by
    rw [← hSV10]
    have h := ((((((((((((((hgz.set_ 0 (.int .u8 (f.kind : Int))).set_ 1 (.int .i64 f.frm.1)).set_ 2 (.int .i64 f.frm.2)).set_ 3 (.int .i64 f.to.1)).set_ 4 (.int .i64 f.to.2)).set_ 5 (.int .i64 0)).set_ 6 (.int .i64 0)).set_ 7 (.int .i64 0)).set_ 8 (.int .i64 0)).set_ 9 (.slice none 0 0)).set_ 10 (.slice none 0 0)).set_ 11 (.slice none 0 0)).set_ 12 (.slice none 0 0)).set_ 13 (.slice none 0 0))
    simpa using h
  have hkn : Keep (fun q => g = q) V9 V10 := by rw [← hSV10]; exact (((((((((((((((Keep.refl (fun q => g = q) V9).setCell (p := ⟨g, 0, none⟩) (fun _ => rfl) _).setCell (p := ⟨g, 1, none⟩) (fun _ => rfl) _).setCell (p := ⟨g, 2, none⟩) (fun _ => rfl) _).setCell (p := ⟨g, 3, none⟩) (fun _ => rfl) _).setCell (p := ⟨g, 4, none⟩) (fun _ => rfl) _).setCell (p := ⟨g, 5, none⟩) (fun _ => rfl) _).setCell (p := ⟨g, 6, none⟩) (fun _ => rfl) _).setCell (p := ⟨g, 7, none⟩) (fun _ => rfl) _).setCell (p := ⟨g, 8, none⟩) (fun _ => rfl) _).setCell (p := ⟨g, 9, none⟩) (fun _ => rfl) _).setCell (p := ⟨g, 10, none⟩) (fun _ => rfl) _).setCell (p := ⟨g, 11, none⟩) (fun _ => rfl) _).setCell (p := ⟨g, 12, none⟩) (fun _ => rfl) _).setCell (p := ⟨g, 13, none⟩) (fun _ => rfl) _)
  have HG := Lib.hid hgn
  have hQn := HQ.out.keep hkn HNq.out
  have HQ := Lib.hid hQn
  have HZ := Lib.hid (HZ.out.keep hkn HNz.out)
  have HRD : Hid (Rdr V10 B m3) := Lib.hid (Blk.keep HRD0.out hkn (fun e => HNg.out e.symm))
  have HK := Lib.hid (HK.out.trans (hkn.mono fun q _ e => .inr (by have := HNw.out; omega)))
  have q0 := hQn.cell 0
  simp at q0
  clear hgn hkn hQn
  clear hW hF hJ hR9 hk9 hg hgl hgz
  have hr4 := HR.out.2.2.2.1
  obtain ⟨ee4, hn4⟩ := hr4
  have hr5 := HR.out.2.2.2.2.1
  obtain ⟨ee5, hn5⟩ := hr5
  have HN4 := Lib.hid hn4
  have HN5 := Lib.hid hn5
  have HN6 := Lib.hid HR.out.2.2.2.2.2.1
  have HN7 := Lib.hid HR.out.2.2.2.2.2.2
  clear hn4 hn5
  go_upto_region 10 with (fail)
  refine wp_region_kch (Keep (fun y => B = y)) (Keep (fun _ => False)) [1, 3] (fun r W => Rdr W B ([m3, m4, m5].getD r (([], 0) : WS))) (Keep.refl _) (keepT_trans _) (Keep.refl _) keep0_trans (fun _ _ h => h.mono fun _ _ e => e.elim) 5 (by kernel_rfl) (by kernel_rfl) (by kernel_rfl) (by decide) (fun r W W2 hk hj => Blk.keep hj hk (fun h => h)) (HRD.out) (Ts := [some (.inl (rdV B)), some (.inl (.int .i64 f.n)), some (.inl (rdV B)), some (.inl (.int .i64 f.tok)), none]) ?_
  simp only [List.take, List.drop]
  refine kAllJ_d _ (by decide) (fun W hW hF => kStep_of fun K Q hK => ?_) ?_
  · have hqq := HQ.out.keep (keepDT hW) HNB.out
    have e0 := hqq.cell 0
    simp at e0
    go_simp
    exact hK _ _ (Keep.refl _ _) rfl
  refine kAllJ_dp _ 0 rfl (fun r2 h2 => by match r2, h2 with | 0, h2 => rfl | 1, h2 => exact absurd h2 (by decide) | q + 2, h2 => simp at h2) (fun W hW hJ hF => kStep_of fun K Q hK => ?_) ?_
  · have hj : Rdr W B m3 := hJ
    go_simp
    refine (fnum_any B m3 m4 f.n ee4 W hj HN4.out).mono ?_
    rintro e w2 ⟨u, rfl, rfl, h1, h2⟩
    exact hK _ _ h2 ⟨rfl, h1⟩
  refine kAllJ_d _ (by decide) (fun W hW hF => kStep_of fun K Q hK => ?_) ?_
  · have hqq := HQ.out.keep (keepDT hW) HNB.out
    have e0 := hqq.cell 0
    simp at e0
    go_simp
    exact hK _ _ (Keep.refl _ _) rfl
  refine kAllJ_dp _ 1 rfl (fun r2 h2 => by match r2, h2 with | 0, h2 => exact absurd h2 (by decide) | 1, h2 => rfl | q + 2, h2 => simp at h2) (fun W hW hJ hF => kStep_of fun K Q hK => ?_) ?_
  · have hj : Rdr W B m4 := hJ
    go_simp
    refine (fnum_any B m4 m5 f.tok ee5 W hj HN5.out).mono ?_
    rintro e w2 ⟨u, rfl, rfl, h1, h2⟩
    exact hK _ _ h2 ⟨rfl, h1⟩
  refine kAllJ_p (by decide) (fun K hK => ?_)
  go_simp
  generalize hZ : (Act.mk _ _) = Z
  refine hK Z ?_
  subst hZ
  clear hK K
  refine kAllJ_nil (fun V11 hW hF hJ => ?_)
  have hR11 : Rdr V11 B m5 := hJ
  have hk11 := keepDT hW
  have HRD0 := Lib.hid hR11
  have hgm := HG.out.keep hk11 HNg.out
  have HG := Lib.hid hgm
  have HQ := Lib.hid (HQ.out.keep hk11 HNB.out)
  have HZ := Lib.hid (HZ.out.keep hk11 (fun e => by have := HBw.out; omega))
  have HK := Lib.hid (HK.out.trans (hk11.mono fun q _ e => .inr (by have := HBw.out; omega)))
  clear hW hF hJ hR11 hk11 q0
  have z5 := hgm.cell 5
  have f5 := hgm.frozen 5
  have z6 := hgm.cell 6
  have f6 := hgm.frozen 6
  simp at z5 z6
  obtain ⟨V12, hSV12⟩ : ∃ V, ((V11.setCell ⟨g, 5, none⟩ (.int .i64 f.n)).setCell ⟨g, 6, none⟩ (.int .i64 f.tok)) = V := ⟨_, rfl⟩
  have hgn : Blk V12 g 39 #[.int .u8 (f.kind : Int), .int .i64 f.frm.1, .int .i64 f.frm.2, .int .i64 f.to.1, .int .i64 f.to.2, .int .i64 f.n, .int .i64 f.tok, .int .i64 0, .int .i64 0, .slice none 0 0, .slice none 0 0, .slice none 0 0, .slice none 0 0, .slice none 0 0] := by
    rw [← hSV12]
    have h := ((hgm.set_ 5 (.int .i64 f.n)).set_ 6 (.int .i64 f.tok))
    simpa using h
  have hkn : Keep (fun q => g = q) V11 V12 := by rw [← hSV12]; exact (((Keep.refl (fun q => g = q) V11).setCell (p := ⟨g, 5, none⟩) (fun _ => rfl) _).setCell (p := ⟨g, 6, none⟩) (fun _ => rfl) _)
  have HG := Lib.hid hgn
  have hQn := HQ.out.keep hkn HNq.out
  have HQ := Lib.hid hQn
  have HZ := Lib.hid (HZ.out.keep hkn HNz.out)
  have HRD : Hid (Rdr V12 B m5) := Lib.hid (Blk.keep HRD0.out hkn (fun e => HNg.out e.symm))
  have HK := Lib.hid (HK.out.trans (hkn.mono fun q _ e => .inr (by have := HNw.out; omega)))
  have q0 := hQn.cell 0
  simp at q0
  clear hgn hkn hQn
  go_wp2_with fail
  refine (fid_any B m5 m6 f.abt _ HRD.out HN6.out).mono ?_
  rintro e V13 ⟨u, rfl, rfl, hR13, hk13⟩
  have HRD0 := Lib.hid hR13
  have hgm := HG.out.keep hk13 HNg.out
  have HG := Lib.hid hgm
  have HQ := Lib.hid (HQ.out.keep hk13 HNB.out)
  have HZ := Lib.hid (HZ.out.keep hk13 (fun e => by have := HBw.out; omega))
  have HK := Lib.hid (HK.out.trans (hk13.mono fun q _ e => .inr (by have := HBw.out; omega)))
  clear hR13 hk13 q0
  have z7 := hgm.cell 7
  have f7 := hgm.frozen 7
  have z8 := hgm.cell 8
  have f8 := hgm.frozen 8
  simp at z7 z8
  obtain ⟨V14, hSV14⟩ : ∃ V, ((V13.setCell ⟨g, 7, none⟩ (.int .i64 f.abt.1)).setCell ⟨g, 8, none⟩ (.int .i64 f.abt.2)) = V := ⟨_, rfl⟩
  have hgn : Blk V14 g 39 #[.int .u8 (f.kind : Int), .int .i64 f.frm.1, .int .i64 f.frm.2, .int .i64 f.to.1, .int .i64 f.to.2, .int .i64 f.n, .int .i64 f.tok, .int .i64 f.abt.1, .int .i64 f.abt.2, .slice none 0 0, .slice none 0 0, .slice none 0 0, .slice none 0 0, .slice none 0 0] := by
    rw [← hSV14]
    have h := ((hgm.set_ 7 (.int .i64 f.abt.1)).set_ 8 (.int .i64 f.abt.2))
    simpa using h
  have hkn : Keep (fun q => g = q) V13 V14 := by rw [← hSV14]; exact (((Keep.refl (fun q => g = q) V13).setCell (p := ⟨g, 7, none⟩) (fun _ => rfl) _).setCell (p := ⟨g, 8, none⟩) (fun _ => rfl) _)
  have HG := Lib.hid hgn
  have hQn := HQ.out.keep hkn HNq.out
  have HQ := Lib.hid hQn
  have HZ := Lib.hid (HZ.out.keep hkn HNz.out)
  have HRD : Hid (Rdr V14 B m6) := Lib.hid (Blk.keep HRD0.out hkn (fun e => HNg.out e.symm))
  have HK := Lib.hid (HK.out.trans (hkn.mono fun q _ e => .inr (by have := HNw.out; omega)))
  have q0 := hQn.cell 0
  simp at q0
  clear hgn hkn hQn
  go_wp2_with fail
  refine (fview_any B m6 st' f.view _ HRD.out HN7.out).mono ?_
  rintro e V15 ⟨u, rfl, ⟨m, l, r, c, ss, rfl, hv⟩, hR15, hk15⟩
  obtain ⟨A1, k1, e1, rfl⟩ := hv.mem.sl
  obtain ⟨A2, k2, e2, rfl⟩ := hv.fl.sl
  obtain ⟨A3, k3, e3, rfl⟩ := hv.rows.sl
  obtain ⟨A4, k4, e4, rfl⟩ := hv.clk.sl
  obtain ⟨A5, k5, e5, rfl⟩ := hv.seen.sl
  have HGlt := Lib.hid HG.out.lt
  have HBlt := Lib.hid (show w.heap.size ≤ g from HNw.out)
  have HBlx := Lib.hid (show B < V14.heap.size from Blk.lt HRD.out)
  have hwl := HK.out.size
  have HRD0 := Lib.hid hR15
  have hgm := HG.out.keep hk15 HNg.out
  have HG := Lib.hid hgm
  have HQ := Lib.hid (HQ.out.keep hk15 HNB.out)
  have HZ := Lib.hid (HZ.out.keep hk15 (fun e => by have := HBw.out; omega))
  have HK := Lib.hid (HK.out.trans (hk15.mono fun q _ e => .inr (by have := HBw.out; omega)))
  have HV15 := Lib.hid hv
  clear hR15 hk15 q0 hv
  have z9 := hgm.cell 9
  have f9 := hgm.frozen 9
  have z10 := hgm.cell 10
  have f10 := hgm.frozen 10
  have z11 := hgm.cell 11
  have f11 := hgm.frozen 11
  have z12 := hgm.cell 12
  have f12 := hgm.frozen 12
  have z13 := hgm.cell 13
  have f13 := hgm.frozen 13
  simp at z9 z10 z11 z12 z13
  obtain ⟨V16, hSV16⟩ : ∃ V, (((((V15.setCell ⟨g, 9, none⟩ (.slice A1 k1 e1)).setCell ⟨g, 10, none⟩ (.slice A2 k2 e2)).setCell ⟨g, 11, none⟩ (.slice A3 k3 e3)).setCell ⟨g, 12, none⟩ (.slice A4 k4 e4)).setCell ⟨g, 13, none⟩ (.slice A5 k5 e5)) = V := ⟨_, rfl⟩
  have hgn : Blk V16 g 39 #[.int .u8 (f.kind : Int), .int .i64 f.frm.1, .int .i64 f.frm.2, .int .i64 f.to.1, .int .i64 f.to.2, .int .i64 f.n, .int .i64 f.tok, .int .i64 f.abt.1, .int .i64 f.abt.2, .slice A1 k1 e1, .slice A2 k2 e2, .slice A3 k3 e3, .slice A4 k4 e4, .slice A5 k5 e5] := by
    rw [← hSV16]
    have h := (((((hgm.set_ 9 (.slice A1 k1 e1)).set_ 10 (.slice A2 k2 e2)).set_ 11 (.slice A3 k3 e3)).set_ 12 (.slice A4 k4 e4)).set_ 13 (.slice A5 k5 e5))
    simpa using h
  have hkn : Keep (fun q => g = q) V15 V16 := by rw [← hSV16]; exact ((((((Keep.refl (fun q => g = q) V15).setCell (p := ⟨g, 9, none⟩) (fun _ => rfl) _).setCell (p := ⟨g, 10, none⟩) (fun _ => rfl) _).setCell (p := ⟨g, 11, none⟩) (fun _ => rfl) _).setCell (p := ⟨g, 12, none⟩) (fun _ => rfl) _).setCell (p := ⟨g, 13, none⟩) (fun _ => rfl) _)
  have HG := Lib.hid hgn
  have hQn := HQ.out.keep hkn HNq.out
  have HQ := Lib.hid hQn
  have HZ := Lib.hid (HZ.out.keep hkn HNz.out)
  have HRD : Hid (Rdr V16 B st') := Lib.hid (Blk.keep HRD0.out hkn (fun e => HNg.out e.symm))
  have HK := Lib.hid (HK.out.trans (hkn.mono fun q _ e => .inr (by have := HNw.out; omega)))
  have q0 := hQn.cell 0
  simp at q0
  clear hgn hkn hQn
  have HV := Lib.hid (NewV.keep HV15.out (show Keep (fun q => g = q) V15 V16 by rw [← hSV16]; exact ((((((Keep.refl (fun q => g = q) V15).setCell (p := ⟨g, 9, none⟩) (fun _ => rfl) _).setCell (p := ⟨g, 10, none⟩) (fun _ => rfl) _).setCell (p := ⟨g, 11, none⟩) (fun _ => rfl) _).setCell (p := ⟨g, 12, none⟩) (fun _ => rfl) _).setCell (p := ⟨g, 13, none⟩) (fun _ => rfl) _)) (fun q hq e => by have := HGlt.out; omega))
  have hBL := Blk.lt HRD.out
  have HBx := Lib.hid (show B < V14.heap.size from HBlx.out)
  clear hBL
  go_wp2_with fail
  refine (rEnd_any B st' er _ HRD.out HE.out).mono ?_
  rintro e V17 ⟨rfl, hk17⟩
  have HV17 := Lib.hid (NewV.keep HV.out hk17 (fun q hq e => by have := HBx.out; omega))
  have hg17 := HG.out.keep hk17 HNg.out
  have HG17 := Lib.hid hg17
  have hz17 := HZ.out.keep hk17 (fun e => by have := HBw.out; omega)
  have HZ17 := Lib.hid hz17
  have HK17 := Lib.hid (HK.out.trans (hk17.mono fun q _ e => .inr (by have := HBw.out; omega)))
  have HW14 := Lib.hid (show w.heap.size ≤ V14.heap.size from hwl)
  clear hk17 q0 hwl
  by_cases he0 : er = 0
  · subst he0
    have y0 := hg17.cell 0
    have y1 := hg17.cell 1
    have y2 := hg17.cell 2
    have y3 := hg17.cell 3
    have y4 := hg17.cell 4
    have y5 := hg17.cell 5
    have y6 := hg17.cell 6
    have y7 := hg17.cell 7
    have y8 := hg17.cell 8
    have y9 := hg17.cell 9
    have y10 := hg17.cell 10
    have y11 := hg17.cell 11
    have y12 := hg17.cell 12
    have y13 := hg17.cell 13
    simp at y0 y1 y2 y3 y4 y5 y6 y7 y8 y9 y10 y11 y12 y13
    clear hg17
    clear hz17
    go_wp2_with fail
    refine (frameMay_any f _ _ _ _ _ _ hk (HV17.out.isV HST.out) HF.out).mono ?_
    rintro e V18 ⟨rfl, hk18⟩
    have HV18 := Lib.hid (NewV.keep HV17.out hk18 (fun q hq e => e))
    have hg18 := HG17.out.keep hk18 (fun e => e)
    have hz18 := HZ17.out.keep hk18 (fun e => e)
    have HZ18 := Lib.hid hz18
    have HK18 := Lib.hid (keep0_trans _ _ _ HK17.out hk18)
    have y0 := hg18.cell 0
    have y1 := hg18.cell 1
    have y2 := hg18.cell 2
    have y3 := hg18.cell 3
    have y4 := hg18.cell 4
    have y5 := hg18.cell 5
    have y6 := hg18.cell 6
    have y7 := hg18.cell 7
    have y8 := hg18.cell 8
    have y9 := hg18.cell 9
    have y10 := hg18.cell 10
    have y11 := hg18.cell 11
    have y12 := hg18.cell 12
    have y13 := hg18.cell 13
    simp at y0 y1 y2 y3 y4 y5 y6 y7 y8 y9 y10 y11 y12 y13
    clear hk18
    rcases Bool.eq_false_or_eq_true (mayF f) with hM | hM
    · rw [hM]
      have HM := Lib.hid hM
      clear hM
      have z0 := hz18.cell 0
      have z1 := hz18.cell 1
      have z2 := hz18.cell 2
      have z3 := hz18.cell 3
      have z4 := hz18.cell 4
      have z5 := hz18.cell 5
      have z6 := hz18.cell 6
      have z7 := hz18.cell 7
      have z8 := hz18.cell 8
      have z9 := hz18.cell 9
      have z10 := hz18.cell 10
      have z11 := hz18.cell 11
      have z12 := hz18.cell 12
      have z13 := hz18.cell 13
      have fz0 := hz18.frozen 0
      have fz1 := hz18.frozen 1
      have fz2 := hz18.frozen 2
      have fz3 := hz18.frozen 3
      have fz4 := hz18.frozen 4
      have fz5 := hz18.frozen 5
      have fz6 := hz18.frozen 6
      have fz7 := hz18.frozen 7
      have fz8 := hz18.frozen 8
      have fz9 := hz18.frozen 9
      have fz10 := hz18.frozen 10
      have fz11 := hz18.frozen 11
      have fz12 := hz18.frozen 12
      have fz13 := hz18.frozen 13
      simp at z0 z1 z2 z3 z4 z5 z6 z7 z8 z9 z10 z11 z12 z13
      go_wp2
      have hbf : Blk ((((((((((((((V18.setCell ⟨w.heap.size, 0, none⟩ (.int .u8 (f.kind : Int))).setCell ⟨w.heap.size, 1, none⟩ (.int .i64 f.frm.1)).setCell ⟨w.heap.size, 2, none⟩ (.int .i64 f.frm.2)).setCell ⟨w.heap.size, 3, none⟩ (.int .i64 f.to.1)).setCell ⟨w.heap.size, 4, none⟩ (.int .i64 f.to.2)).setCell ⟨w.heap.size, 5, none⟩ (.int .i64 f.n)).setCell ⟨w.heap.size, 6, none⟩ (.int .i64 f.tok)).setCell ⟨w.heap.size, 7, none⟩ (.int .i64 f.abt.1)).setCell ⟨w.heap.size, 8, none⟩ (.int .i64 f.abt.2)).setCell ⟨w.heap.size, 9, none⟩ (.slice A1 k1 e1)).setCell ⟨w.heap.size, 10, none⟩ (.slice A2 k2 e2)).setCell ⟨w.heap.size, 11, none⟩ (.slice A3 k3 e3)).setCell ⟨w.heap.size, 12, none⟩ (.slice A4 k4 e4)).setCell ⟨w.heap.size, 13, none⟩ (.slice A5 k5 e5)) w.heap.size 39 #[.int .u8 (f.kind : Int), .int .i64 f.frm.1, .int .i64 f.frm.2, .int .i64 f.to.1, .int .i64 f.to.2, .int .i64 f.n, .int .i64 f.tok, .int .i64 f.abt.1, .int .i64 f.abt.2, .slice A1 k1 e1, .slice A2 k2 e2, .slice A3 k3 e3, .slice A4 k4 e4, .slice A5 k5 e5] := by
        have h := ((((((((((((((HZ18.out.set_ 0 (.int .u8 (f.kind : Int))).set_ 1 (.int .i64 f.frm.1)).set_ 2 (.int .i64 f.frm.2)).set_ 3 (.int .i64 f.to.1)).set_ 4 (.int .i64 f.to.2)).set_ 5 (.int .i64 f.n)).set_ 6 (.int .i64 f.tok)).set_ 7 (.int .i64 f.abt.1)).set_ 8 (.int .i64 f.abt.2)).set_ 9 (.slice A1 k1 e1)).set_ 10 (.slice A2 k2 e2)).set_ 11 (.slice A3 k3 e3)).set_ 12 (.slice A4 k4 e4)).set_ 13 (.slice A5 k5 e5))
        simpa using h
      have hkf : Keep (fun q => w.heap.size = q) V18 ((((((((((((((V18.setCell ⟨w.heap.size, 0, none⟩ (.int .u8 (f.kind : Int))).setCell ⟨w.heap.size, 1, none⟩ (.int .i64 f.frm.1)).setCell ⟨w.heap.size, 2, none⟩ (.int .i64 f.frm.2)).setCell ⟨w.heap.size, 3, none⟩ (.int .i64 f.to.1)).setCell ⟨w.heap.size, 4, none⟩ (.int .i64 f.to.2)).setCell ⟨w.heap.size, 5, none⟩ (.int .i64 f.n)).setCell ⟨w.heap.size, 6, none⟩ (.int .i64 f.tok)).setCell ⟨w.heap.size, 7, none⟩ (.int .i64 f.abt.1)).setCell ⟨w.heap.size, 8, none⟩ (.int .i64 f.abt.2)).setCell ⟨w.heap.size, 9, none⟩ (.slice A1 k1 e1)).setCell ⟨w.heap.size, 10, none⟩ (.slice A2 k2 e2)).setCell ⟨w.heap.size, 11, none⟩ (.slice A3 k3 e3)).setCell ⟨w.heap.size, 12, none⟩ (.slice A4 k4 e4)).setCell ⟨w.heap.size, 13, none⟩ (.slice A5 k5 e5)) := (((((((((((((((Keep.refl (fun q => w.heap.size = q) V18).setCell (p := ⟨w.heap.size, 0, none⟩) (fun _ => rfl) _).setCell (p := ⟨w.heap.size, 1, none⟩) (fun _ => rfl) _).setCell (p := ⟨w.heap.size, 2, none⟩) (fun _ => rfl) _).setCell (p := ⟨w.heap.size, 3, none⟩) (fun _ => rfl) _).setCell (p := ⟨w.heap.size, 4, none⟩) (fun _ => rfl) _).setCell (p := ⟨w.heap.size, 5, none⟩) (fun _ => rfl) _).setCell (p := ⟨w.heap.size, 6, none⟩) (fun _ => rfl) _).setCell (p := ⟨w.heap.size, 7, none⟩) (fun _ => rfl) _).setCell (p := ⟨w.heap.size, 8, none⟩) (fun _ => rfl) _).setCell (p := ⟨w.heap.size, 9, none⟩) (fun _ => rfl) _).setCell (p := ⟨w.heap.size, 10, none⟩) (fun _ => rfl) _).setCell (p := ⟨w.heap.size, 11, none⟩) (fun _ => rfl) _).setCell (p := ⟨w.heap.size, 12, none⟩) (fun _ => rfl) _).setCell (p := ⟨w.heap.size, 13, none⟩) (fun _ => rfl) _)
      generalize ((((((((((((((V18.setCell ⟨w.heap.size, 0, none⟩ (.int .u8 (f.kind : Int))).setCell ⟨w.heap.size, 1, none⟩ (.int .i64 f.frm.1)).setCell ⟨w.heap.size, 2, none⟩ (.int .i64 f.frm.2)).setCell ⟨w.heap.size, 3, none⟩ (.int .i64 f.to.1)).setCell ⟨w.heap.size, 4, none⟩ (.int .i64 f.to.2)).setCell ⟨w.heap.size, 5, none⟩ (.int .i64 f.n)).setCell ⟨w.heap.size, 6, none⟩ (.int .i64 f.tok)).setCell ⟨w.heap.size, 7, none⟩ (.int .i64 f.abt.1)).setCell ⟨w.heap.size, 8, none⟩ (.int .i64 f.abt.2)).setCell ⟨w.heap.size, 9, none⟩ (.slice A1 k1 e1)).setCell ⟨w.heap.size, 10, none⟩ (.slice A2 k2 e2)).setCell ⟨w.heap.size, 11, none⟩ (.slice A3 k3 e3)).setCell ⟨w.heap.size, 12, none⟩ (.slice A4 k4 e4)).setCell ⟨w.heap.size, 13, none⟩ (.slice A5 k5 e5)) = WF at *
      have x0 := hbf.cell 0
      have x1 := hbf.cell 1
      have x2 := hbf.cell 2
      have x3 := hbf.cell 3
      have x4 := hbf.cell 4
      have x5 := hbf.cell 5
      have x6 := hbf.cell 6
      have x7 := hbf.cell 7
      have x8 := hbf.cell 8
      have x9 := hbf.cell 9
      have x10 := hbf.cell 10
      have x11 := hbf.cell 11
      have x12 := hbf.cell 12
      have x13 := hbf.cell 13
      simp at x0 x1 x2 x3 x4 x5 x6 x7 x8 x9 x10 x11 x12 x13
      refine ⟨rfl, .tuple #[frV f (.slice A1 k1 e1) (.slice A2 k2 e2) (.slice A3 k3 e3) (.slice A4 k4 e4) (.slice A5 k5 e5), .int .i64 0], ?_, by unfold DecPost; exact ⟨by rw [if_pos ⟨rfl, HM.out⟩]; exact ⟨_, _, _, _, _, rfl, (NewV.keep HV18.out hkf (fun q hq e => by have := HBlt.out; have := HGlt.out; omega)).base HW14.out⟩, HK18.out.trans (hkf.mono fun q _ e => .inr (by omega))⟩⟩
      unfold results
      go_simp
    · rw [hM]
      have HM := Lib.hid hM
      clear hM
      have z0 := hz18.cell 0
      have z1 := hz18.cell 1
      have z2 := hz18.cell 2
      have z3 := hz18.cell 3
      have z4 := hz18.cell 4
      have z5 := hz18.cell 5
      have z6 := hz18.cell 6
      have z7 := hz18.cell 7
      have z8 := hz18.cell 8
      have z9 := hz18.cell 9
      have z10 := hz18.cell 10
      have z11 := hz18.cell 11
      have z12 := hz18.cell 12
      have z13 := hz18.cell 13
      have fz0 := hz18.frozen 0
      have fz1 := hz18.frozen 1
      have fz2 := hz18.frozen 2
      have fz3 := hz18.frozen 3
      have fz4 := hz18.frozen 4
      have fz5 := hz18.frozen 5
      have fz6 := hz18.frozen 6
      have fz7 := hz18.frozen 7
      have fz8 := hz18.frozen 8
      have fz9 := hz18.frozen 9
      have fz10 := hz18.frozen 10
      have fz11 := hz18.frozen 11
      have fz12 := hz18.frozen 12
      have fz13 := hz18.frozen 13
      simp at z0 z1 z2 z3 z4 z5 z6 z7 z8 z9 z10 z11 z12 z13
      go_wp2
      have hbf : Blk ((((((((((((((V18.setCell ⟨w.heap.size, 0, none⟩ (.int .u8 0)).setCell ⟨w.heap.size, 1, none⟩ (.int .i64 0)).setCell ⟨w.heap.size, 2, none⟩ (.int .i64 0)).setCell ⟨w.heap.size, 3, none⟩ (.int .i64 0)).setCell ⟨w.heap.size, 4, none⟩ (.int .i64 0)).setCell ⟨w.heap.size, 5, none⟩ (.int .i64 0)).setCell ⟨w.heap.size, 6, none⟩ (.int .i64 0)).setCell ⟨w.heap.size, 7, none⟩ (.int .i64 0)).setCell ⟨w.heap.size, 8, none⟩ (.int .i64 0)).setCell ⟨w.heap.size, 9, none⟩ (.slice none 0 0)).setCell ⟨w.heap.size, 10, none⟩ (.slice none 0 0)).setCell ⟨w.heap.size, 11, none⟩ (.slice none 0 0)).setCell ⟨w.heap.size, 12, none⟩ (.slice none 0 0)).setCell ⟨w.heap.size, 13, none⟩ (.slice none 0 0)) w.heap.size 39 #[.int .u8 0, .int .i64 0, .int .i64 0, .int .i64 0, .int .i64 0, .int .i64 0, .int .i64 0, .int .i64 0, .int .i64 0, .slice none 0 0, .slice none 0 0, .slice none 0 0, .slice none 0 0, .slice none 0 0] := by
        have h := ((((((((((((((HZ18.out.set_ 0 (.int .u8 0)).set_ 1 (.int .i64 0)).set_ 2 (.int .i64 0)).set_ 3 (.int .i64 0)).set_ 4 (.int .i64 0)).set_ 5 (.int .i64 0)).set_ 6 (.int .i64 0)).set_ 7 (.int .i64 0)).set_ 8 (.int .i64 0)).set_ 9 (.slice none 0 0)).set_ 10 (.slice none 0 0)).set_ 11 (.slice none 0 0)).set_ 12 (.slice none 0 0)).set_ 13 (.slice none 0 0))
        simpa using h
      have hkf : Keep (fun q => w.heap.size = q) V18 ((((((((((((((V18.setCell ⟨w.heap.size, 0, none⟩ (.int .u8 0)).setCell ⟨w.heap.size, 1, none⟩ (.int .i64 0)).setCell ⟨w.heap.size, 2, none⟩ (.int .i64 0)).setCell ⟨w.heap.size, 3, none⟩ (.int .i64 0)).setCell ⟨w.heap.size, 4, none⟩ (.int .i64 0)).setCell ⟨w.heap.size, 5, none⟩ (.int .i64 0)).setCell ⟨w.heap.size, 6, none⟩ (.int .i64 0)).setCell ⟨w.heap.size, 7, none⟩ (.int .i64 0)).setCell ⟨w.heap.size, 8, none⟩ (.int .i64 0)).setCell ⟨w.heap.size, 9, none⟩ (.slice none 0 0)).setCell ⟨w.heap.size, 10, none⟩ (.slice none 0 0)).setCell ⟨w.heap.size, 11, none⟩ (.slice none 0 0)).setCell ⟨w.heap.size, 12, none⟩ (.slice none 0 0)).setCell ⟨w.heap.size, 13, none⟩ (.slice none 0 0)) := (((((((((((((((Keep.refl (fun q => w.heap.size = q) V18).setCell (p := ⟨w.heap.size, 0, none⟩) (fun _ => rfl) _).setCell (p := ⟨w.heap.size, 1, none⟩) (fun _ => rfl) _).setCell (p := ⟨w.heap.size, 2, none⟩) (fun _ => rfl) _).setCell (p := ⟨w.heap.size, 3, none⟩) (fun _ => rfl) _).setCell (p := ⟨w.heap.size, 4, none⟩) (fun _ => rfl) _).setCell (p := ⟨w.heap.size, 5, none⟩) (fun _ => rfl) _).setCell (p := ⟨w.heap.size, 6, none⟩) (fun _ => rfl) _).setCell (p := ⟨w.heap.size, 7, none⟩) (fun _ => rfl) _).setCell (p := ⟨w.heap.size, 8, none⟩) (fun _ => rfl) _).setCell (p := ⟨w.heap.size, 9, none⟩) (fun _ => rfl) _).setCell (p := ⟨w.heap.size, 10, none⟩) (fun _ => rfl) _).setCell (p := ⟨w.heap.size, 11, none⟩) (fun _ => rfl) _).setCell (p := ⟨w.heap.size, 12, none⟩) (fun _ => rfl) _).setCell (p := ⟨w.heap.size, 13, none⟩) (fun _ => rfl) _)
      generalize ((((((((((((((V18.setCell ⟨w.heap.size, 0, none⟩ (.int .u8 0)).setCell ⟨w.heap.size, 1, none⟩ (.int .i64 0)).setCell ⟨w.heap.size, 2, none⟩ (.int .i64 0)).setCell ⟨w.heap.size, 3, none⟩ (.int .i64 0)).setCell ⟨w.heap.size, 4, none⟩ (.int .i64 0)).setCell ⟨w.heap.size, 5, none⟩ (.int .i64 0)).setCell ⟨w.heap.size, 6, none⟩ (.int .i64 0)).setCell ⟨w.heap.size, 7, none⟩ (.int .i64 0)).setCell ⟨w.heap.size, 8, none⟩ (.int .i64 0)).setCell ⟨w.heap.size, 9, none⟩ (.slice none 0 0)).setCell ⟨w.heap.size, 10, none⟩ (.slice none 0 0)).setCell ⟨w.heap.size, 11, none⟩ (.slice none 0 0)).setCell ⟨w.heap.size, 12, none⟩ (.slice none 0 0)).setCell ⟨w.heap.size, 13, none⟩ (.slice none 0 0)) = WF at *
      have x0 := hbf.cell 0
      have x1 := hbf.cell 1
      have x2 := hbf.cell 2
      have x3 := hbf.cell 3
      have x4 := hbf.cell 4
      have x5 := hbf.cell 5
      have x6 := hbf.cell 6
      have x7 := hbf.cell 7
      have x8 := hbf.cell 8
      have x9 := hbf.cell 9
      have x10 := hbf.cell 10
      have x11 := hbf.cell 11
      have x12 := hbf.cell 12
      have x13 := hbf.cell 13
      simp at x0 x1 x2 x3 x4 x5 x6 x7 x8 x9 x10 x11 x12 x13
      refine ⟨rfl, .tuple #[zfrV, .int .i64 4], ?_, by unfold DecPost; exact ⟨by rw [if_neg (fun h => by have h2 := h.2; rw [HM.out] at h2; cases h2)], HK18.out.trans (hkf.mono fun q _ e => .inr (by omega))⟩⟩
      unfold results
      go_simp
  · have HIF := Lib.hid (show ¬ (er = 0 ∧ mayF f = true) from fun h => he0 h.1)
    have h2 : (er != 0) = true := by simpa using he0
    have h3 : (er == 0) = false := by simpa using he0
    have z0 := hz17.cell 0
    have z1 := hz17.cell 1
    have z2 := hz17.cell 2
    have z3 := hz17.cell 3
    have z4 := hz17.cell 4
    have z5 := hz17.cell 5
    have z6 := hz17.cell 6
    have z7 := hz17.cell 7
    have z8 := hz17.cell 8
    have z9 := hz17.cell 9
    have z10 := hz17.cell 10
    have z11 := hz17.cell 11
    have z12 := hz17.cell 12
    have z13 := hz17.cell 13
    have fz0 := hz17.frozen 0
    have fz1 := hz17.frozen 1
    have fz2 := hz17.frozen 2
    have fz3 := hz17.frozen 3
    have fz4 := hz17.frozen 4
    have fz5 := hz17.frozen 5
    have fz6 := hz17.frozen 6
    have fz7 := hz17.frozen 7
    have fz8 := hz17.frozen 8
    have fz9 := hz17.frozen 9
    have fz10 := hz17.frozen 10
    have fz11 := hz17.frozen 11
    have fz12 := hz17.frozen 12
    have fz13 := hz17.frozen 13
    simp at z0 z1 z2 z3 z4 z5 z6 z7 z8 z9 z10 z11 z12 z13
    go_wp2
    have hbf : Blk ((((((((((((((V17.setCell ⟨w.heap.size, 0, none⟩ (.int .u8 0)).setCell ⟨w.heap.size, 1, none⟩ (.int .i64 0)).setCell ⟨w.heap.size, 2, none⟩ (.int .i64 0)).setCell ⟨w.heap.size, 3, none⟩ (.int .i64 0)).setCell ⟨w.heap.size, 4, none⟩ (.int .i64 0)).setCell ⟨w.heap.size, 5, none⟩ (.int .i64 0)).setCell ⟨w.heap.size, 6, none⟩ (.int .i64 0)).setCell ⟨w.heap.size, 7, none⟩ (.int .i64 0)).setCell ⟨w.heap.size, 8, none⟩ (.int .i64 0)).setCell ⟨w.heap.size, 9, none⟩ (.slice none 0 0)).setCell ⟨w.heap.size, 10, none⟩ (.slice none 0 0)).setCell ⟨w.heap.size, 11, none⟩ (.slice none 0 0)).setCell ⟨w.heap.size, 12, none⟩ (.slice none 0 0)).setCell ⟨w.heap.size, 13, none⟩ (.slice none 0 0)) w.heap.size 39 #[.int .u8 0, .int .i64 0, .int .i64 0, .int .i64 0, .int .i64 0, .int .i64 0, .int .i64 0, .int .i64 0, .int .i64 0, .slice none 0 0, .slice none 0 0, .slice none 0 0, .slice none 0 0, .slice none 0 0] := by
      have h := ((((((((((((((HZ17.out.set_ 0 (.int .u8 0)).set_ 1 (.int .i64 0)).set_ 2 (.int .i64 0)).set_ 3 (.int .i64 0)).set_ 4 (.int .i64 0)).set_ 5 (.int .i64 0)).set_ 6 (.int .i64 0)).set_ 7 (.int .i64 0)).set_ 8 (.int .i64 0)).set_ 9 (.slice none 0 0)).set_ 10 (.slice none 0 0)).set_ 11 (.slice none 0 0)).set_ 12 (.slice none 0 0)).set_ 13 (.slice none 0 0))
      simpa using h
    have hkf : Keep (fun q => w.heap.size = q) V17 ((((((((((((((V17.setCell ⟨w.heap.size, 0, none⟩ (.int .u8 0)).setCell ⟨w.heap.size, 1, none⟩ (.int .i64 0)).setCell ⟨w.heap.size, 2, none⟩ (.int .i64 0)).setCell ⟨w.heap.size, 3, none⟩ (.int .i64 0)).setCell ⟨w.heap.size, 4, none⟩ (.int .i64 0)).setCell ⟨w.heap.size, 5, none⟩ (.int .i64 0)).setCell ⟨w.heap.size, 6, none⟩ (.int .i64 0)).setCell ⟨w.heap.size, 7, none⟩ (.int .i64 0)).setCell ⟨w.heap.size, 8, none⟩ (.int .i64 0)).setCell ⟨w.heap.size, 9, none⟩ (.slice none 0 0)).setCell ⟨w.heap.size, 10, none⟩ (.slice none 0 0)).setCell ⟨w.heap.size, 11, none⟩ (.slice none 0 0)).setCell ⟨w.heap.size, 12, none⟩ (.slice none 0 0)).setCell ⟨w.heap.size, 13, none⟩ (.slice none 0 0)) := (((((((((((((((Keep.refl (fun q => w.heap.size = q) V17).setCell (p := ⟨w.heap.size, 0, none⟩) (fun _ => rfl) _).setCell (p := ⟨w.heap.size, 1, none⟩) (fun _ => rfl) _).setCell (p := ⟨w.heap.size, 2, none⟩) (fun _ => rfl) _).setCell (p := ⟨w.heap.size, 3, none⟩) (fun _ => rfl) _).setCell (p := ⟨w.heap.size, 4, none⟩) (fun _ => rfl) _).setCell (p := ⟨w.heap.size, 5, none⟩) (fun _ => rfl) _).setCell (p := ⟨w.heap.size, 6, none⟩) (fun _ => rfl) _).setCell (p := ⟨w.heap.size, 7, none⟩) (fun _ => rfl) _).setCell (p := ⟨w.heap.size, 8, none⟩) (fun _ => rfl) _).setCell (p := ⟨w.heap.size, 9, none⟩) (fun _ => rfl) _).setCell (p := ⟨w.heap.size, 10, none⟩) (fun _ => rfl) _).setCell (p := ⟨w.heap.size, 11, none⟩) (fun _ => rfl) _).setCell (p := ⟨w.heap.size, 12, none⟩) (fun _ => rfl) _).setCell (p := ⟨w.heap.size, 13, none⟩) (fun _ => rfl) _)
    generalize ((((((((((((((V17.setCell ⟨w.heap.size, 0, none⟩ (.int .u8 0)).setCell ⟨w.heap.size, 1, none⟩ (.int .i64 0)).setCell ⟨w.heap.size, 2, none⟩ (.int .i64 0)).setCell ⟨w.heap.size, 3, none⟩ (.int .i64 0)).setCell ⟨w.heap.size, 4, none⟩ (.int .i64 0)).setCell ⟨w.heap.size, 5, none⟩ (.int .i64 0)).setCell ⟨w.heap.size, 6, none⟩ (.int .i64 0)).setCell ⟨w.heap.size, 7, none⟩ (.int .i64 0)).setCell ⟨w.heap.size, 8, none⟩ (.int .i64 0)).setCell ⟨w.heap.size, 9, none⟩ (.slice none 0 0)).setCell ⟨w.heap.size, 10, none⟩ (.slice none 0 0)).setCell ⟨w.heap.size, 11, none⟩ (.slice none 0 0)).setCell ⟨w.heap.size, 12, none⟩ (.slice none 0 0)).setCell ⟨w.heap.size, 13, none⟩ (.slice none 0 0)) = WF at *
    have x0 := hbf.cell 0
    have x1 := hbf.cell 1
    have x2 := hbf.cell 2
    have x3 := hbf.cell 3
    have x4 := hbf.cell 4
    have x5 := hbf.cell 5
    have x6 := hbf.cell 6
    have x7 := hbf.cell 7
    have x8 := hbf.cell 8
    have x9 := hbf.cell 9
    have x10 := hbf.cell 10
    have x11 := hbf.cell 11
    have x12 := hbf.cell 12
    have x13 := hbf.cell 13
    simp at x0 x1 x2 x3 x4 x5 x6 x7 x8 x9 x10 x11 x12 x13
    refine ⟨rfl, .tuple #[zfrV, .int .i64 4], ?_, by unfold DecPost; exact ⟨by rw [if_neg HIF.out], HK17.out.trans (hkf.mono fun q _ e => .inr (by omega))⟩⟩
    unfold results
    go_simp
end Go.Proofs.YtgoldgamjogadaaGreat

namespace Go.Proofs.YtgoldgamjogadaaGreat
open Go.RowKit Go
set_option maxRecDepth 100000
attribute [local irreducible] kAll
attribute [local go_sem] kQuiet kQuietUpon

theorem sameRs_self (l : List RowM) : sameRs l l = true := by
  unfold sameRs
  rw [decide_eq_true rfl, Bool.true_and]
  exact List.all_eq_true.2 fun i _ => by unfold sameRow; rw [decide_eq_true rfl, decide_eq_true rfl, decide_eq_true rfl]; rfl
set_option maxHeartbeats 4000000 in
theorem known_same (m f r c s m2 f2 r2 c2 s2 : Value) (v : VwM) (w : World) (h1 : IsV w m f r c s v) (h2 : IsV w m2 f2 r2 c2 s2 v) (hfew : Few v) :
    Calls Tryz.prog 90 #[.agg #[m, f, r, c, s], .agg #[m2, f2, r2, c2, s2]] w (Tell (.bool true) w) := by
  have HV1 := Lib.hid h1
  have HV2 := Lib.hid h2
  have HFew := Lib.hid hfew
  obtain ⟨mem, fl, rows, clk, seen⟩ := v
  obtain ⟨⟨Am, nm, cm, rfl, hm⟩, ⟨Af, nf, cf, rfl, hf⟩, ⟨Ar, nr, cr, rfl, hr⟩, ⟨Ac, nc, cc, rfl, hc⟩, ⟨As, ns, cs, rfl, hs⟩, _⟩ := h1
  obtain ⟨⟨Bm, nm2, dm, rfl, hm2⟩, ⟨Bf, nf2, df, rfl, hf2⟩, ⟨Br, nr2, dr, rfl, hr2⟩, ⟨Bc, nc2, dc, rfl, hc2⟩, ⟨Bs, ns2, ds, rfl, hs2⟩, _⟩ := h2
  obtain ⟨n1, n2, n3, n4, n5, n6⟩ := hfew
  simp only at n1 n2 n3 n4 n5 n6 hm hf hr hc hs hm2 hf2 hr2 hc2 hs2
  obtain rfl : nm = nm2 := by rw [← hm.1, ← hm2.1]
  obtain rfl : nf = nf2 := by rw [← hf.1, ← hf2.1]
  obtain rfl : nr = nr2 := by rw [← hr.1, ← hr2.1]
  obtain rfl : nc = nc2 := by rw [← hc.1, ← hc2.1]
  obtain rfl : ns = ns2 := by rw [← hs.1, ← hs2.1]
  rw [hm.1] at n1
  rw [hf.1] at n2
  rw [hr.1] at n3
  rw [hc.1] at n4
  rw [hs.1] at n5
  have HM := Lib.hid hm
  have HM2 := Lib.hid hm2
  have HF := Lib.hid hf
  have HF2 := Lib.hid hf2
  have HR := Lib.hid hr
  have HR2 := Lib.hid hr2
  have HC := Lib.hid hc
  have HC2 := Lib.hid hc2
  have HS := Lib.hid hs
  have HS2 := Lib.hid hs2
  have HNo := Lib.hid n6
  obtain ⟨W0, hW0⟩ : ∃ V, w.alloc (.cells #[.slice Am nm cm, .slice Af nf cf, .slice Ar nr cr, .slice Ac nc cc, .slice As ns cs] 33) = V := ⟨_, rfl⟩
  have hbx : Blk W0 w.heap.size 33 #[.slice Am nm cm, .slice Af nf cf, .slice Ar nr cr, .slice Ac nc cc, .slice As ns cs] := by rw [← hW0]; exact Blk.new _ _ _
  have hk0 : Keep (fun _ => False) w W0 := by rw [← hW0]; exact (Keep.refl _ w).alloc _
  obtain ⟨W1, hW1⟩ : ∃ V, W0.alloc (.cells #[.slice Bm nm dm, .slice Bf nf df, .slice Br nr dr, .slice Bc nc dc, .slice Bs ns ds] 33) = V := ⟨_, rfl⟩
  have hby : Blk W1 W0.heap.size 33 #[.slice Bm nm dm, .slice Bf nf df, .slice Br nr dr, .slice Bc nc dc, .slice Bs ns ds] := by rw [← hW1]; exact Blk.new _ _ _
  have hk1 : Keep (fun _ => False) W0 W1 := by rw [← hW1]; exact (Keep.refl _ W0).alloc _
  have hkk := keep0_trans _ _ _ hk0 hk1
  have BX := Lib.hid (hbx.keep hk1 (fun h => h))
  have BY := Lib.hid hby
  have KK := Lib.hid hkk
  clear hbx hk0 hby hk1 hkk hm hf hr hc hs hm2 hf2 hr2 hc2 hs2 n6
  go_enter Tryz.func90, Tryz.ntmps90
  have x0 := BX.out.cell 0
  have y0 := BY.out.cell 0
  simp at x0 y0
  go_wp2_with fail
  refine (equal_mems Am Bm nm nm cm dm mem mem _ (HM.out.keep0 KK.out) (HM2.out.keep0 KK.out) (by omega) (by omega)).mono ?_
  rintro e W ⟨rfl, hk⟩
  rw [decide_eq_true rfl]
  have BX := Lib.hid (BX.out.keep hk (fun h => h))
  have BY := Lib.hid (BY.out.keep hk (fun h => h))
  have KK := Lib.hid (keep0_trans _ _ _ KK.out hk)
  clear hk
  clear x0 y0
  have x1 := BX.out.cell 1
  have y1 := BY.out.cell 1
  simp at x1 y1
  go_wp2_with fail
  refine (equal_ids Af Bf nf nf cf df fl fl _ (HF.out.keep0 KK.out) (HF2.out.keep0 KK.out) (by omega) (by omega)).mono ?_
  rintro e W ⟨rfl, hk⟩
  rw [decide_eq_true rfl]
  have BX := Lib.hid (BX.out.keep hk (fun h => h))
  have BY := Lib.hid (BY.out.keep hk (fun h => h))
  have KK := Lib.hid (keep0_trans _ _ _ KK.out hk)
  clear hk
  clear x1 y1
  have x2 := BX.out.cell 2
  have y2 := BY.out.cell 2
  simp at x2 y2
  go_wp2_with fail
  refine (rowsSame_any Ar Br nr nr cr dr rows rows _ (HR.out.keep0 KK.out) (HR2.out.keep0 KK.out) (by omega) (by omega) HNo.out HNo.out).mono ?_
  rintro e W ⟨rfl, hk⟩
  rw [sameRs_self]
  have BX := Lib.hid (BX.out.keep hk (fun h => h))
  have BY := Lib.hid (BY.out.keep hk (fun h => h))
  have KK := Lib.hid (keep0_trans _ _ _ KK.out hk)
  clear hk
  clear x2 y2
  go_wp2
  go_ret
  exact ⟨rfl, KK.out⟩
set_option maxHeartbeats 4000000 in
theorem core_same (m f r c s m2 f2 r2 c2 s2 : Value) (v : VwM) (w : World) (h1 : IsV w m f r c s v) (h2 : IsV w m2 f2 r2 c2 s2 v) (hfew : Few v) :
    Calls Tryz.prog 75 #[.agg #[m, f, r, c, s], .agg #[m2, f2, r2, c2, s2]] w (Tell (.bool true) w) := by
  have HV1 := Lib.hid h1
  have HV2 := Lib.hid h2
  have HFew := Lib.hid hfew
  obtain ⟨mem, fl, rows, clk, seen⟩ := v
  obtain ⟨⟨Am, nm, cm, rfl, hm⟩, ⟨Af, nf, cf, rfl, hf⟩, ⟨Ar, nr, cr, rfl, hr⟩, ⟨Ac, nc, cc, rfl, hc⟩, ⟨As, ns, cs, rfl, hs⟩, _⟩ := h1
  obtain ⟨⟨Bm, nm2, dm, rfl, hm2⟩, ⟨Bf, nf2, df, rfl, hf2⟩, ⟨Br, nr2, dr, rfl, hr2⟩, ⟨Bc, nc2, dc, rfl, hc2⟩, ⟨Bs, ns2, ds, rfl, hs2⟩, _⟩ := h2
  obtain ⟨n1, n2, n3, n4, n5, n6⟩ := hfew
  simp only at n1 n2 n3 n4 n5 n6 hm hf hr hc hs hm2 hf2 hr2 hc2 hs2
  obtain rfl : nm = nm2 := by rw [← hm.1, ← hm2.1]
  obtain rfl : nf = nf2 := by rw [← hf.1, ← hf2.1]
  obtain rfl : nr = nr2 := by rw [← hr.1, ← hr2.1]
  obtain rfl : nc = nc2 := by rw [← hc.1, ← hc2.1]
  obtain rfl : ns = ns2 := by rw [← hs.1, ← hs2.1]
  rw [hm.1] at n1
  rw [hf.1] at n2
  rw [hr.1] at n3
  rw [hc.1] at n4
  rw [hs.1] at n5
  have HM := Lib.hid hm
  have HM2 := Lib.hid hm2
  have HF := Lib.hid hf
  have HF2 := Lib.hid hf2
  have HR := Lib.hid hr
  have HR2 := Lib.hid hr2
  have HC := Lib.hid hc
  have HC2 := Lib.hid hc2
  have HS := Lib.hid hs
  have HS2 := Lib.hid hs2
  have HNo := Lib.hid n6
  obtain ⟨W0, hW0⟩ : ∃ V, w.alloc (.cells #[.slice Am nm cm, .slice Af nf cf, .slice Ar nr cr, .slice Ac nc cc, .slice As ns cs] 33) = V := ⟨_, rfl⟩
  have hbx : Blk W0 w.heap.size 33 #[.slice Am nm cm, .slice Af nf cf, .slice Ar nr cr, .slice Ac nc cc, .slice As ns cs] := by rw [← hW0]; exact Blk.new _ _ _
  have hk0 : Keep (fun _ => False) w W0 := by rw [← hW0]; exact (Keep.refl _ w).alloc _
  obtain ⟨W1, hW1⟩ : ∃ V, W0.alloc (.cells #[.slice Bm nm dm, .slice Bf nf df, .slice Br nr dr, .slice Bc nc dc, .slice Bs ns ds] 33) = V := ⟨_, rfl⟩
  have hby : Blk W1 W0.heap.size 33 #[.slice Bm nm dm, .slice Bf nf df, .slice Br nr dr, .slice Bc nc dc, .slice Bs ns ds] := by rw [← hW1]; exact Blk.new _ _ _
  have hk1 : Keep (fun _ => False) W0 W1 := by rw [← hW1]; exact (Keep.refl _ W0).alloc _
  have hkk := keep0_trans _ _ _ hk0 hk1
  have BX := Lib.hid (hbx.keep hk1 (fun h => h))
  have BY := Lib.hid hby
  have KK := Lib.hid hkk
  clear hbx hk0 hby hk1 hkk hm hf hr hc hs hm2 hf2 hr2 hc2 hs2 n6
  go_enter Tryz.func75, Tryz.ntmps75
  have x0 := BX.out.cell 0
  have y0 := BY.out.cell 0
  have x1 := BX.out.cell 1
  have y1 := BY.out.cell 1
  have x2 := BX.out.cell 2
  have y2 := BY.out.cell 2
  have x3 := BX.out.cell 3
  have y3 := BY.out.cell 3
  have x4 := BX.out.cell 4
  have y4 := BY.out.cell 4
  simp at x0 y0 x1 y1 x2 y2 x3 y3 x4 y4
  go_wp2_with fail
  refine (known_same _ _ _ _ _ _ _ _ _ _ ⟨mem, fl, rows, clk, seen⟩ _ (HV1.out.keep0 KK.out) (HV2.out.keep0 KK.out) HFew.out).mono ?_
  rintro e W ⟨rfl, hk⟩
  have BX := Lib.hid (BX.out.keep hk (fun h => h))
  have BY := Lib.hid (BY.out.keep hk (fun h => h))
  have KK := Lib.hid (keep0_trans _ _ _ KK.out hk)
  clear hk
  clear x0 y0 x1 y1 x2 y2 x3 y3 x4 y4
  have x3 := BX.out.cell 3
  have y3 := BY.out.cell 3
  simp at x3 y3
  go_wp2_with fail
  refine (equal_ticks Ac Bc nc nc cc dc clk clk _ (HC.out.keep0 KK.out) (HC2.out.keep0 KK.out) (by omega) (by omega)).mono ?_
  rintro e W ⟨rfl, hk⟩
  rw [decide_eq_true rfl]
  have BX := Lib.hid (BX.out.keep hk (fun h => h))
  have BY := Lib.hid (BY.out.keep hk (fun h => h))
  have KK := Lib.hid (keep0_trans _ _ _ KK.out hk)
  clear hk
  clear x3 y3
  go_wp2
  go_ret
  exact ⟨rfl, KK.out⟩
set_option maxHeartbeats 4000000 in
theorem view_same (m f r c s m2 f2 r2 c2 s2 : Value) (v : VwM) (w : World) (h1 : IsV w m f r c s v) (h2 : IsV w m2 f2 r2 c2 s2 v) (hfew : Few v) :
    Calls Tryz.prog 41 #[.agg #[m, f, r, c, s], .agg #[m2, f2, r2, c2, s2]] w (Tell (.bool true) w) := by
  have HV1 := Lib.hid h1
  have HV2 := Lib.hid h2
  have HFew := Lib.hid hfew
  obtain ⟨mem, fl, rows, clk, seen⟩ := v
  obtain ⟨⟨Am, nm, cm, rfl, hm⟩, ⟨Af, nf, cf, rfl, hf⟩, ⟨Ar, nr, cr, rfl, hr⟩, ⟨Ac, nc, cc, rfl, hc⟩, ⟨As, ns, cs, rfl, hs⟩, _⟩ := h1
  obtain ⟨⟨Bm, nm2, dm, rfl, hm2⟩, ⟨Bf, nf2, df, rfl, hf2⟩, ⟨Br, nr2, dr, rfl, hr2⟩, ⟨Bc, nc2, dc, rfl, hc2⟩, ⟨Bs, ns2, ds, rfl, hs2⟩, _⟩ := h2
  obtain ⟨n1, n2, n3, n4, n5, n6⟩ := hfew
  simp only at n1 n2 n3 n4 n5 n6 hm hf hr hc hs hm2 hf2 hr2 hc2 hs2
  obtain rfl : nm = nm2 := by rw [← hm.1, ← hm2.1]
  obtain rfl : nf = nf2 := by rw [← hf.1, ← hf2.1]
  obtain rfl : nr = nr2 := by rw [← hr.1, ← hr2.1]
  obtain rfl : nc = nc2 := by rw [← hc.1, ← hc2.1]
  obtain rfl : ns = ns2 := by rw [← hs.1, ← hs2.1]
  rw [hm.1] at n1
  rw [hf.1] at n2
  rw [hr.1] at n3
  rw [hc.1] at n4
  rw [hs.1] at n5
  have HM := Lib.hid hm
  have HM2 := Lib.hid hm2
  have HF := Lib.hid hf
  have HF2 := Lib.hid hf2
  have HR := Lib.hid hr
  have HR2 := Lib.hid hr2
  have HC := Lib.hid hc
  have HC2 := Lib.hid hc2
  have HS := Lib.hid hs
  have HS2 := Lib.hid hs2
  have HNo := Lib.hid n6
  obtain ⟨W0, hW0⟩ : ∃ V, w.alloc (.cells #[.slice Am nm cm, .slice Af nf cf, .slice Ar nr cr, .slice Ac nc cc, .slice As ns cs] 33) = V := ⟨_, rfl⟩
  have hbx : Blk W0 w.heap.size 33 #[.slice Am nm cm, .slice Af nf cf, .slice Ar nr cr, .slice Ac nc cc, .slice As ns cs] := by rw [← hW0]; exact Blk.new _ _ _
  have hk0 : Keep (fun _ => False) w W0 := by rw [← hW0]; exact (Keep.refl _ w).alloc _
  obtain ⟨W1, hW1⟩ : ∃ V, W0.alloc (.cells #[.slice Bm nm dm, .slice Bf nf df, .slice Br nr dr, .slice Bc nc dc, .slice Bs ns ds] 33) = V := ⟨_, rfl⟩
  have hby : Blk W1 W0.heap.size 33 #[.slice Bm nm dm, .slice Bf nf df, .slice Br nr dr, .slice Bc nc dc, .slice Bs ns ds] := by rw [← hW1]; exact Blk.new _ _ _
  have hk1 : Keep (fun _ => False) W0 W1 := by rw [← hW1]; exact (Keep.refl _ W0).alloc _
  have hkk := keep0_trans _ _ _ hk0 hk1
  have BX := Lib.hid (hbx.keep hk1 (fun h => h))
  have BY := Lib.hid hby
  have KK := Lib.hid hkk
  clear hbx hk0 hby hk1 hkk hm hf hr hc hs hm2 hf2 hr2 hc2 hs2 n6
  go_enter Tryz.func41, Tryz.ntmps41
  have x0 := BX.out.cell 0
  have y0 := BY.out.cell 0
  have x1 := BX.out.cell 1
  have y1 := BY.out.cell 1
  have x2 := BX.out.cell 2
  have y2 := BY.out.cell 2
  have x3 := BX.out.cell 3
  have y3 := BY.out.cell 3
  have x4 := BX.out.cell 4
  have y4 := BY.out.cell 4
  simp at x0 y0 x1 y1 x2 y2 x3 y3 x4 y4
  go_wp2_with fail
  refine (core_same _ _ _ _ _ _ _ _ _ _ ⟨mem, fl, rows, clk, seen⟩ _ (HV1.out.keep0 KK.out) (HV2.out.keep0 KK.out) HFew.out).mono ?_
  rintro e W ⟨rfl, hk⟩
  have BX := Lib.hid (BX.out.keep hk (fun h => h))
  have BY := Lib.hid (BY.out.keep hk (fun h => h))
  have KK := Lib.hid (keep0_trans _ _ _ KK.out hk)
  clear hk
  clear x0 y0 x1 y1 x2 y2 x3 y3 x4 y4
  have x4 := BX.out.cell 4
  have y4 := BY.out.cell 4
  simp at x4 y4
  go_wp2_with fail
  refine (equal_ids As Bs ns ns cs ds seen seen _ (HS.out.keep0 KK.out) (HS2.out.keep0 KK.out) (by omega) (by omega)).mono ?_
  rintro e W ⟨rfl, hk⟩
  rw [decide_eq_true rfl]
  have BX := Lib.hid (BX.out.keep hk (fun h => h))
  have BY := Lib.hid (BY.out.keep hk (fun h => h))
  have KK := Lib.hid (keep0_trans _ _ _ KK.out hk)
  clear hk
  clear x4 y4
  go_wp2
  go_ret
  exact ⟨rfl, KK.out⟩
set_option maxHeartbeats 4000000 in
theorem frame_same (m l r c s m2 l2 r2 c2 s2 : Value) (f : FrM) (w : World) (h1 : IsV w m l r c s f.view) (h2 : IsV w m2 l2 r2 c2 s2 f.view) (hfew : Few f.view) :
    Calls Tryz.prog 22 #[frV f m l r c s, frV f m2 l2 r2 c2 s2] w (Tell (.bool true) w) := by
  have HV1 := Lib.hid h1
  have HV2 := Lib.hid h2
  have HFew := Lib.hid hfew
  obtain ⟨kind, ⟨fa, fi⟩, ⟨ta, ti⟩, nn, tok, ⟨ba, bi⟩, v⟩ := f
  simp only at h1 h2 hfew HV1 HV2 HFew
  obtain ⟨mem, fl, rows, clk, seen⟩ := v
  obtain ⟨⟨Am, nm, cm, rfl, hm⟩, ⟨Af, nf, cf, rfl, hf⟩, ⟨Ar, nr, cr, rfl, hr⟩, ⟨Ac, nc, cc, rfl, hc⟩, ⟨As, ns, cs, rfl, hs⟩, _⟩ := h1
  obtain ⟨⟨Bm, nm2, dm, rfl, hm2⟩, ⟨Bf, nf2, df, rfl, hf2⟩, ⟨Br, nr2, dr, rfl, hr2⟩, ⟨Bc, nc2, dc, rfl, hc2⟩, ⟨Bs, ns2, ds, rfl, hs2⟩, _⟩ := h2
  obtain ⟨n1, n2, n3, n4, n5, n6⟩ := hfew
  simp only at n1 n2 n3 n4 n5 n6 hm hf hr hc hs hm2 hf2 hr2 hc2 hs2
  obtain rfl : nm = nm2 := by rw [← hm.1, ← hm2.1]
  obtain rfl : nf = nf2 := by rw [← hf.1, ← hf2.1]
  obtain rfl : nr = nr2 := by rw [← hr.1, ← hr2.1]
  obtain rfl : nc = nc2 := by rw [← hc.1, ← hc2.1]
  obtain rfl : ns = ns2 := by rw [← hs.1, ← hs2.1]
  rw [hm.1] at n1
  rw [hf.1] at n2
  rw [hr.1] at n3
  rw [hc.1] at n4
  rw [hs.1] at n5
  obtain ⟨W0, hW0⟩ : ∃ V, w.alloc (.cells #[.int .u8 (kind : Int), .int .i64 fa, .int .i64 fi, .int .i64 ta, .int .i64 ti, .int .i64 nn, .int .i64 tok, .int .i64 ba, .int .i64 bi, .slice Am nm cm, .slice Af nf cf, .slice Ar nr cr, .slice Ac nc cc, .slice As ns cs] 39) = V := ⟨_, rfl⟩
  have hbx : Blk W0 w.heap.size 39 #[.int .u8 (kind : Int), .int .i64 fa, .int .i64 fi, .int .i64 ta, .int .i64 ti, .int .i64 nn, .int .i64 tok, .int .i64 ba, .int .i64 bi, .slice Am nm cm, .slice Af nf cf, .slice Ar nr cr, .slice Ac nc cc, .slice As ns cs] := by rw [← hW0]; exact Blk.new _ _ _
  have hk0 : Keep (fun _ => False) w W0 := by rw [← hW0]; exact (Keep.refl _ w).alloc _
  obtain ⟨W1, hW1⟩ : ∃ V, W0.alloc (.cells #[.int .u8 (kind : Int), .int .i64 fa, .int .i64 fi, .int .i64 ta, .int .i64 ti, .int .i64 nn, .int .i64 tok, .int .i64 ba, .int .i64 bi, .slice Bm nm dm, .slice Bf nf df, .slice Br nr dr, .slice Bc nc dc, .slice Bs ns ds] 39) = V := ⟨_, rfl⟩
  have hby : Blk W1 W0.heap.size 39 #[.int .u8 (kind : Int), .int .i64 fa, .int .i64 fi, .int .i64 ta, .int .i64 ti, .int .i64 nn, .int .i64 tok, .int .i64 ba, .int .i64 bi, .slice Bm nm dm, .slice Bf nf df, .slice Br nr dr, .slice Bc nc dc, .slice Bs ns ds] := by rw [← hW1]; exact Blk.new _ _ _
  have hk1 : Keep (fun _ => False) W0 W1 := by rw [← hW1]; exact (Keep.refl _ W0).alloc _
  have hkk := keep0_trans _ _ _ hk0 hk1
  have BX := Lib.hid (hbx.keep hk1 (fun h => h))
  have BY := Lib.hid hby
  have KK := Lib.hid hkk
  have E1 : ∀ W, (binOp .eql 24 (idV (fa, fi)) (idV (fa, fi))).run Tryz.prog W = .ok (.bool true) W := fun W => by simpa using eql_ID (fa, fi) (fa, fi) W
  have E2 : ∀ W, (binOp .eql 24 (idV (ta, ti)) (idV (ta, ti))).run Tryz.prog W = .ok (.bool true) W := fun W => by simpa using eql_ID (ta, ti) (ta, ti) W
  have E3 : ∀ W, (binOp .eql 24 (idV (ba, bi)) (idV (ba, bi))).run Tryz.prog W = .ok (.bool true) W := fun W => by simpa using eql_ID (ba, bi) (ba, bi) W
  have G := gID
  clear hbx hk0 hby hk1 hkk hm hf hr hc hs hm2 hf2 hr2 hc2 hs2 n6
  go_enter Tryz.func22, Tryz.ntmps22
  have x0 := BX.out.cell 0
  have y0 := BY.out.cell 0
  have x1 := BX.out.cell 1
  have y1 := BY.out.cell 1
  have x2 := BX.out.cell 2
  have y2 := BY.out.cell 2
  have x3 := BX.out.cell 3
  have y3 := BY.out.cell 3
  have x4 := BX.out.cell 4
  have y4 := BY.out.cell 4
  have x5 := BX.out.cell 5
  have y5 := BY.out.cell 5
  have x6 := BX.out.cell 6
  have y6 := BY.out.cell 6
  have x7 := BX.out.cell 7
  have y7 := BY.out.cell 7
  have x8 := BX.out.cell 8
  have y8 := BY.out.cell 8
  have x9 := BX.out.cell 9
  have y9 := BY.out.cell 9
  have x10 := BX.out.cell 10
  have y10 := BY.out.cell 10
  have x11 := BX.out.cell 11
  have y11 := BY.out.cell 11
  have x12 := BX.out.cell 12
  have y12 := BY.out.cell 12
  have x13 := BX.out.cell 13
  have y13 := BY.out.cell 13
  simp at x0 y0 x1 y1 x2 y2 x3 y3 x4 y4 x5 y5 x6 y6 x7 y7 x8 y8 x9 y9 x10 y10 x11 y11 x12 y12 x13 y13
  go_wp2_with fail
  refine (view_same _ _ _ _ _ _ _ _ _ _ ⟨mem, fl, rows, clk, seen⟩ _ (HV1.out.keep0 KK.out) (HV2.out.keep0 KK.out) HFew.out).mono ?_
  rintro e W ⟨rfl, hk⟩
  have BX := Lib.hid (BX.out.keep hk (fun h => h))
  have BY := Lib.hid (BY.out.keep hk (fun h => h))
  have KK := Lib.hid (keep0_trans _ _ _ KK.out hk)
  clear hk
  clear x0 y0 x1 y1 x2 y2 x3 y3 x4 y4 x5 y5 x6 y6 x7 y7 x8 y8 x9 y9 x10 y10 x11 y11 x12 y12 x13 y13
  go_wp2
  go_ret
  exact ⟨rfl, KK.out⟩
end Go.Proofs.YtgoldgamjogadaaGreat
