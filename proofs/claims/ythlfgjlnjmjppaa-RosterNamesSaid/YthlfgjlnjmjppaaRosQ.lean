/-
  Roster: the plain law of Join: what it says of each address.
-/
import Derived.Test.YthlfgjlnjmjppaaRosN
namespace Go.Proofs.Ythlfgjlnjmjppaa

/-- of one address: entries e (incarnation, status, number), floors u; the newest N, the floor F, status s and number n of the newest -/
structure Sp (e : Int → Int → Int → Prop) (fl : Int → Prop) (N F s n : Int) : Prop where
  n0 : 0 ≤ N
  n1 : N = 0 ∨ ∃ st no, e N st no
  n2 : ∀ i st no, e i st no → i ≤ N
  f0 : 0 ≤ F
  f1 : F = 0 ∨ (∃ st no, e F st no ∧ (st = 7 ∨ F < N)) ∨ fl F
  f2 : ∀ i st no, e i st no → (st = 7 ∨ i < N) → i ≤ F
  f3 : ∀ u, fl u → u ≤ F
  s0 : 0 ≤ s
  s1 : s = 0 ∨ ∃ no, e N s no
  s2 : ∀ st no, e N st no → st ≤ s
  m0 : 0 ≤ n
  m1 : n = 0 ∨ ∃ st, e N st n
  m2 : n = 0 → ∀ st no, e N st no → no ≤ 0
  m3 : ∀ st no, e N st no → 0 < no → n ≤ no

theorem Sp.uniq {e e' : Int → Int → Int → Prop} {fl fl' : Int → Prop} {N F s n N' F' s' n' : Int} (h : Sp e fl N F s n) (h' : Sp e' fl' N' F' s' n') (he : ∀ i st no, e i st no ↔ e' i st no) (hf : ∀ u, fl u ↔ fl' u) :
    N = N' ∧ F = F' ∧ s = s' ∧ n = n' := by
  have hN : N = N' := by
    have a1 := h.n0
    have a2 := h'.n0
    rcases h.n1 with q | ⟨st, no, q⟩
    · rcases h'.n1 with r | ⟨st', no', r⟩
      · omega
      · have := h.n2 _ _ _ ((he _ _ _).2 r); omega
    · have b1 := h'.n2 _ _ _ ((he _ _ _).1 q)
      rcases h'.n1 with r | ⟨st', no', r⟩
      · omega
      · have := h.n2 _ _ _ ((he _ _ _).2 r); omega
  subst hN
  refine ⟨rfl, ?_, ?_, ?_⟩
  · have a1 : F ≤ F' := by
      rcases h.f1 with q | ⟨st, no, q, r⟩ | q
      · have := h'.f0; omega
      · exact h'.f2 _ _ _ ((he _ _ _).1 q) r
      · exact h'.f3 _ ((hf _).1 q)
    have a2 : F' ≤ F := by
      rcases h'.f1 with q | ⟨st, no, q, r⟩ | q
      · have := h.f0; omega
      · exact h.f2 _ _ _ ((he _ _ _).2 q) r
      · exact h.f3 _ ((hf _).2 q)
    omega
  · have a1 : s ≤ s' := by
      rcases h.s1 with q | ⟨no, q⟩
      · have := h'.s0; omega
      · exact h'.s2 _ _ ((he _ _ _).1 q)
    have a2 : s' ≤ s := by
      rcases h'.s1 with q | ⟨no, q⟩
      · have := h.s0; omega
      · exact h.s2 _ _ ((he _ _ _).2 q)
    omega
  · have x0 := h.m0
    have y0 := h'.m0
    rcases h.m1 with q | ⟨st, q⟩
    · rcases h'.m1 with r | ⟨st', r⟩
      · omega
      · have := h.m2 q _ _ ((he _ _ _).2 r); omega
    · by_cases hn : n = 0
      · rcases h'.m1 with r | ⟨st', r⟩
        · omega
        · have := h.m2 hn _ _ ((he _ _ _).2 r); omega
      · have b1 := h'.m3 _ _ ((he _ _ _).1 q) (by omega)
        rcases h'.m1 with r | ⟨st', r⟩
        · have := h'.m2 r _ _ ((he _ _ _).1 q); omega
        · by_cases hn' : n' = 0
          · have := h'.m2 hn' _ _ ((he _ _ _).1 q); omega
          · have := h.m3 _ _ ((he _ _ _).2 r) (by omega); omega

/-- entries and floors, and the same where the first ones stand for what Join says of them -/
theorem Sp.absorb {e1 e2 ea eb : Int → Int → Int → Prop} {g1 g2 ga gb : Int → Prop} {N1 F1 s1 n1 N F s n N' F' s' n' : Int} (h1 : Sp e1 g1 N1 F1 s1 n1) (pos : ∀ i st no, e1 i st no → 1 ≤ i)
    (ha : ∀ i st no, ea i st no ↔ e1 i st no ∨ e2 i st no) (hga : ∀ u, ga u ↔ g1 u ∨ g2 u)
    (hb : ∀ i st no, eb i st no ↔ (F1 < N1 ∧ i = N1 ∧ st = s1 ∧ no = n1) ∨ e2 i st no) (hgb : ∀ u, gb u ↔ (0 < F1 ∧ u = F1) ∨ g2 u)
    (h : Sp ea ga N F s n) (h' : Sp eb gb N' F' s' n') : F = F' ∧ (F < N ↔ F' < N') ∧ (F < N → N = N' ∧ s = s' ∧ n = n') := by
  have N1N : N1 ≤ N := by
    rcases h1.n1 with q | ⟨st, no, q⟩
    · have := h.n0; omega
    · exact h.n2 _ _ _ ((ha _ _ _).2 (.inl q))
  have N'N : N' ≤ N := by
    rcases h'.n1 with q | ⟨st, no, q⟩
    · have := h.n0; omega
    · rcases (hb _ _ _).1 q with ⟨_, r, _⟩ | r
      · omega
      · exact h.n2 _ _ _ ((ha _ _ _).2 (.inr r))
  have F1F : F1 ≤ F := by
    rcases h1.f1 with q | ⟨st, no, q, r⟩ | q
    · have := h.f0; omega
    · exact h.f2 _ _ _ ((ha _ _ _).2 (.inl q)) (r.imp id (fun r => by omega))
    · exact h.f3 _ ((hga _).2 (.inl q))
  have F1F' : F1 ≤ F' := by
    by_cases hp : 0 < F1
    · exact h'.f3 _ ((hgb _).2 (.inl ⟨hp, rfl⟩))
    · have := h'.f0; omega
  have live : F1 < N1 → s1 ≠ 7 := by
    intro hl e7
    rcases h1.s1 with q | ⟨no, q⟩
    · omega
    · rw [e7] at q
      have := h1.f2 _ _ _ q (.inl rfl); omega
  have att : F1 < N1 → ∃ st no, e1 N1 st no := by
    intro hl
    rcases h1.n1 with q | q
    · have := h1.f0; omega
    · exact q
  have hF1 : F' ≤ F := by
    rcases h'.f1 with q | ⟨st, no, q, r⟩ | q
    · have := h.f0; omega
    · rcases (hb _ _ _).1 q with ⟨hl, e1', e2', _⟩ | q2
      · rcases r with r | r
        · exact absurd (e2'.symm.trans r) (live hl)
        · obtain ⟨st0, no0, q0⟩ := att hl
          rw [e1']
          exact h.f2 _ _ _ ((ha _ _ _).2 (.inl q0)) (.inr (by omega))
      · exact h.f2 _ _ _ ((ha _ _ _).2 (.inr q2)) (r.imp id (fun r => by omega))
    · rcases (hgb _).1 q with ⟨_, q2⟩ | q2
      · omega
      · exact h.f3 _ ((hga _).2 (.inr q2))
  have NN' : (∃ st no, e2 N st no) → N = N' := by
    rintro ⟨st, no, q⟩
    have := h'.n2 _ _ _ ((hb _ _ _).2 (.inr q)); omega
  have hF2 : F ≤ F' := by
    rcases h.f1 with q | ⟨st, no, q, r⟩ | q
    · have := h'.f0; omega
    · rcases (ha _ _ _).1 q with q1 | q2
      · have p1 := pos _ _ _ q1
        rcases r with r | r
        · have := h1.f2 _ _ _ q1 (.inl r); omega
        · have l1 := h1.n2 _ _ _ q1
          by_cases hlt : F < N1
          · have := h1.f2 _ _ _ q1 (.inr hlt); omega
          · have e1' : F = N1 := by omega
            have : N = N' := by
              apply NN'
              rcases h.n1 with z | ⟨st', no', z⟩
              · omega
              · rcases (ha _ _ _).1 z with z | z
                · have := h1.n2 _ _ _ z; omega
                · exact ⟨_, _, z⟩
            by_cases hl : F1 < N1
            · have := h'.f2 N1 s1 n1 ((hb _ _ _).2 (.inl ⟨hl, rfl, rfl, rfl⟩)) (.inr (by omega)); omega
            · omega
      · rcases r with r | r
        · exact h'.f2 _ _ _ ((hb _ _ _).2 (.inr q2)) (.inl r)
        · by_cases hlt : F < N'
          · exact h'.f2 _ _ _ ((hb _ _ _).2 (.inr q2)) (.inr hlt)
          · rcases h.n1 with z | ⟨st', no', z⟩
            · have := h.f0; omega
            · rcases (ha _ _ _).1 z with z | z
              · have z1 := h1.n2 _ _ _ z
                by_cases hl : F1 < N1
                · have := h'.n2 N1 s1 n1 ((hb _ _ _).2 (.inl ⟨hl, rfl, rfl, rfl⟩)); omega
                · omega
              · have := NN' ⟨_, _, z⟩; omega
    · rcases (hga _).1 q with q1 | q2
      · have := h1.f3 _ q1; omega
      · exact h'.f3 _ ((hgb _).2 (.inr q2))
  have hF : F = F' := by omega
  have hNN : F < N → N = N' := by
    intro hl
    rcases h.n1 with z | ⟨st, no, z⟩
    · have := h.f0; omega
    · rcases (ha _ _ _).1 z with z | z
      · have z1 := h1.n2 _ _ _ z
        have := h'.n2 N1 s1 n1 ((hb _ _ _).2 (.inl ⟨by omega, rfl, rfl, rfl⟩)); omega
      · exact NN' ⟨_, _, z⟩
  refine ⟨hF, ⟨fun hl => by have := hNN hl; omega, fun hl => by omega⟩, fun hl => ?_⟩
  have eN := hNN hl
  subst eN
  refine ⟨rfl, ?_, ?_⟩
  · have a1 : s ≤ s' := by
      rcases h.s1 with q | ⟨no, q⟩
      · have := h'.s0; omega
      · rcases (ha _ _ _).1 q with q1 | q2
        · have z1 := h1.n2 _ _ _ q1
          have e : N = N1 := by omega
          have z2 := h1.s2 s no (by rw [← e]; exact q1)
          have := h'.s2 s1 n1 ((hb _ _ _).2 (.inl ⟨by omega, e, rfl, rfl⟩)); omega
        · exact h'.s2 _ _ ((hb _ _ _).2 (.inr q2))
    have a2 : s' ≤ s := by
      rcases h'.s1 with q | ⟨no, q⟩
      · have := h.s0; omega
      · rcases (hb _ _ _).1 q with ⟨z1, z2, z3, _⟩ | q2
        · rcases h1.s1 with y | ⟨no0, y⟩
          · have := h.s0; omega
          · have := h.s2 s1 no0 ((ha _ _ _).2 (.inl (by rw [z2]; exact y))); omega
        · exact h.s2 _ _ ((ha _ _ _).2 (.inr q2))
    omega
  · have x0 := h.m0
    have y0 := h'.m0
    -- a number of the one is one of the other, or no less
    have k1 : 0 < n → n' ≤ n ∧ n' ≠ 0 := by
      intro hn
      rcases h.m1 with q | ⟨st, q⟩
      · omega
      · rcases (ha _ _ _).1 q with q1 | q2
        · have z1 := h1.n2 _ _ _ q1
          have e : N = N1 := by omega
          have q1' : e1 N1 st n := by rw [← e]; exact q1
          have hn1 : n1 ≠ 0 := fun z => by have := h1.m2 z _ _ q1'; omega
          have z2 := h1.m3 _ _ q1' hn
          have z0 := h1.m0
          have eb1 : eb N s1 n1 := (hb _ _ _).2 (.inl ⟨by omega, e, rfl, rfl⟩)
          have z3 := h'.m3 _ _ eb1 (by omega)
          exact ⟨by omega, fun z => by have := h'.m2 z _ _ eb1; omega⟩
        · have eb1 : eb N st n := (hb _ _ _).2 (.inr q2)
          exact ⟨h'.m3 _ _ eb1 hn, fun z => by have := h'.m2 z _ _ eb1; omega⟩
    have k2 : 0 < n' → n ≤ n' ∧ n ≠ 0 := by
      intro hn
      rcases h'.m1 with q | ⟨st, q⟩
      · omega
      · rcases (hb _ _ _).1 q with ⟨z1, z2, _, z4⟩ | q2
        · rcases h1.m1 with y | ⟨st0, y⟩
          · omega
          · have ea1 : ea N st0 n1 := (ha _ _ _).2 (.inl (by rw [z2]; exact y))
            exact ⟨by have := h.m3 _ _ ea1 (by omega); omega, fun z => by have := h.m2 z _ _ ea1; omega⟩
        · have ea1 : ea N st n' := (ha _ _ _).2 (.inr q2)
          exact ⟨h.m3 _ _ ea1 hn, fun z => by have := h.m2 z _ _ ea1; omega⟩
    by_cases hn : 0 < n
    · have := k1 hn
      have := k2 (by omega)
      omega
    · by_cases hn' : 0 < n'
      · have := k2 hn'; omega
      · omega
end Go.Proofs.Ythlfgjlnjmjppaa
