/-
  Roster: Join's answer by what stands in it.
-/
import Derived.Test.YthlfgjlnjmjppaaRosQ
namespace Go.Proofs.Ythlfgjlnjmjppaa

theorem foldmax {α : Type} (p : α → Prop) [DecidablePred p] (g : α → Int) : ∀ (l : List α) (v : Int), v ≤ l.foldl (fun n x => if p x then max n (g x) else n) v ∧ (l.foldl (fun n x => if p x then max n (g x) else n) v = v ∨ ∃ x ∈ l, p x ∧ g x = l.foldl (fun n x => if p x then max n (g x) else n) v) ∧
    ∀ x ∈ l, p x → g x ≤ l.foldl (fun n x => if p x then max n (g x) else n) v
  | [], v => ⟨Int.le_refl _, .inl rfl, fun x hx => by cases hx⟩
  | y :: l, v => by
    have ih := foldmax p g l (if p y then max v (g y) else v)
    simp only [List.foldl_cons]
    generalize l.foldl (fun n x => if p x then max n (g x) else n) (if p y then max v (g y) else v) = r at *
    obtain ⟨h1, h2, h3⟩ := ih
    by_cases hp : p y
    · rw [if_pos hp] at h1 h2
      refine ⟨by omega, ?_, ?_⟩
      · rcases h2 with h2 | ⟨x, hx, h2⟩
        · by_cases hv : v ≤ g y
          · exact .inr ⟨y, List.mem_cons_self, hp, by omega⟩
          · exact .inl (by omega)
        · exact .inr ⟨x, List.mem_cons_of_mem _ hx, h2⟩
      · intro x hx hpx
        rcases List.mem_cons.1 hx with rfl | hx
        · omega
        · exact h3 x hx hpx
    · rw [if_neg hp] at h1 h2
      refine ⟨h1, ?_, ?_⟩
      · rcases h2 with h2 | ⟨x, hx, h2⟩
        · exact .inl h2
        · exact .inr ⟨x, List.mem_cons_of_mem _ hx, h2⟩
      · intro x hx hpx
        rcases List.mem_cons.1 hx with rfl | hx
        · exact absurd hpx hp
        · exact h3 x hx hpx

def snStep (p : ID) (s : Int × Int) (y : Mem) : Int × Int := if y.id = p then (max s.1 y.st, lessT s.2 y.no) else s
theorem snfold (p : ID) : ∀ (l : List Mem) (s n : Int), 0 ≤ n →
    s ≤ (l.foldl (snStep p) (s, n)).1 ∧ ((l.foldl (snStep p) (s, n)).1 = s ∨ ∃ y ∈ l, y.id = p ∧ y.st = (l.foldl (snStep p) (s, n)).1) ∧ (∀ y ∈ l, y.id = p → y.st ≤ (l.foldl (snStep p) (s, n)).1) ∧
    0 ≤ (l.foldl (snStep p) (s, n)).2 ∧ ((l.foldl (snStep p) (s, n)).2 = n ∨ ∃ y ∈ l, y.id = p ∧ y.no = (l.foldl (snStep p) (s, n)).2) ∧ ((l.foldl (snStep p) (s, n)).2 = 0 → n = 0 ∧ ∀ y ∈ l, y.id = p → y.no ≤ 0) ∧
    (∀ y ∈ l, y.id = p → 0 < y.no → (l.foldl (snStep p) (s, n)).2 ≤ y.no) ∧ (0 < n → (l.foldl (snStep p) (s, n)).2 ≤ n)
  | [], s, n, hn => ⟨Int.le_refl _, .inl rfl, (fun _ h => by cases h), hn, .inl rfl, fun h => ⟨h, fun _ h => by cases h⟩, (fun _ h => by cases h), fun _ => Int.le_refl _⟩
  | y :: l, s, n, hn => by
    simp only [List.foldl_cons]
    by_cases hp : y.id = p
    · have e : snStep p (s, n) y = (max s y.st, lessT n y.no) := by unfold snStep; rw [if_pos hp]
      rw [e]
      have hl : 0 ≤ lessT n y.no ∧ (lessT n y.no = 0 → n = 0 ∧ y.no ≤ 0) ∧ (lessT n y.no = n ∨ lessT n y.no = y.no) ∧ (0 < y.no → lessT n y.no ≤ y.no) ∧ (0 < n → lessT n y.no ≤ n) := by
        unfold lessT
        split
        · omega
        · split <;> omega
      obtain ⟨l0, l1, l2, l3, l4⟩ := hl
      generalize lessT n y.no = n1 at *
      obtain ⟨h1, h2, h3, h4, h5, h6, h7, h8⟩ := snfold p l (max s y.st) n1 l0
      generalize l.foldl (snStep p) (max s y.st, n1) = r at *
      have H2 := Lib.hid h2
      have H5 := Lib.hid h5
      clear h2 h5
      refine ⟨by omega, ?_, ?_, h4, ?_, ?_, ?_, ?_⟩
      · rcases H2.out with h2 | ⟨x, hx, h2⟩
        · by_cases hv : s ≤ y.st
          · exact .inr ⟨y, List.mem_cons_self, hp, by omega⟩
          · exact .inl (by omega)
        · exact .inr ⟨x, List.mem_cons_of_mem _ hx, h2⟩
      · intro x hx hpx
        rcases List.mem_cons.1 hx with rfl | hx
        · omega
        · exact h3 x hx hpx
      · rcases H5.out with h5 | ⟨x, hx, h5⟩
        · rcases l2 with l2 | l2
          · exact .inl (by omega)
          · exact .inr ⟨y, List.mem_cons_self, hp, by omega⟩
        · exact .inr ⟨x, List.mem_cons_of_mem _ hx, h5⟩
      · intro h0
        obtain ⟨q1, q2⟩ := h6 h0
        obtain ⟨q3, q4⟩ := l1 q1
        refine ⟨q3, fun x hx hpx => ?_⟩
        rcases List.mem_cons.1 hx with rfl | hx
        · exact q4
        · exact q2 x hx hpx
      · intro x hx hpx h0
        rcases List.mem_cons.1 hx with rfl | hx
        · have := l3 h0
          by_cases hz : 0 < n1
          · have := h8 hz; omega
          · have := (l1 (by omega)).2; omega
        · exact h7 x hx hpx h0
      · intro h0
        have := l4 h0
        by_cases hz : 0 < n1
        · have := h8 hz; omega
        · have := (l1 (by omega)).1; omega
    · have e : snStep p (s, n) y = (s, n) := by unfold snStep; rw [if_neg hp]
      rw [e]
      obtain ⟨h1, h2, h3, h4, h5, h6, h7, h8⟩ := snfold p l s n hn
      generalize l.foldl (snStep p) (s, n) = r at *
      refine ⟨h1, ?_, ?_, h4, ?_, ?_, ?_, h8⟩
      · exact h2.imp id fun ⟨x, hx, h⟩ => ⟨x, List.mem_cons_of_mem _ hx, h⟩
      · intro x hx hpx
        rcases List.mem_cons.1 hx with rfl | hx
        · exact absurd hpx hp
        · exact h3 x hx hpx
      · exact h5.imp id fun ⟨x, hx, h⟩ => ⟨x, List.mem_cons_of_mem _ hx, h⟩
      · intro h0
        refine ⟨(h6 h0).1, fun x hx hpx => ?_⟩
        rcases List.mem_cons.1 hx with rfl | hx
        · exact absurd hpx hp
        · exact (h6 h0).2 x hx hpx
      · intro x hx hpx h0
        rcases List.mem_cons.1 hx with rfl | hx
        · exact absurd hpx hp
        · exact h7 x hx hpx h0

/-- what Join says of an address -/
def valT (all : List Mem) (fs : List ID) (a : Nat) : Int × Int × Int × Int := (nwT all a, flT all fs a, (snT ((a : Int), nwT all a) all).1, (snT ((a : Int), nwT all a) all).2)
theorem mem_of {x : Mem} {a : Int} (h : x.addr = a) : x = ⟨a, x.inc, x.st, x.no⟩ := by subst h; rfl
theorem mem_id {x : Mem} {a i : Int} (h : x.id = (a, i)) : x = ⟨a, i, x.st, x.no⟩ := by
  obtain ⟨b, j, s, n⟩ := x
  injection h with h1 h2
  subst h1 h2
  rfl
theorem sp_of (all : List Mem) (fs : List ID) (a : Nat) : Sp (fun i st no => (⟨(a : Int), i, st, no⟩ : Mem) ∈ all) (fun u => ((a : Int), u) ∈ fs ∧ mayID ((a : Int), u) = true) (valT all fs a).1 (valT all fs a).2.1 (valT all fs a).2.2.1 (valT all fs a).2.2.2 := by
  have hN := foldmax (fun x : Mem => x.addr = (a : Int)) (·.inc) all 0
  have eN : nwT all a = all.foldl (fun n x => if x.addr = (a : Int) then max n x.inc else n) 0 := rfl
  rw [← eN] at hN
  have h1 := foldmax (fun x : Mem => x.addr = (a : Int) ∧ (x.st = 7 ∨ x.inc < nwT all a)) (·.inc) all 0
  have e1 : f1T (nwT all) all a = all.foldl (fun n x => if x.addr = (a : Int) ∧ (x.st = 7 ∨ x.inc < nwT all a) then max n x.inc else n) 0 := rfl
  rw [← e1] at h1
  have h2 := foldmax (fun p : ID => p.1 = (a : Int) ∧ mayID p = true) (·.2) fs (f1T (nwT all) all a)
  have e2 : flT all fs a = fs.foldl (fun n p => if p.1 = (a : Int) ∧ mayID p = true then max n p.2 else n) (f1T (nwT all) all a) := rfl
  rw [← e2] at h2
  have h3 := snfold ((a : Int), nwT all a) all 0 0 (by omega)
  have e3 : snT ((a : Int), nwT all a) all = all.foldl (snStep ((a : Int), nwT all a)) (0, 0) := rfl
  rw [← e3] at h3
  unfold valT
  generalize snT ((a : Int), nwT all a) all = sn at *
  generalize hNv : nwT all a = N at *
  generalize f1T (nwT all) all a = F1 at *
  generalize flT all fs a = F at *
  clear e1 e2 e3 eN hNv
  obtain ⟨s1, s2, s3, s4, s5, s6, s7, _⟩ := h3
  refine ⟨hN.1, ?_, ?_, Int.le_trans h1.1 h2.1, ?_, ?_, ?_, s1, ?_, ?_, s4, ?_, ?_, ?_⟩
  · rcases hN.2.1 with h | ⟨x, hx, h, h'⟩
    · exact .inl h
    · rw [mem_of h] at hx; exact .inr ⟨x.st, x.no, by rw [← h']; exact hx⟩
  · intro i st no h
    exact hN.2.2 _ h rfl
  · rcases h2.2.1 with h | ⟨p, hp, ⟨q1, q2⟩, q3⟩
    · rcases h1.2.1 with q | ⟨x, hx, ⟨q, q'⟩, q3⟩
      · exact .inl (h.trans q)
      · rw [mem_of q] at hx
        refine .inr (.inl ⟨x.st, x.no, ?_, ?_⟩)
        · show (⟨(a : Int), F, x.st, x.no⟩ : Mem) ∈ all
          rw [h, ← q3]; exact hx
        · simp only at q3 ⊢; rw [h, ← q3]; exact q'
    · obtain ⟨b, u⟩ := p
      simp only at q1 q3
      subst q1 q3
      exact .inr (.inr ⟨hp, q2⟩)
  · intro i st no h hc
    have := h1.2.2 _ h ⟨rfl, hc⟩
    have := h2.1
    simp only at *
    omega
  · intro u h
    exact h2.2.2 _ h.1 ⟨rfl, h.2⟩
  · rcases s2 with h | ⟨y, hy, h, h'⟩
    · exact .inl h
    · rw [mem_id h] at hy; exact .inr ⟨y.no, by rw [← h']; exact hy⟩
  · intro st no h
    exact s3 _ h rfl
  · rcases s5 with h | ⟨y, hy, h, h'⟩
    · exact .inl h
    · rw [mem_id h] at hy; exact .inr ⟨y.st, by rw [← h']; exact hy⟩
  · intro h0 st no h
    exact (s6 h0).2 _ h rfl
  · intro st no h h0
    exact s7 _ h rfl h0
end Go.Proofs.Ythlfgjlnjmjppaa
