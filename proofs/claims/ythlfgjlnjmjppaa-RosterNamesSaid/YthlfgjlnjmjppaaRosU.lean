/-
  Roster: what Join never does; of two lives; Set, Next, Oldest.
-/
import Derived.Test.YthlfgjlnjmjppaaRosT
namespace Go.Proofs.Ythlfgjlnjmjppaa

theorem getT_some {l : List Mem} {p : ID} {y : Mem} (h : getT l p = some y) : y ∈ l ∧ y.id = p :=
  ⟨List.mem_of_find?_eq_some h, by have := List.find?_some h; exact of_decide_eq_true this⟩
theorem getT_none {l : List Mem} {p : ID} (h : getT l p = none) : ∀ y ∈ l, y.id ≠ p := fun y hy he => by
  have := List.find?_eq_none.1 h y hy
  exact this (decide_eq_true he)
theorem nat_of_may {p : ID} (h : mayID p = true) : ∃ a : Nat, p.1 = (a : Int) ∧ 1 ≤ a ∧ a ≤ 12 ∧ 1 ≤ p.2 := by
  have h : 1 ≤ p.1 ∧ p.1 ≤ 12 ∧ 1 ≤ p.2 ∧ p.2 ≤ 1048576 := by simpa [mayID] using h
  obtain ⟨a, ha⟩ := Int.eq_ofNat_of_zero_le (show 0 ≤ p.1 by omega)
  exact ⟨a, ha, by omega, by omega, by omega⟩
theorem J_here {M : List Mem} {F : List ID} {y : Mem} (h : y ∈ (J M F).1) : floorT (J M F).2 y.addr < y.inc := by
  obtain ⟨a, h1, h2, h3, rfl⟩ := J_mem.1 h
  rw [floor_J M F a h1 h2]; exact h3
theorem J_floor {M : List Mem} {F : List ID} {p : ID} (h : p ∈ F) (hm : mayID p = true) : p.2 ≤ floorT (J M F).2 p.1 := by
  obtain ⟨a, ha, h1, h2, _⟩ := nat_of_may hm
  obtain ⟨b, u⟩ := p
  simp only at ha
  subst ha
  rw [floor_J M F a h1 h2]
  exact (spV M F a).f3 u ⟨h, hm⟩
/-- an entry is gone, or there, and no less -/
theorem J_entry {M : List Mem} {F : List ID} {x : Mem} (h : x ∈ M) (hok : okE x = true) : x.inc ≤ floorT (J M F).2 x.addr ∨
    ∃ y ∈ (J M F).1, y.id = x.id ∧ x.st ≤ y.st ∧ (0 < x.no → y.no ≤ x.no ∧ y.no ≠ 0) := by
  obtain ⟨b, i, st, no⟩ := x
  have hb := okE_bd hok
  simp only at hb ⊢
  obtain ⟨a, rfl⟩ := Int.eq_ofNat_of_zero_le (show 0 ≤ b by omega)
  rw [floor_J M F a (by omega) (by omega)]
  have sp := spV M F a
  have hin : (⟨(a : Int), i, st, no⟩ : Mem) ∈ M.filter okE := List.mem_filter.2 ⟨h, hok⟩
  by_cases hg : i ≤ (V M F a).2.1
  · exact .inl hg
  · have hn := sp.n2 _ _ _ hin
    have hlt : ¬ i < (V M F a).1 := fun q => by have := sp.f2 _ _ _ hin (.inr q); omega
    have e : i = (V M F a).1 := by omega
    have h3 : (V M F a).2.1 < (V M F a).1 := by omega
    refine .inr ⟨_, J_mem.2 ⟨a, by omega, by omega, h3, rfl⟩, ?_, ?_, ?_⟩
    · rw [e]
    · exact sp.s2 st no (by rw [← e]; exact hin)
    · intro h0
      exact ⟨sp.m3 st no (by rw [← e]; exact hin) h0, fun q => by have := sp.m2 q st no (by rw [← e]; exact hin); omega⟩
theorem J_id_uniq {M : List Mem} {F : List ID} {x y : Mem} (hx : x ∈ (J M F).1) (hy : y ∈ (J M F).1) (h : x.addr = y.addr) : x = y :=
  pw_uniq (key := fun x : Mem => x.addr) (J_sorted M F) x hx y hy h

theorem never_gone (a b : LI) (p : ID) (y : Mem) (h : getT (joinL a b).1 p = some y) : goneT (joinL a b).2 p = false := by
  rw [joinL_eq] at h ⊢
  obtain ⟨h1, h2⟩ := getT_some h
  have := J_here h1
  subst h2
  exact decide_eq_false (Int.not_le.2 this)
theorem never_floor (a b : LI) (p : ID) (h : p ∈ a.2 ∨ p ∈ b.2) (hm : mayID p = true) : p.2 ≤ floorT (joinL a b).2 p.1 := by
  rw [joinL_eq]
  exact J_floor (List.mem_append.2 h) hm
theorem never_less (a b : LI) (x : Mem) (h : x ∈ a.1 ∨ x ∈ b.1) (hok : okE x = true) : (getT (joinL a b).1 x.id = none → goneT (joinL a b).2 x.id = true) ∧
    ∀ y, getT (joinL a b).1 x.id = some y → x.st ≤ y.st ∧ (0 < x.no → y.no ≤ x.no ∧ y.no ≠ 0) := by
  rw [joinL_eq]
  rcases J_entry (M := a.1 ++ b.1) (F := a.2 ++ b.2) (List.mem_append.2 h) hok with q | ⟨y, hy, e, q⟩
  · refine ⟨fun _ => decide_eq_true q, fun y hy => ?_⟩
    obtain ⟨h1, h2⟩ := getT_some hy
    have := J_here h1
    injection h2 with e1 e2
    rw [e1, e2] at this
    omega
  · refine ⟨fun hn => absurd e (getT_none hn y hy), fun z hz => ?_⟩
    obtain ⟨h1, h2⟩ := getT_some hz
    have : z = y := J_id_uniq h1 hy (by have := h2.trans e.symm; injection this)
    rw [this]; exact q

theorem atT_spec (a : Int) : ∀ (l : List Mem), (atT l a = none → ∀ x ∈ l, x.addr ≠ a) ∧ ∀ y, atT l a = some y → y ∈ l ∧ y.addr = a ∧ ∀ x ∈ l, x.addr = a → x.inc ≤ y.inc := by
  have go : ∀ (l : List Mem) (o : Option Mem), (∀ y, o = some y → y.addr = a) →
      ((l.foldl (fun o x => match o with | none => if x.addr = a then some x else none | some y => if x.addr = a ∧ y.inc < x.inc then some x else some y) o = none → o = none ∧ ∀ x ∈ l, x.addr ≠ a) ∧
      ∀ y, l.foldl (fun o x => match o with | none => if x.addr = a then some x else none | some y => if x.addr = a ∧ y.inc < x.inc then some x else some y) o = some y → (o = some y ∨ y ∈ l) ∧ y.addr = a ∧ (∀ x ∈ l, x.addr = a → x.inc ≤ y.inc) ∧ ∀ z, o = some z → z.inc ≤ y.inc) := by
    intro l
    induction l with
    | nil =>
      intro o ho
      refine ⟨fun h => ⟨h, fun x hx => by cases hx⟩, fun y h => ⟨.inl h, ho y h, (fun x hx => by cases hx), fun z hz => ?_⟩⟩
      simp only [List.foldl_nil] at h
      rw [h] at hz; injection hz with hz; subst hz; exact Int.le_refl _
    | cons x l ih =>
      intro o ho
      simp only [List.foldl_cons]
      cases o with
      | none =>
        by_cases hx : x.addr = a
        · rw [if_pos hx]
          obtain ⟨i1, i2⟩ := ih (some x) (fun y h => (by injection h with h; subst h; exact hx))
          refine ⟨fun h => (by have := (i1 h).1; cases this), fun y h => ?_⟩
          obtain ⟨q1, q2, q3, q4⟩ := i2 y h
          refine ⟨.inr ?_, q2, fun z hz hza => ?_, fun z hz => by cases hz⟩
          · rcases q1 with q | q
            · injection q with q; subst q; exact List.mem_cons_self
            · exact List.mem_cons_of_mem _ q
          · rcases List.mem_cons.1 hz with rfl | hz
            · exact q4 _ rfl
            · exact q3 z hz hza
        · rw [if_neg hx]
          obtain ⟨i1, i2⟩ := ih none (fun y h => by cases h)
          refine ⟨fun h => ⟨rfl, fun z hz => ?_⟩, fun y h => ?_⟩
          · rcases List.mem_cons.1 hz with rfl | hz
            · exact hx
            · exact (i1 h).2 z hz
          · obtain ⟨q1, q2, q3, _⟩ := i2 y h
            refine ⟨.inr ?_, q2, fun z hz hza => ?_, fun z hz => by cases hz⟩
            · rcases q1 with q | q
              · cases q
              · exact List.mem_cons_of_mem _ q
            · rcases List.mem_cons.1 hz with rfl | hz
              · exact absurd hza hx
              · exact q3 z hz hza
      | some w =>
        have hw := ho w rfl
        by_cases hx : x.addr = a ∧ w.inc < x.inc
        · simp only [if_pos hx]
          obtain ⟨i1, i2⟩ := ih (some x) (fun y h => by injection h with h; subst h; exact hx.1)
          refine ⟨fun h => (by have := (i1 h).1; cases this), fun y h => ?_⟩
          obtain ⟨q1, q2, q3, q4⟩ := i2 y h
          have := q4 x rfl
          refine ⟨.inr ?_, q2, fun z hz hza => ?_, fun z hz => by injection hz with hz; subst hz; omega⟩
          · rcases q1 with q | q
            · injection q with q; subst q; exact List.mem_cons_self
            · exact List.mem_cons_of_mem _ q
          · rcases List.mem_cons.1 hz with rfl | hz
            · exact q4 _ rfl
            · exact q3 z hz hza
        · simp only [if_neg hx]
          obtain ⟨i1, i2⟩ := ih (some w) (fun y h => by injection h with h; subst h; exact hw)
          refine ⟨fun h => (by have := (i1 h).1; cases this), fun y h => ?_⟩
          obtain ⟨q1, q2, q3, q4⟩ := i2 y h
          have := q4 w rfl
          refine ⟨?_, q2, fun z hz hza => ?_, q4⟩
          · rcases q1 with q | q
            · exact .inl q
            · exact .inr (List.mem_cons_of_mem _ q)
          · rcases List.mem_cons.1 hz with rfl | hz
            · by_cases hlt : w.inc < z.inc
              · exact absurd ⟨hza, hlt⟩ hx
              · omega
            · exact q3 z hz hza
  intro l
  obtain ⟨i1, i2⟩ := go l none (fun y h => by cases h)
  refine ⟨fun h => (i1 h).2, fun y h => ?_⟩
  obtain ⟨q1, q2, q3, _⟩ := i2 y h
  refine ⟨?_, q2, q3⟩
  rcases q1 with q | q
  · cases q
  · exact q

theorem life (a : LI) (x y : Mem) (hx : okE x = true) (_hx6 : x.st ≤ 6) (hy : okE y = true) (_hy6 : y.st ≤ 6) (hxy : y.addr = x.addr) (hlt : x.inc < y.inc) :
    getT (joinL a ([x, y], [])).1 x.id = none ∧ goneT (joinL a ([x, y], [])).2 x.id = true ∧ (getT (joinL a ([x, y], [])).1 y.id).isSome = !goneT (joinL a ([x, y], [])).2 y.id ∧
    (∀ z, atT (joinL a ([x, y], [])).1 x.addr = some z → y.inc ≤ z.inc) ∧ ((getT (joinL a ([x, y], [])).1 y.id).isSome = true → ∃ z, atT (joinL a ([x, y], [])).1 x.addr = some z ∧ z.id = y.id) := by
  rw [joinL_eq]
  generalize hM : a.1 ++ ([x, y], ([] : List ID)).1 = M
  generalize a.2 ++ ([x, y], ([] : List ID)).2 = F
  have mx : x ∈ M := by rw [← hM]; simp
  have my : y ∈ M := by rw [← hM]; simp
  clear hM
  have hb := okE_bd hx
  have hb' := okE_bd hy
  obtain ⟨n, hn⟩ := Int.eq_ofNat_of_zero_le (show 0 ≤ x.addr by omega)
  have sp := spV M F n
  have hxin : (⟨(n : Int), x.inc, x.st, x.no⟩ : Mem) ∈ M.filter okE := by rw [← mem_of hn]; exact List.mem_filter.2 ⟨mx, hx⟩
  have hyin : (⟨(n : Int), y.inc, y.st, y.no⟩ : Mem) ∈ M.filter okE := by rw [← mem_of (hxy.trans hn)]; exact List.mem_filter.2 ⟨my, hy⟩
  have hNy := sp.n2 _ _ _ hyin
  have hFx := sp.f2 _ _ _ hxin (.inr (by omega))
  have hfl := floor_J M F n (by omega) (by omega)
  have hgx : goneT (J M F).2 x.id = true := by
    refine decide_eq_true ?_
    show x.inc ≤ floorT (J M F).2 x.addr
    rw [hn, hfl]; exact hFx
  have here : ∀ z ∈ (J M F).1, z.addr = x.addr → z.inc = (V M F n).1 := by
    intro z hz he
    obtain ⟨m, _, _, _, rfl⟩ := J_mem.1 hz
    simp only at he
    have : m = n := by omega
    subst this; rfl
  refine ⟨?_, hgx, ?_, ?_, ?_⟩
  · cases hg : getT (J M F).1 x.id with
    | none => rfl
    | some z =>
      obtain ⟨h1, h2⟩ := getT_some hg
      have := J_here h1
      injection h2 with e1 e2
      rw [e1, e2, hn, hfl] at this
      omega
  · cases hg : getT (J M F).1 y.id with
    | none =>
      have : goneT (J M F).2 y.id = true := by
        rcases J_entry (F := F) my hy with q | ⟨z, hz, e, _⟩
        · exact decide_eq_true q
        · exact absurd e (getT_none hg z hz)
      rw [this]; rfl
    | some z =>
      obtain ⟨h1, h2⟩ := getT_some hg
      have := J_here h1
      injection h2 with e1 e2
      rw [e1, e2] at this
      have : goneT (J M F).2 y.id = false := decide_eq_false (by show ¬ y.inc ≤ floorT (J M F).2 y.addr; omega)
      rw [this]; rfl
  · intro z hz
    obtain ⟨h1, h2, _⟩ := (atT_spec x.addr (J M F).1).2 z hz
    rw [here z h1 h2]; exact hNy
  · intro his
    cases hg : getT (J M F).1 y.id with
    | none => rw [hg] at his; cases his
    | some z =>
      obtain ⟨h1, h2⟩ := getT_some hg
      have hza : z.addr = x.addr := by injection h2 with e1 _; rw [e1, hxy]
      cases ha : atT (J M F).1 x.addr with
      | none => exact absurd hza ((atT_spec x.addr (J M F).1).1 ha z h1)
      | some v =>
        obtain ⟨g1, g2, _⟩ := (atT_spec x.addr (J M F).1).2 v ha
        have : v = z := J_id_uniq g1 h1 (by rw [g2, hza])
        exact ⟨v, rfl, by rw [this]; exact h2⟩

theorem V_other (M : List Mem) (F : List ID) (x : Mem) (a : Nat) (h : x.addr ≠ (a : Int)) : V (M ++ [x]) F a = V M F a := by
  obtain ⟨e1, e2, e3, e4⟩ := (spV (M ++ [x]) F a).uniq (spV M F a) (fun i st no => by
    simp only [List.mem_filter, List.mem_append, List.mem_singleton]
    constructor
    · rintro ⟨q | q, q'⟩
      · exact ⟨q, q'⟩
      · rw [← q] at h; exact absurd rfl h
    · rintro ⟨q, q'⟩
      exact ⟨.inl q, q'⟩) (fun u => Iff.rfl)
  apply Prod.ext e1; apply Prod.ext e2; exact Prod.ext e3 e4
theorem at_J (M : List Mem) (F : List ID) (b : Int) : atT (J M F).1 b = if 1 ≤ b ∧ b ≤ 12 ∧ (V M F b.toNat).2.1 < (V M F b.toNat).1 then some ⟨b, (V M F b.toNat).1, (V M F b.toNat).2.2.1, (V M F b.toNat).2.2.2⟩ else none := by
  split
  · rename_i hc
    obtain ⟨n, rfl⟩ := Int.eq_ofNat_of_zero_le (show 0 ≤ b by omega)
    simp only [Int.toNat_natCast] at hc ⊢
    have hm : (⟨(n : Int), (V M F n).1, (V M F n).2.2.1, (V M F n).2.2.2⟩ : Mem) ∈ (J M F).1 := J_mem.2 ⟨n, by omega, by omega, hc.2.2, rfl⟩
    cases ha : atT (J M F).1 (n : Int) with
    | none => exact absurd rfl ((atT_spec _ _).1 ha _ hm)
    | some v =>
      obtain ⟨g1, g2, _⟩ := (atT_spec _ _).2 v ha
      rw [J_id_uniq g1 hm g2]
  · rename_i hc
    cases ha : atT (J M F).1 b with
    | none => rfl
    | some v =>
      obtain ⟨g1, g2, _⟩ := (atT_spec _ _).2 v ha
      obtain ⟨n, h1, h2, h3, rfl⟩ := J_mem.1 g1
      simp only at g2
      subst g2
      exact absurd ⟨by omega, by omega, by rw [Int.toNat_natCast]; exact h3⟩ hc
theorem set_other (a : LI) (x : Mem) (b : Int) (h : b ≠ x.addr) : atT (joinL a ([], [])).1 b = atT (joinL a ([x], [])).1 b ∧ floorT (joinL a ([], [])).2 b = floorT (joinL a ([x], [])).2 b := by
  rw [joinL_eq, joinL_eq]
  simp only [List.append_nil]
  by_cases hb : 1 ≤ b ∧ b ≤ 12
  · obtain ⟨n, rfl⟩ := Int.eq_ofNat_of_zero_le (show 0 ≤ b by omega)
    have e := V_other a.1 a.2 x n (fun q => h q.symm)
    refine ⟨?_, ?_⟩
    · rw [at_J, at_J, Int.toNat_natCast, e]
    · rw [floor_J _ _ n (by omega) (by omega), floor_J _ _ n (by omega) (by omega), e]
  · refine ⟨?_, ?_⟩
    · rw [at_J, at_J, if_neg (fun q => hb ⟨q.1, q.2.1⟩), if_neg (fun q => hb ⟨q.1, q.2.1⟩)]
    · rw [floor_out _ _ b (by omega), floor_out _ _ b (by omega)]
theorem old_spec (l : List Mem) : ∀ x ∈ l, 0 < x.no → 0 < (oldT l).no ∧ (oldT l).no ≤ x.no := by
  have go : ∀ (l : List Mem) (o : Mem), 0 ≤ o.no → (0 < o.no → 0 < (l.foldl oldStep o).no ∧ (l.foldl oldStep o).no ≤ o.no) ∧ ∀ x ∈ l, 0 < x.no → 0 < (l.foldl oldStep o).no ∧ (l.foldl oldStep o).no ≤ x.no := by
    intro l
    induction l with
    | nil => intro o _; exact ⟨fun h => ⟨h, Int.le_refl _⟩, fun x hx => by cases hx⟩
    | cons y l ih =>
      intro o h0
      simp only [List.foldl_cons]
      by_cases hc : oldC o y
      · have e : oldStep o y = y := if_pos hc
        rw [e]
        obtain ⟨i1, i2⟩ := ih y (by have := hc.1; omega)
        have h1 := i1 hc.1
        refine ⟨fun h => ⟨h1.1, ?_⟩, fun x hx hp => ?_⟩
        · rcases hc.2 with q | q | q
          · omega
          · omega
          · omega
        · rcases List.mem_cons.1 hx with rfl | hx
          · exact h1
          · exact i2 x hx hp
      · have e : oldStep o y = o := if_neg hc
        rw [e]
        obtain ⟨i1, i2⟩ := ih o h0
        refine ⟨i1, fun x hx hp => ?_⟩
        rcases List.mem_cons.1 hx with rfl | hx
        · have h2 : o.no ≠ 0 := fun q => hc ⟨hp, .inl q⟩
          have h3 : ¬ x.no < o.no := fun q => hc ⟨hp, .inr (.inl q)⟩
          have := i1 (by omega)
          exact ⟨this.1, by omega⟩
        · exact i2 x hx hp
  exact (go l zeroMem (by decide)).2
theorem max_spec (l : List Mem) : ∀ x ∈ l, x.no ≤ maxNo l := by
  have go : ∀ (l : List Mem) (v : Int), v ≤ l.foldl (fun n x => max n x.no) v ∧ ∀ x ∈ l, x.no ≤ l.foldl (fun n x => max n x.no) v := by
    intro l
    induction l with
    | nil => intro v; exact ⟨Int.le_refl _, fun x hx => by cases hx⟩
    | cons y l ih =>
      intro v
      simp only [List.foldl_cons]
      obtain ⟨i1, i2⟩ := ih (max v y.no)
      refine ⟨by omega, fun x hx => ?_⟩
      rcases List.mem_cons.1 hx with rfl | hx
      · omega
      · exact i2 x hx
  exact (go l 0).2
theorem next_spec (l : List Mem) : (∀ x ∈ l, x.no < 1099511627776 → x.no < nextT l) ∧ 1 ≤ nextT l := by
  have h0 := maxNo_nonneg l
  refine ⟨fun x hx hlt => ?_, ?_⟩
  · have := max_spec l x hx
    unfold nextT; split <;> omega
  · unfold nextT; split <;> omega
end Go.Proofs.Ythlfgjlnjmjppaa
