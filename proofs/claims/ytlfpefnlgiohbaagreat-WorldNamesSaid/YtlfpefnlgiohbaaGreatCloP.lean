/-
  Clocks: plain laws.
-/
import Derived.Test.YtlfpefnlgiohbaaGreatSetP
namespace Go.Proofs.YtlfpefnlgiohbaaGreat
set_option maxRecDepth 100000
abbrev Tick := ID × Int
def getS (id : ID) (n : Int) (t : Tick) : Int := if t.1 = id then max n t.2 else n
/-- what a clock says of an ID -/
def getM (c : List Tick) (id : ID) : Int := c.foldl (getS id) 0
theorem getS_ge (id : ID) : ∀ (c : List Tick) (n : Int), n ≤ c.foldl (getS id) n
  | [], n => Int.le_refl _
  | t :: c, n => by
    rw [List.foldl_cons]
    refine Int.le_trans ?_ (getS_ge id c _)
    unfold getS; split <;> omega
theorem getS_max (id : ID) : ∀ (c : List Tick) (n : Int), 0 ≤ n → c.foldl (getS id) n = max n (getM c id)
  | [], n, h => by simp [getM]; omega
  | t :: c, n, h => by
    unfold getM
    rw [List.foldl_cons, List.foldl_cons]
    by_cases e : t.1 = id
    · have h1 : getS id n t = max n t.2 := by unfold getS; rw [if_pos e]
      have h2 : getS id 0 t = max 0 t.2 := by unfold getS; rw [if_pos e]
      rw [h1, h2, getS_max id c _ (by omega), getS_max id c (max 0 t.2) (by omega)]
      omega
    · have h1 : getS id n t = n := by unfold getS; rw [if_neg e]
      have h2 : getS id 0 t = 0 := by unfold getS; rw [if_neg e]
      rw [h1, h2, getS_max id c n h]
      rfl
theorem getM_nn (c : List Tick) (id : ID) : 0 ≤ getM c id := getS_ge id c 0
theorem getM_cons (t : Tick) (c : List Tick) (id : ID) : getM (t :: c) id = if t.1 = id then max t.2 (getM c id) else getM c id := by
  have e : getM (t :: c) id = c.foldl (getS id) (getS id 0 t) := rfl
  have g : getS id 0 t = if t.1 = id then max 0 t.2 else 0 := rfl
  rw [e, g]
  split
  · rw [getS_max id c _ (by omega)]; have := getM_nn c id; omega
  · rfl
theorem getM_app (a b : List Tick) (id : ID) : getM (a ++ b) id = max (getM a id) (getM b id) := by
  have e : getM (a ++ b) id = b.foldl (getS id) (getM a id) := by unfold getM; rw [List.foldl_append]
  rw [e, getS_max id b _ (getM_nn a id)]
theorem getM_pos (id : ID) : ∀ (c : List Tick), 0 < getM c id ↔ ∃ t ∈ c, t.1 = id ∧ 0 < t.2
  | [] => by simp [getM]
  | t :: c => by
    rw [getM_cons]
    have ih := getM_pos id c
    have hn := getM_nn c id
    constructor
    · intro h
      by_cases e : t.1 = id
      · rw [if_pos e] at h
        by_cases h2 : 0 < t.2
        · exact ⟨t, by simp, e, h2⟩
        · obtain ⟨u, hu, hp⟩ := ih.1 (by omega)
          exact ⟨u, by simp [hu], hp⟩
      · rw [if_neg e] at h
        obtain ⟨u, hu, hp⟩ := ih.1 h
        exact ⟨u, by simp [hu], hp⟩
    · rintro ⟨u, hu, e, hp⟩
      rcases List.mem_cons.1 hu with rfl | hu
      · rw [if_pos e]; omega
      · have := ih.2 ⟨u, hu, e, hp⟩
        split <;> omega
/-- those of which one of two clocks says something -/
def idsM (a b : List Tick) : List ID := setM (((a ++ b).filter (fun t => decide (0 < t.2))).map (·.1))
theorem idsM_ris (a b : List Tick) : Ris (idsM a b) := setM_ris _
theorem idsM_mem (a b : List Tick) (id : ID) : id ∈ idsM a b ↔ 0 < max (getM a id) (getM b id) := by
  unfold idsM
  rw [setM_mem, ← getM_app, getM_pos]
  simp only [List.mem_map, List.mem_filter, decide_eq_true_eq]
  constructor
  · rintro ⟨t, ⟨h1, h2⟩, h3⟩; exact ⟨t, h1, h3, h2⟩
  · rintro ⟨t, h1, h3, h2⟩; exact ⟨t, ⟨h1, h2⟩, h3⟩
def joinM (a b : List Tick) : List Tick := (idsM a b).map (fun id => (id, max (getM a id) (getM b id)))
/-- the clock of a function on some IDs -/
theorem getM_map (f : ID → Int) (id : ID) : ∀ (l : List ID), l.Nodup → getM (l.map (fun i => (i, f i))) id = if id ∈ l then max 0 (f id) else 0
  | [], _ => by simp [getM]
  | i :: l, h => by
    rw [List.nodup_cons] at h
    rw [List.map_cons, getM_cons, getM_map f id l h.2]
    by_cases e : i = id
    · subst e
      rw [if_neg h.1]
      simp
      omega
    · have e2 : ¬ id = i := fun q => e q.symm
      simp [e, e2]
theorem getM_join (a b : List Tick) (id : ID) : getM (joinM a b) id = max (getM a id) (getM b id) := by
  unfold joinM
  rw [getM_map (fun id => max (getM a id) (getM b id)) id _ (idsM_ris a b).nodup]
  have ha := getM_nn a id
  have hb := getM_nn b id
  split
  · omega
  · rename_i h
    rw [idsM_mem] at h
    omega
theorem joinM_congr {a b c d : List Tick} (h : ∀ id, max (getM a id) (getM b id) = max (getM c id) (getM d id)) : joinM a b = joinM c d := by
  unfold joinM
  rw [ris_ext (idsM_ris a b) (idsM_ris c d) (fun x => by rw [idsM_mem, idsM_mem, h])]
  exact List.map_congr_left (fun x _ => by rw [h])
/-- a clock says no more of any ID than another one -/
def leC (a b : List Tick) : Prop := ∀ id, getM a id ≤ getM b id
def lessM (a b : List Tick) : Bool := (idsM a b).any (fun id => decide (getM a id < getM b id))
theorem lessM_eq (a b : List Tick) : lessM a b = false ↔ leC b a := by
  unfold lessM leC
  rw [List.any_eq_false]
  constructor
  · intro h id
    have ha := getM_nn a id
    have hb := getM_nn b id
    by_cases hm : id ∈ idsM a b
    · have := h id hm
      simp at this
      exact this
    · rw [idsM_mem] at hm
      omega
  · intro h id _
    have := h id
    simp; omega
theorem idsM_comm (a b : List Tick) : idsM a b = idsM b a := ris_ext (idsM_ris a b) (idsM_ris b a) (fun x => by rw [idsM_mem, idsM_mem, Int.max_comm])
def cmpM (a b : List Tick) : Int := if lessM a b = true ∧ lessM b a = true then 4 else if lessM a b = true then 2 else if lessM b a = true then 3 else 1
theorem cmpM_cases (a b : List Tick) : (leC a b ∧ leC b a ∧ cmpM a b = 1) ∨ (leC a b ∧ ¬ leC b a ∧ cmpM a b = 2) ∨ (¬ leC a b ∧ leC b a ∧ cmpM a b = 3) ∨ (¬ leC a b ∧ ¬ leC b a ∧ cmpM a b = 4) := by
  have h1 := lessM_eq a b
  have h2 := lessM_eq b a
  unfold cmpM
  cases e1 : lessM a b <;> cases e2 : lessM b a <;> simp_all
theorem cmpM_more (a b : List Tick) : (idsM a b).any (fun id => decide (getM a id > getM b id)) = lessM b a := by
  unfold lessM; rw [idsM_comm]
theorem leC_refl (a : List Tick) : leC a a := fun _ => Int.le_refl _
theorem leC_trans {a b c : List Tick} (h : leC a b) (k : leC b c) : leC a c := fun id => Int.le_trans (h id) (k id)
theorem leC_left (a b : List Tick) : leC a (joinM a b) := fun id => by rw [getM_join]; omega
theorem leC_right (a b : List Tick) : leC b (joinM a b) := fun id => by rw [getM_join]; omega
theorem leC_join {a b c : List Tick} (h : leC a c) (k : leC b c) : leC (joinM a b) c := fun id => by rw [getM_join]; have := h id; have := k id; omega
/-- may it be a clock? -/
def mayC (c : List Tick) : Prop := (∀ t ∈ c, mayID t.1 = true ∧ 1 ≤ t.2 ∧ t.2 ≤ 1099511627776) ∧ Ris (c.map (·.1)) ∧ c.length ≤ 64
theorem getM_ris {c : List Tick} (h : Ris (c.map (·.1))) (hp : ∀ t ∈ c, 0 < t.2) : ∀ t ∈ c, getM c t.1 = t.2 := by
  induction c with
  | nil => intro t h; cases h
  | cons u c ih =>
    unfold Ris at h
    rw [List.map_cons, List.pairwise_cons] at h
    intro t ht
    rw [getM_cons]
    have hu := hp u (by simp)
    rcases List.mem_cons.1 ht with e | e
    · subst e
      rw [if_pos rfl]
      have : getM c t.1 = 0 := by
        have hn := getM_nn c t.1
        have hz : ¬ 0 < getM c t.1 := fun hq => by
          obtain ⟨v, hv, e, _⟩ := (getM_pos t.1 c).1 hq
          have := h.1 v.1 (List.mem_map_of_mem hv)
          rw [e, lt_irr] at this; cases this
        omega
      omega
    · rw [if_neg (fun q => by have := h.1 t.1 (List.mem_map_of_mem e); rw [q, lt_irr] at this; cases this)]
      exact ih h.2 (fun t ht => hp t (by simp [ht])) t e
theorem idsM_of {c : List Tick} (h : Ris (c.map (·.1))) (hp : ∀ t ∈ c, 0 < t.2) (d : List Tick) (hd : leC d c) : idsM c d = c.map (·.1) := by
  refine ris_ext (idsM_ris _ _) h (fun x => ?_)
  rw [idsM_mem, List.mem_map]
  have := hd x
  constructor
  · intro hx
    obtain ⟨t, ht, e, _⟩ := (getM_pos x c).1 (by omega)
    exact ⟨t, ht, e⟩
  · rintro ⟨t, ht, rfl⟩
    have := getM_ris h hp t ht
    have := hp t ht
    omega
theorem joinM_of {c d : List Tick} (hc : mayC c) (hd : leC d c) : joinM c d = c := by
  have hp : ∀ t ∈ c, 0 < t.2 := fun t ht => by have := (hc.1 t ht).2.1; omega
  unfold joinM
  rw [idsM_of hc.2.1 hp d hd, List.map_map]
  have : ∀ t ∈ c, ((fun id => (id, max (getM c id) (getM d id))) ∘ fun x => x.fst) t = t := by
    intro t ht
    have h1 := getM_ris hc.2.1 hp t ht
    have h2 := hd t.1
    simp only [Function.comp]
    rw [show max (getM c t.1) (getM d t.1) = t.2 by omega]
  rw [List.map_congr_left this]
  simp
theorem joinM_comm (a b : List Tick) : joinM a b = joinM b a := joinM_congr (fun _ => Int.max_comm _ _)
theorem joinM_assoc (a b c : List Tick) : joinM (joinM a b) c = joinM a (joinM b c) := joinM_congr (fun id => by rw [getM_join, getM_join]; omega)
theorem joinM_len (a b : List Tick) : (joinM a b).length ≤ a.length + b.length := by
  unfold joinM idsM
  rw [List.length_map]
  refine Nat.le_trans (setM_len _) ?_
  rw [List.length_map]
  refine Nat.le_trans (List.length_filter_le _ _) ?_
  rw [List.length_append]
  exact Nat.le_refl _
theorem getM_in {c : List Tick} {id : ID} (h : 0 < getM c id) : ∃ t ∈ c, t.1 = id ∧ t.2 = getM c id := by
  induction c with
  | nil => simp [getM] at h
  | cons u c ih =>
    rw [getM_cons] at h ⊢
    by_cases e : u.1 = id
    · rw [if_pos e] at h ⊢
      by_cases hu : getM c id ≤ u.2
      · exact ⟨u, by simp, e, by omega⟩
      · obtain ⟨t, ht, h1, h2⟩ := ih (by have := getM_nn c id; omega)
        exact ⟨t, by simp [ht], h1, by omega⟩
    · rw [if_neg e] at h ⊢
      obtain ⟨t, ht, h1, h2⟩ := ih h
      exact ⟨t, by simp [ht], h1, h2⟩
theorem joinM_may' {a b : List Tick} (ha : ∀ t ∈ a, mayID t.1 = true ∧ 1 ≤ t.2 ∧ t.2 ≤ 1099511627776) (hb : ∀ t ∈ b, mayID t.1 = true ∧ 1 ≤ t.2 ∧ t.2 ≤ 1099511627776) (hl : (joinM a b).length ≤ 64) : mayC (joinM a b) := by
  refine ⟨fun t ht => ?_, ?_, hl⟩
  · unfold joinM at ht
    rw [List.mem_map] at ht
    obtain ⟨id, hid, rfl⟩ := ht
    rw [idsM_mem] at hid
    have na := getM_nn a id
    have nb := getM_nn b id
    have qa : 0 < getM a id → mayID id = true ∧ getM a id ≤ 1099511627776 := fun h => by
      obtain ⟨t, ht, h1, h2⟩ := getM_in h
      have := ha t ht
      rw [h1] at this
      exact ⟨this.1, by omega⟩
    have qb : 0 < getM b id → mayID id = true ∧ getM b id ≤ 1099511627776 := fun h => by
      obtain ⟨t, ht, h1, h2⟩ := getM_in h
      have := hb t ht
      rw [h1] at this
      exact ⟨this.1, by omega⟩
    refine ⟨?_, by simp only; omega, ?_⟩
    · by_cases h : 0 < getM a id
      · exact (qa h).1
      · exact (qb (by omega)).1
    · by_cases h : 0 < getM a id <;> by_cases h' : 0 < getM b id
      · have := (qa h).2; have := (qb h').2; simp only; omega
      · have := (qa h).2; simp only; omega
      · have := (qb h').2; simp only; omega
      · omega
  · unfold joinM
    rw [List.map_map]
    have : (fun x : Tick => x.1) ∘ (fun id => (id, max (getM a id) (getM b id))) = id := by funext x; rfl
    rw [this, List.map_id]
    exact idsM_ris a b
theorem joinM_may {a b : List Tick} (ha : mayC a) (hb : mayC b) (hl : a.length + b.length ≤ 64) : mayC (joinM a b) :=
  joinM_may' ha.1 hb.1 (Nat.le_trans (joinM_len a b) hl)
/-- the clock that says of an ID one more -/
def upC (c : List Tick) (id : ID) : List Tick := joinM c [(id, getM c id + 1)]
theorem getM_one (id x : ID) (n : Int) : getM [(id, n)] x = if id = x then max n 0 else 0 := by rw [getM_cons]; rfl
theorem getM_up (c : List Tick) (id x : ID) : getM (upC c id) x = if id = x then getM c x + 1 else getM c x := by
  unfold upC
  rw [getM_join, getM_one]
  have := getM_nn c x
  split
  · rename_i e; subst e; omega
  · omega
theorem up_two {c : List Tick} {a b : ID} (hab : a ≠ b) : upC (upC c a) b = joinM (upC c a) (upC c b) := by
  have e : upC (upC c a) b = joinM (upC c a) [(b, getM (upC c a) b + 1)] := rfl
  rw [e]
  apply joinM_congr
  intro id
  rw [getM_one, getM_up, getM_up, getM_up, if_neg hab]
  have := getM_nn c id
  have := getM_nn c b
  by_cases h1 : a = id
  · subst h1
    rw [if_pos rfl, if_neg (fun e => hab e.symm), if_neg (fun e => hab e.symm)]; omega
  · rw [if_neg h1]
    by_cases h2 : b = id
    · subst h2; simp; omega
    · rw [if_neg h2, if_neg h2]; omega
theorem up_apart {c : List Tick} {a b : ID} (hab : a ≠ b) : ¬ leC (upC c a) (upC c b) := fun h => by
  have := h a
  rw [getM_up, getM_up, if_pos rfl, if_neg (fun e => hab e.symm)] at this
  omega
end Go.Proofs.YtlfpefnlgiohbaaGreat
