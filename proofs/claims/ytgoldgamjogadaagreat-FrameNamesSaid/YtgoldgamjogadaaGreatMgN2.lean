/-
  Sets of IDs: plain laws: what rises, the set of a list, an ID in its place.
  Clocks: plain laws.
  The region that draws its order: operations behind a guard.
  The same for a region in the order of the text.
  Roster: the plain model.
  Roster: the leaves.
  Roster: Gone, Next, Oldest ..
  Roster: Get, At, numbered, Next.
  Roster: numbered, Next, Get, At.
  Roster: At.
-/
import Derived.Test.YtgoldgamjogadaaGreatMgN1
namespace Go.Proofs.YtgoldgamjogadaaGreat
theorem lt_irr (a : ID) : ltID a a = false := by simp [ltID]
theorem lt_trans {a b c : ID} (h : ltID a b = true) (k : ltID b c = true) : ltID a c = true := by
  simp only [ltID, decide_eq_true_eq] at *; omega
theorem lt_asym {a b : ID} (h : ltID a b = true) : ltID b a = false := by
  simp only [ltID, decide_eq_true_eq, decide_eq_false_iff_not] at *; omega
theorem lt_tri (a b : ID) : ltID a b = true ∨ a = b ∨ ltID b a = true := by
  obtain ⟨a1, a2⟩ := a
  obtain ⟨b1, b2⟩ := b
  simp only [ltID, decide_eq_true_eq, Prod.mk.injEq]; omega
theorem lt_ne {a b : ID} (h : ltID a b = true) : a ≠ b := by
  rintro rfl; rw [lt_irr] at h; cases h
theorem eq_of_nlt {a b : ID} (h : ltID a b = false) (k : ltID b a = false) : a = b := by
  rcases lt_tri a b with e | e | e
  · rw [e] at h; cases h
  · exact e
  · rw [e] at k; cases k

/-- each stands ahead of the next one -/
def Ris (l : List ID) : Prop := l.Pairwise (fun a b => ltID a b = true)
theorem ris_nil : Ris [] := List.Pairwise.nil
theorem ris_one (a : ID) : Ris [a] := List.pairwise_singleton _ _
theorem ris_ext : ∀ {l m : List ID}, Ris l → Ris m → (∀ x, x ∈ l ↔ x ∈ m) → l = m
  | [], [], _, _, _ => rfl
  | [], b :: m, _, _, h => by have := (h b).2 (by simp); cases this
  | a :: l, [], _, _, h => by have := (h a).1 (by simp); cases this
  | a :: l, b :: m, hl, hm, h => by
    unfold Ris at hl hm
    rw [List.pairwise_cons] at hl hm
    have e : a = b := by
      have h1 := (h a).1 (by simp)
      have h2 := (h b).2 (by simp)
      rw [List.mem_cons] at h1 h2
      rcases h1 with h1 | h1
      · exact h1
      · rcases h2 with h2 | h2
        · exact h2.symm
        · have q1 := hm.1 a h1
          have q2 := hl.1 b h2
          rw [lt_asym q1] at q2; cases q2
    subst e
    rw [ris_ext hl.2 hm.2 (fun x => ?_)]
    have hx := h x
    constructor
    · intro hxl
      have := hx.1 (List.mem_cons_of_mem _ hxl)
      rcases List.mem_cons.1 this with e | e
      · subst e; have := hl.1 x hxl; rw [lt_irr] at this; cases this
      · exact e
    · intro hxm
      have := hx.2 (List.mem_cons_of_mem _ hxm)
      rcases List.mem_cons.1 this with e | e
      · subst e; have := hm.1 x hxm; rw [lt_irr] at this; cases this
      · exact e
theorem Ris.filter {l : List ID} (h : Ris l) (p : ID → Bool) : Ris (l.filter p) := List.Pairwise.filter p h
theorem Ris.nodup {l : List ID} (h : Ris l) : l.Nodup := List.Pairwise.imp (fun h => lt_ne h) h
theorem Ris.sub {l m : List ID} (h : Ris m) (s : List.Sublist l m) : Ris l := List.Pairwise.sublist s h

/-- sorted: none stands ahead of one that is ahead of it -/
def sortM (l : List ID) : List ID := l.mergeSort (fun x y => !ltID y x)
theorem sortM_mem (l : List ID) (x : ID) : x ∈ sortM l ↔ x ∈ l := List.mem_mergeSort
theorem sortM_len (l : List ID) : (sortM l).length = l.length := List.length_mergeSort l
theorem sortM_pw (l : List ID) : (sortM l).Pairwise (fun a b => ltID b a = false) := by
  have h := List.pairwise_mergeSort (le := fun x y => !ltID y x) (fun a b c h k => by
    simp only [Bool.not_eq_true', ltID, decide_eq_false_iff_not] at *; omega) (fun a b => by
    simp only [Bool.or_eq_true, Bool.not_eq_true', ltID, decide_eq_false_iff_not]; omega) l
  exact h.imp (fun h => by simpa using h)
theorem dk_mem (l : List ID) : ∀ m, m ≤ l.length → ∀ x, x ∈ dk l m ↔ x ∈ l.take m
  | 0, _, x => by simp [dk]
  | m + 1, h, x => by
    have ih := dk_mem l m (by omega)
    have hl : m < l.length := by omega
    have e : l.getD m (0, 0) = l[m] := by simp [List.getD, hl]
    rw [List.take_succ_eq_append_getElem hl, List.mem_append, List.mem_singleton, ← ih x]
    rw [dk]
    split
    · rename_i hs
      constructor
      · exact fun h => .inl h
      · rintro (h | h)
        · exact h
        · rw [ih]
          subst h
          rw [← e, hs.2]
          have : m - 1 < l.length := by omega
          simp only [List.getD, List.getElem?_eq_getElem this, Option.getD_some]
          rw [List.mem_take_iff_getElem]
          exact ⟨m - 1, by omega, rfl⟩
    · rw [List.mem_append, List.mem_singleton, e]
theorem dk_last (l : List ID) : ∀ m, 1 ≤ m → (dk l m).getLast? = some (l.getD (m - 1) (0, 0))
  | 0, h => by omega
  | m + 1, _ => by
    unfold dk
    split
    · rename_i hs
      rw [dk_last l m hs.1, Nat.add_sub_cancel, hs.2]
    · simp
theorem dk_ris (l : List ID) (h : l.Pairwise (fun a b => ltID b a = false)) : ∀ m, m ≤ l.length → Ris (dk l m)
  | 0, _ => by simp [dk, Ris]
  | m + 1, hm => by
    have ih := dk_ris l h m (by omega)
    have hl : m < l.length := by omega
    unfold dk
    split
    · exact ih
    · rename_i hs
      unfold Ris
      rw [List.pairwise_append]
      refine ⟨ih, List.pairwise_singleton _ _, fun a ha b hb => ?_⟩
      rw [List.mem_singleton] at hb
      subst hb
      rw [dk_mem l m (by omega)] at ha
      rw [List.mem_take_iff_getElem] at ha
      obtain ⟨i, hi, rfl⟩ := ha
      have e : l.getD m (0, 0) = l[m] := by simp [List.getD, hl]
      have e1 : l.getD (m - 1) (0, 0) = l[m - 1] := by simp [List.getD, (by omega : m - 1 < l.length)]
      have hm1 : 1 ≤ m := by omega
      rw [e, e1] at hs
      rw [e]
      have hP := List.pairwise_iff_getElem.1 h
      have q1 : ltID l[m] l[m-1] = false := hP (m - 1) m (by omega) hl (by omega)
      have q2 : ltID l[m - 1] l[m] = true := by
        rcases lt_tri l[m - 1] l[m] with c | c | c
        · exact c
        · exact absurd ⟨hm1, c.symm⟩ hs
        · rw [q1] at c; cases c
      by_cases hi1 : i = m - 1
      · subst hi1; exact q2
      · have q3 : ltID l[m - 1] l[i] = false := hP i (m - 1) (by omega) (by omega) (by omega)
        rcases lt_tri l[i] l[m - 1] with c | c | c
        · exact lt_trans c q2
        · rw [c]; exact q2
        · rw [q3] at c; cases c
/-- the set of a list -/
def setM (l : List ID) : List ID := dk (sortM l) (sortM l).length
theorem setM_ris (l : List ID) : Ris (setM l) := dk_ris _ (sortM_pw l) _ (Nat.le_refl _)
theorem setM_mem (l : List ID) (x : ID) : x ∈ setM l ↔ x ∈ l := by
  unfold setM; rw [dk_mem _ _ (Nat.le_refl _), List.take_length, sortM_mem]
theorem setM_of_ris {l : List ID} (h : Ris l) : setM l = l := ris_ext (setM_ris l) h (setM_mem l)
theorem setM_nil : setM [] = [] := setM_of_ris ris_nil
theorem setM_ext {l m : List ID} (h : ∀ x, x ∈ l ↔ x ∈ m) : setM l = setM m := ris_ext (setM_ris l) (setM_ris m) (fun x => by rw [setM_mem, setM_mem, h])
theorem setM_len (l : List ID) : (setM l).length ≤ l.length := by
  have : (dk (sortM l) (sortM l).length).length ≤ (sortM l).length := by
    generalize (sortM l).length = m
    induction m with
    | zero => simp [dk]
    | succ m ih => unfold dk; split
                   · omega
                   · simp; omega
  rw [sortM_len] at this
  unfold setM
  rw [sortM_len]
  exact this
/-- the reference's put: an ID in its place -/
def putR (l : List ID) (x : ID) : List ID := if x ∈ l then l else l.filter (fun y => ltID y x) ++ x :: l.filter (fun y => !ltID y x)
theorem putR_mem (l : List ID) (x y : ID) : y ∈ putR l x ↔ y = x ∨ y ∈ l := by
  unfold putR
  split
  · rename_i h
    constructor
    · exact .inr
    · rintro (rfl | e)
      · exact h
      · exact e
  · simp only [List.mem_append, List.mem_filter, List.mem_cons]
    cases ltID y x <;> simp [or_comm]
theorem putR_ris {l : List ID} (h : Ris l) (x : ID) : Ris (putR l x) := by
  unfold putR
  split
  · exact h
  · rename_i hx
    unfold Ris
    rw [List.pairwise_append, List.pairwise_cons]
    refine ⟨h.filter _, ⟨fun b hb => ?_, h.filter _⟩, fun a ha b hb => ?_⟩
    · rw [List.mem_filter] at hb
      rcases lt_tri x b with c | c | c
      · exact c
      · subst c; exact absurd hb.1 hx
      · rw [c] at hb; simp at hb
    · rw [List.mem_filter] at ha
      rw [List.mem_cons, List.mem_filter] at hb
      rcases hb with rfl | hb
      · exact ha.2
      · rcases lt_tri b x with c | c | c
        · rw [c] at hb; simp at hb
        · subst c; exact ha.2
        · exact lt_trans ha.2 c
theorem putR_set {l : List ID} (h : Ris l) (x : ID) : putR l x = setM (l ++ [x]) :=
  ris_ext (putR_ris h x) (setM_ris _) (fun y => by rw [putR_mem, setM_mem]; simp [or_comm])
theorem putR_len (l : List ID) (x : ID) : (putR l x).length ≤ l.length + 1 := by
  unfold putR
  split
  · omega
  · have : ∀ l : List ID, (l.filter (fun y => ltID y x)).length + (l.filter (fun y => !ltID y x)).length = l.length := by
      intro l
      induction l with
      | nil => rfl
      | cons a l ih => simp only [List.filter_cons]; cases ltID a x <;> simp <;> omega
    simp only [List.length_append, List.length_cons]
    have := this l
    omega
theorem foldl_putR : ∀ (m l : List ID), Ris l → m.foldl putR l = setM (l ++ m)
  | [], l, h => by simp [setM_of_ris h]
  | x :: m, l, h => by
    rw [List.foldl_cons, foldl_putR m _ (putR_ris h x)]
    apply setM_ext
    intro y
    simp only [List.mem_append, List.mem_cons, putR_mem]
    rw [or_assoc, or_left_comm]
end Go.Proofs.YtgoldgamjogadaaGreat

namespace Go.Proofs.YtgoldgamjogadaaGreat
abbrev Tick := ID × Int
def getS (id : ID) (n : Int) (t : Tick) : Int := if t.1 = id then max n t.2 else n
/-- what a clock says of an ID -/
def getM (c : List Tick) (id : ID) : Int := c.foldl (getS id) 0
theorem getS_ge (id : ID) : ∀ (c : List Tick) (n : Int), n ≤ c.foldl (getS id) n
  | [], n => Int.le_refl _
  | t :: c, n => by
    rw [List.foldl_cons]
    refine Int.le_trans ?_ (getS_ge id c _)
    unfold getS; split <;> omega
theorem getS_max (id : ID) : ∀ (c : List Tick) (n : Int), 0 ≤ n → c.foldl (getS id) n = max n (getM c id)
  | [], n, h => by simp [getM]; omega
  | t :: c, n, h => by
    unfold getM
    rw [List.foldl_cons, List.foldl_cons]
    by_cases e : t.1 = id
    · have h1 : getS id n t = max n t.2 := by unfold getS; rw [if_pos e]
      have h2 : getS id 0 t = max 0 t.2 := by unfold getS; rw [if_pos e]
      rw [h1, h2, getS_max id c _ (by omega), getS_max id c (max 0 t.2) (by omega)]
      omega
    · have h1 : getS id n t = n := by unfold getS; rw [if_neg e]
      have h2 : getS id 0 t = 0 := by unfold getS; rw [if_neg e]
      rw [h1, h2, getS_max id c n h]
      rfl
theorem getM_nn (c : List Tick) (id : ID) : 0 ≤ getM c id := getS_ge id c 0
theorem getM_cons (t : Tick) (c : List Tick) (id : ID) : getM (t :: c) id = if t.1 = id then max t.2 (getM c id) else getM c id := by
  have e : getM (t :: c) id = c.foldl (getS id) (getS id 0 t) := rfl
  have g : getS id 0 t = if t.1 = id then max 0 t.2 else 0 := rfl
  rw [e, g]
  split
  · rw [getS_max id c _ (by omega)]; have := getM_nn c id; omega
  · rfl
theorem getM_app (a b : List Tick) (id : ID) : getM (a ++ b) id = max (getM a id) (getM b id) := by
  have e : getM (a ++ b) id = b.foldl (getS id) (getM a id) := by unfold getM; rw [List.foldl_append]
  rw [e, getS_max id b _ (getM_nn a id)]
theorem getM_pos (id : ID) : ∀ (c : List Tick), 0 < getM c id ↔ ∃ t ∈ c, t.1 = id ∧ 0 < t.2
  | [] => by simp [getM]
  | t :: c => by
    rw [getM_cons]
    have ih := getM_pos id c
    have hn := getM_nn c id
    constructor
    · intro h
      by_cases e : t.1 = id
      · rw [if_pos e] at h
        by_cases h2 : 0 < t.2
        · exact ⟨t, by simp, e, h2⟩
        · obtain ⟨u, hu, hp⟩ := ih.1 (by omega)
          exact ⟨u, by simp [hu], hp⟩
      · rw [if_neg e] at h
        obtain ⟨u, hu, hp⟩ := ih.1 h
        exact ⟨u, by simp [hu], hp⟩
    · rintro ⟨u, hu, e, hp⟩
      rcases List.mem_cons.1 hu with rfl | hu
      · rw [if_pos e]; omega
      · have := ih.2 ⟨u, hu, e, hp⟩
        split <;> omega
/-- those of which one of two clocks says something -/
def idsM (a b : List Tick) : List ID := setM (((a ++ b).filter (fun t => decide (0 < t.2))).map (·.1))
theorem idsM_ris (a b : List Tick) : Ris (idsM a b) := setM_ris _
theorem idsM_mem (a b : List Tick) (id : ID) : id ∈ idsM a b ↔ 0 < max (getM a id) (getM b id) := by
  unfold idsM
  rw [setM_mem, ← getM_app, getM_pos]
  simp only [List.mem_map, List.mem_filter, decide_eq_true_eq]
  constructor
  · rintro ⟨t, ⟨h1, h2⟩, h3⟩; exact ⟨t, h1, h3, h2⟩
  · rintro ⟨t, h1, h3, h2⟩; exact ⟨t, ⟨h1, h2⟩, h3⟩
def joinM (a b : List Tick) : List Tick := (idsM a b).map (fun id => (id, max (getM a id) (getM b id)))
/-- the clock of a function on some IDs -/
theorem getM_map (f : ID → Int) (id : ID) : ∀ (l : List ID), l.Nodup → getM (l.map (fun i => (i, f i))) id = if id ∈ l then max 0 (f id) else 0
  | [], _ => by simp [getM]
  | i :: l, h => by
    rw [List.nodup_cons] at h
    rw [List.map_cons, getM_cons, getM_map f id l h.2]
    by_cases e : i = id
    · subst e
      rw [if_neg h.1]
      simp
      omega
    · have e2 : ¬ id = i := fun q => e q.symm
      simp [e, e2]
theorem getM_join (a b : List Tick) (id : ID) : getM (joinM a b) id = max (getM a id) (getM b id) := by
  unfold joinM
  rw [getM_map (fun id => max (getM a id) (getM b id)) id _ (idsM_ris a b).nodup]
  have ha := getM_nn a id
  have hb := getM_nn b id
  split
  · omega
  · rename_i h
    rw [idsM_mem] at h
    omega
theorem joinM_congr {a b c d : List Tick} (h : ∀ id, max (getM a id) (getM b id) = max (getM c id) (getM d id)) : joinM a b = joinM c d := by
  unfold joinM
  rw [ris_ext (idsM_ris a b) (idsM_ris c d) (fun x => by rw [idsM_mem, idsM_mem, h])]
  exact List.map_congr_left (fun x _ => by rw [h])
/-- a clock says no more of any ID than another one -/
def leC (a b : List Tick) : Prop := ∀ id, getM a id ≤ getM b id
def lessM (a b : List Tick) : Bool := (idsM a b).any (fun id => decide (getM a id < getM b id))
theorem lessM_eq (a b : List Tick) : lessM a b = false ↔ leC b a := by
  unfold lessM leC
  rw [List.any_eq_false]
  constructor
  · intro h id
    have ha := getM_nn a id
    have hb := getM_nn b id
    by_cases hm : id ∈ idsM a b
    · have := h id hm
      simp at this
      exact this
    · rw [idsM_mem] at hm
      omega
  · intro h id _
    have := h id
    simp; omega
theorem idsM_comm (a b : List Tick) : idsM a b = idsM b a := ris_ext (idsM_ris a b) (idsM_ris b a) (fun x => by rw [idsM_mem, idsM_mem, Int.max_comm])
def cmpM (a b : List Tick) : Int := if lessM a b = true ∧ lessM b a = true then 4 else if lessM a b = true then 2 else if lessM b a = true then 3 else 1
theorem cmpM_cases (a b : List Tick) : (leC a b ∧ leC b a ∧ cmpM a b = 1) ∨ (leC a b ∧ ¬ leC b a ∧ cmpM a b = 2) ∨ (¬ leC a b ∧ leC b a ∧ cmpM a b = 3) ∨ (¬ leC a b ∧ ¬ leC b a ∧ cmpM a b = 4) := by
  have h1 := lessM_eq a b
  have h2 := lessM_eq b a
  unfold cmpM
  cases e1 : lessM a b <;> cases e2 : lessM b a <;> simp_all
theorem cmpM_more (a b : List Tick) : (idsM a b).any (fun id => decide (getM a id > getM b id)) = lessM b a := by
  unfold lessM; rw [idsM_comm]
theorem leC_refl (a : List Tick) : leC a a := fun _ => Int.le_refl _
theorem leC_trans {a b c : List Tick} (h : leC a b) (k : leC b c) : leC a c := fun id => Int.le_trans (h id) (k id)
theorem leC_left (a b : List Tick) : leC a (joinM a b) := fun id => by rw [getM_join]; omega
theorem leC_right (a b : List Tick) : leC b (joinM a b) := fun id => by rw [getM_join]; omega
theorem leC_join {a b c : List Tick} (h : leC a c) (k : leC b c) : leC (joinM a b) c := fun id => by rw [getM_join]; have := h id; have := k id; omega
/-- may it be a clock? -/
def mayC (c : List Tick) : Prop := (∀ t ∈ c, mayID t.1 = true ∧ 1 ≤ t.2 ∧ t.2 ≤ 1099511627776) ∧ Ris (c.map (·.1)) ∧ c.length ≤ 64
theorem getM_ris {c : List Tick} (h : Ris (c.map (·.1))) (hp : ∀ t ∈ c, 0 < t.2) : ∀ t ∈ c, getM c t.1 = t.2 := by
  induction c with
  | nil => intro t h; cases h
  | cons u c ih =>
    unfold Ris at h
    rw [List.map_cons, List.pairwise_cons] at h
    intro t ht
    rw [getM_cons]
    have hu := hp u (by simp)
    rcases List.mem_cons.1 ht with e | e
    · subst e
      rw [if_pos rfl]
      have : getM c t.1 = 0 := by
        have hn := getM_nn c t.1
        have hz : ¬ 0 < getM c t.1 := fun hq => by
          obtain ⟨v, hv, e, _⟩ := (getM_pos t.1 c).1 hq
          have := h.1 v.1 (List.mem_map_of_mem hv)
          rw [e, lt_irr] at this; cases this
        omega
      omega
    · rw [if_neg (fun q => by have := h.1 t.1 (List.mem_map_of_mem e); rw [q, lt_irr] at this; cases this)]
      exact ih h.2 (fun t ht => hp t (by simp [ht])) t e
theorem idsM_of {c : List Tick} (h : Ris (c.map (·.1))) (hp : ∀ t ∈ c, 0 < t.2) (d : List Tick) (hd : leC d c) : idsM c d = c.map (·.1) := by
  refine ris_ext (idsM_ris _ _) h (fun x => ?_)
  rw [idsM_mem, List.mem_map]
  have := hd x
  constructor
  · intro hx
    obtain ⟨t, ht, e, _⟩ := (getM_pos x c).1 (by omega)
    exact ⟨t, ht, e⟩
  · rintro ⟨t, ht, rfl⟩
    have := getM_ris h hp t ht
    have := hp t ht
    omega
theorem joinM_of {c d : List Tick} (hc : mayC c) (hd : leC d c) : joinM c d = c := by
  have hp : ∀ t ∈ c, 0 < t.2 := fun t ht => by have := (hc.1 t ht).2.1; omega
  unfold joinM
  rw [idsM_of hc.2.1 hp d hd, List.map_map]
  have : ∀ t ∈ c, ((fun id => (id, max (getM c id) (getM d id))) ∘ fun x => x.fst) t = t := by
    intro t ht
    have h1 := getM_ris hc.2.1 hp t ht
    have h2 := hd t.1
    simp only [Function.comp]
    rw [show max (getM c t.1) (getM d t.1) = t.2 by omega]
  rw [List.map_congr_left this]
  simp
theorem joinM_comm (a b : List Tick) : joinM a b = joinM b a := joinM_congr (fun _ => Int.max_comm _ _)
theorem joinM_assoc (a b c : List Tick) : joinM (joinM a b) c = joinM a (joinM b c) := joinM_congr (fun id => by rw [getM_join, getM_join]; omega)
theorem joinM_len (a b : List Tick) : (joinM a b).length ≤ a.length + b.length := by
  unfold joinM idsM
  rw [List.length_map]
  refine Nat.le_trans (setM_len _) ?_
  rw [List.length_map]
  refine Nat.le_trans (List.length_filter_le _ _) ?_
  rw [List.length_append]
  exact Nat.le_refl _
theorem getM_in {c : List Tick} {id : ID} (h : 0 < getM c id) : ∃ t ∈ c, t.1 = id ∧ t.2 = getM c id := by
  induction c with
  | nil => simp [getM] at h
  | cons u c ih =>
    rw [getM_cons] at h ⊢
    by_cases e : u.1 = id
    · rw [if_pos e] at h ⊢
      by_cases hu : getM c id ≤ u.2
      · exact ⟨u, by simp, e, by omega⟩
      · obtain ⟨t, ht, h1, h2⟩ := ih (by have := getM_nn c id; omega)
        exact ⟨t, by simp [ht], h1, by omega⟩
    · rw [if_neg e] at h ⊢
      obtain ⟨t, ht, h1, h2⟩ := ih h
      exact ⟨t, by simp [ht], h1, h2⟩
theorem joinM_may' {a b : List Tick} (ha : ∀ t ∈ a, mayID t.1 = true ∧ 1 ≤ t.2 ∧ t.2 ≤ 1099511627776) (hb : ∀ t ∈ b, mayID t.1 = true ∧ 1 ≤ t.2 ∧ t.2 ≤ 1099511627776) (hl : (joinM a b).length ≤ 64) : mayC (joinM a b) := by
  refine ⟨fun t ht => ?_, ?_, hl⟩
  · unfold joinM at ht
    rw [List.mem_map] at ht
    obtain ⟨id, hid, rfl⟩ := ht
    rw [idsM_mem] at hid
    have na := getM_nn a id
    have nb := getM_nn b id
    have qa : 0 < getM a id → mayID id = true ∧ getM a id ≤ 1099511627776 := fun h => by
      obtain ⟨t, ht, h1, h2⟩ := getM_in h
      have := ha t ht
      rw [h1] at this
      exact ⟨this.1, by omega⟩
    have qb : 0 < getM b id → mayID id = true ∧ getM b id ≤ 1099511627776 := fun h => by
      obtain ⟨t, ht, h1, h2⟩ := getM_in h
      have := hb t ht
      rw [h1] at this
      exact ⟨this.1, by omega⟩
    refine ⟨?_, by simp only; omega, ?_⟩
    · by_cases h : 0 < getM a id
      · exact (qa h).1
      · exact (qb (by omega)).1
    · by_cases h : 0 < getM a id <;> by_cases h' : 0 < getM b id
      · have := (qa h).2; have := (qb h').2; simp only; omega
      · have := (qa h).2; simp only; omega
      · have := (qb h').2; simp only; omega
      · omega
  · unfold joinM
    rw [List.map_map]
    have : (fun x : Tick => x.1) ∘ (fun id => (id, max (getM a id) (getM b id))) = id := by funext x; rfl
    rw [this, List.map_id]
    exact idsM_ris a b
theorem joinM_may {a b : List Tick} (ha : mayC a) (hb : mayC b) (hl : a.length + b.length ≤ 64) : mayC (joinM a b) :=
  joinM_may' ha.1 hb.1 (Nat.le_trans (joinM_len a b) hl)
/-- the clock that says of an ID one more -/
def upC (c : List Tick) (id : ID) : List Tick := joinM c [(id, getM c id + 1)]
theorem getM_one (id x : ID) (n : Int) : getM [(id, n)] x = if id = x then max n 0 else 0 := by rw [getM_cons]; rfl
theorem getM_up (c : List Tick) (id x : ID) : getM (upC c id) x = if id = x then getM c x + 1 else getM c x := by
  unfold upC
  rw [getM_join, getM_one]
  have := getM_nn c x
  split
  · rename_i e; subst e; omega
  · omega
theorem up_two {c : List Tick} {a b : ID} (hab : a ≠ b) : upC (upC c a) b = joinM (upC c a) (upC c b) := by
  have e : upC (upC c a) b = joinM (upC c a) [(b, getM (upC c a) b + 1)] := rfl
  rw [e]
  apply joinM_congr
  intro id
  rw [getM_one, getM_up, getM_up, getM_up, if_neg hab]
  have := getM_nn c id
  have := getM_nn c b
  by_cases h1 : a = id
  · subst h1
    rw [if_pos rfl, if_neg (fun e => hab e.symm), if_neg (fun e => hab e.symm)]; omega
  · rw [if_neg h1]
    by_cases h2 : b = id
    · subst h2; simp; omega
    · rw [if_neg h2, if_neg h2]; omega
theorem up_apart {c : List Tick} {a b : ID} (hab : a ≠ b) : ¬ leC (upC c a) (upC c b) := fun h => by
  have := h a
  rw [getM_up, getM_up, if_pos rfl, if_neg (fun e => hab e.symm)] at this
  omega
end Go.Proofs.YtgoldgamjogadaaGreat

namespace Go.Proofs.YtgoldgamjogadaaGreat
section
variable {P : Program} {ops : Array Oper} {R : World → World → Prop} {W0 : World} {Q : Act → World → Prop} {k : Nat} {o : Oper} {l : List Oper} {Ts : List KSpec} {a : Act} {F : List (Nat × (World → Prop))}
/-- an operation that is passed over -/
theorem kAll_skip (hw : Region.wanted o (yielded ops a.tmps) = false) (h : kAll P ops R W0 Q (k + 1) l Ts (a.put o.dst undef) F) : kAll P ops R W0 Q k (o :: l) (none :: Ts) a F :=
  kAll_q fun K hK => by
    rw [if_neg (by rw [hw]; exact Bool.false_ne_true)]; exact hK _ h
/-- an operation that only reckons, its guard open -/
theorem kAll_pw (hw : Region.wanted o (yielded ops a.tmps) = true) (h : ∀ K : Act → Prop, (∀ a', kAll P ops R W0 Q (k + 1) l Ts a' F → K a') → ∃ v, (∀ W, kQuiet P o a W v) ∧ K (a.put o.dst v)) :
    kAll P ops R W0 Q k (o :: l) (none :: Ts) a F :=
  kAll_p fun K hK => by
    rw [if_pos hw]; exact h K hK
theorem kStep_w {T : Value → World → Prop} {W : World} (hw : Region.wanted o (yielded ops a.tmps) = true) (h : ∀ (K : Act → World → Prop) (Q : Exit → Act → World → Prop), (∀ v W', R W W' → T v W' → K (a.put o.dst v) W') → o.wp P a W K Q) : kStep P ops R o a W T :=
  kStep_of fun K Q hK => by
    rw [if_pos hw]; exact h K Q hK
end
end Go.Proofs.YtgoldgamjogadaaGreat

namespace Go.Proofs.YtgoldgamjogadaaGreat
section
variable {P : Program} {ops : Array Oper} {R : World → World → Prop} {W0 : World}
theorem kHas_of_all {o : Oper} {W : World} : ∀ {F : List (Nat × (World → Prop))}, kAllHas W F → kHas o W F
  | [], _ => trivial
  | p :: F, h => ⟨by split; exact h.1; trivial, kHas_of_all h.2⟩
theorem kAllHas_mono {W W' : World} : ∀ {F : List (Nat × (World → Prop))}, (∀ p ∈ F, p.2 W → p.2 W') → kAllHas W F → kAllHas W' F
  | [], _, _ => trivial
  | p :: _, hm, h => ⟨hm p List.mem_cons_self h.1, kAllHas_mono (fun q hq => hm q (List.mem_cons_of_mem _ hq)) h.2⟩
theorem wp_quiet {o : Oper} {a : Act} {W : World} {v : Value} {K : Act → World → Prop} {Q' : Exit → Act → World → Prop} (h : kQuiet P o a W v) (hK : K (a.put o.dst v) W) : o.wp P a W K Q' := by
  unfold kQuiet at h
  unfold Oper.wp
  generalize (execOp a.eval o).run P W = r at *
  cases r with
  | ok n w' =>
    cases n with
    | value u =>
      simp only [kQuietUpon] at h
      obtain ⟨e1, e2⟩ := h
      subst e1 e2
      exact hK
    | skip =>
      simp only [kQuietUpon] at h
      obtain ⟨e1, e2⟩ := h
      subst e1 e2
      exact hK
    | _ => exact h.elim
  | halt x w' => exact h.elim
theorem wpList_kord (hRefl : ∀ a, R a a) (htr : ∀ a b c, R a b → R b c → R a c) {Q' : Exit → Act → World → Prop} (rest : List Oper) :
    ∀ (l : List Oper) (Ts : List KSpec) (k : Nat) (a : Act) (F : List (Nat × (World → Prop))) (W : World), R W0 W → (∀ p ∈ F, ∀ W W', R W W' → p.2 W → p.2 W') → kAllHas W F →
      kAll P ops R W0 (fun a W => wpList P ops Q' rest a W) k l Ts a F → wpList P ops Q' (l ++ rest) a W
  | [], Ts, k, a, F, W, hW, _, hF, h => by
    cases Ts <;> (unfold kAll at h; exact h W hW hF)
  | o :: l, [], k, a, F, W, hW, _, hF, h => by unfold kAll at h; exact h.elim
  | o :: l, none :: Ts, k, a, F, W, hW, hm, hF, h => by
    unfold kAll at h
    rw [List.cons_append, wpList]
    split
    · rename_i hw
      rw [if_pos hw] at h
      obtain ⟨v, h1, h2⟩ := h
      exact .inl (wp_quiet (h1 W hW (kHas_of_all hF)) (wpList_kord hRefl htr rest l Ts (k + 1) _ F W hW hm hF h2))
    · rename_i hw
      rw [if_neg hw] at h
      exact wpList_kord hRefl htr rest l Ts (k + 1) _ F W hW hm hF h
  | o :: l, some (.inl c) :: Ts, k, a, F, W, hW, hm, hF, h => by
    unfold kAll at h
    obtain ⟨h1, h2⟩ := h
    have h1 := h1 W hW (kHas_of_all hF)
    unfold kStep at h1
    rw [List.cons_append, wpList]
    split
    · rename_i hw
      rw [if_pos hw] at h1
      refine .inl (h1 _ _ fun v W' hR hv => ?_)
      subst hv
      exact wpList_kord hRefl htr rest l Ts (k + 1) _ F W' (htr _ _ _ hW hR) hm (kAllHas_mono (fun p hp => hm p hp W W' hR) hF) h2
    · rename_i hw
      rw [if_neg hw] at h1
      rw [h1]
      exact wpList_kord hRefl htr rest l Ts (k + 1) _ F W hW hm hF h2
  | o :: l, some (.inr T) :: Ts, k, a, F, W, hW, hm, hF, h => by
    unfold kAll at h
    obtain ⟨h0, h1, h2⟩ := h
    have h1 := h1 W hW (kHas_of_all hF)
    unfold kStep at h1
    have hm' : ∀ v, ∀ p ∈ ((k, T v) :: F), ∀ W W', R W W' → p.2 W → p.2 W' := by
      intro v p hp
      rcases List.mem_cons.1 hp with rfl | hp
      · exact h0 v
      · exact hm p hp
    rw [List.cons_append, wpList]
    split
    · rename_i hw
      rw [if_pos hw] at h1
      refine .inl (h1 _ _ fun v W' hR hv => ?_)
      exact wpList_kord hRefl htr rest l Ts (k + 1) _ _ W' (htr _ _ _ hW hR) (hm' v) ⟨hv, kAllHas_mono (fun p hp => hm p hp W W' hR) hF⟩ (h2 v)
    · rename_i hw
      rw [if_neg hw] at h1
      exact wpList_kord hRefl htr rest l Ts (k + 1) _ _ W hW (hm' undef) ⟨h1, hF⟩ (h2 undef)
/-- A region in the order of the text: the first n operations, each shown once, in whatever later world; then the rest. -/
theorem wp_region_kord {P : Program} (R : World → World → Prop) (hRefl : ∀ a, R a a) (htr : ∀ a b c, R a b → R b c → R a c) {id : Nat} {Q' : Exit → Act → World → Prop} {a : Act} {w : World} {l : List Oper} (n : Nat) {Ts : List KSpec}
    (h : kAll P l.toArray R w (fun a W => wpList P l.toArray Q' (l.drop n) a W) 0 (l.take n) Ts a []) : (Code.region id l.toArray false).wp P Q' a w := by
  refine wp_region_lit ?_
  have := wpList_kord hRefl htr (l.drop n) (l.take n) Ts 0 a [] w (hRefl w) (fun p hp => by cases hp) trivial h
  rwa [List.take_append_drop] at this
/-- as kAll_d, kAll_t, the frame to be reckoned anew -/
theorem kAll_dn {Q : Act → World → Prop} {k : Nat} {o : Oper} {l : List Oper} {Ts : List KSpec} {a : Act} {F : List (Nat × (World → Prop))} (c : Value) (h : ∀ W, R W0 W → kHas o W F → kStep P ops R o a W (fun v _ => v = c)) (hr : ∀ K : Act → Prop, (∀ a', kAll P ops R W0 Q (k + 1) l Ts a' F → K a') → K (a.put o.dst c)) :
    kAll P ops R W0 Q k (o :: l) (some (.inl c) :: Ts) a F := kAll_d c h (hr _ (fun _ h => h))
theorem kAll_tn {Q : Act → World → Prop} {k : Nat} {o : Oper} {l : List Oper} {Ts : List KSpec} {a : Act} {F : List (Nat × (World → Prop))} (T : Value → World → Prop) (hm : ∀ v W W', R W W' → T v W → T v W') (h : ∀ W, R W0 W → kHas o W F → kStep P ops R o a W T)
    (hr : ∀ u, ∀ K : Act → Prop, (∀ a', kAll P ops R W0 Q (k + 1) l Ts a' ((k, T u) :: F) → K a') → K (a.put o.dst u)) : kAll P ops R W0 Q k (o :: l) (some (.inr T) :: Ts) a F := kAll_t T hm h (fun u => hr u _ (fun _ h => h))
end
end Go.Proofs.YtgoldgamjogadaaGreat

namespace Go.Proofs.YtgoldgamjogadaaGreat

structure Mem where
  addr : Int
  inc : Int
  st : Int
  no : Int
deriving instance DecidableEq for Mem
abbrev Mem.id (x : Mem) : ID := (x.addr, x.inc)
abbrev cMem (x : Mem) : List Value := [.int .i64 x.addr, .int .i64 x.inc, .int .u8 x.st, .int .i64 x.no]
abbrev memV (x : Mem) : Value := .agg #[.int .i64 x.addr, .int .i64 x.inc, .int .u8 x.st, .int .i64 x.no]
def zeroMem : Mem := ⟨0, 0, 0, 0⟩
def RdMem (w : World) (A : Option Addr) (n : Nat) (l : List Mem) : Prop := l.length = n ∧ RdK w 4 A n (l.flatMap cMem)
theorem RdMem.keep0 {w w' : World} {A : Option Addr} {n : Nat} {l : List Mem} (h : RdMem w A n l) (hk : Keep (fun _ => False) w w') : RdMem w' A n l := ⟨h.1, h.2.keep0 hk⟩
theorem RdMem.at_ {w : World} {A : Option Addr} {n : Nat} {l : List Mem} (h : RdMem w A n l) {i : Nat} (hi : i < n) : ∃ g off, A = some ⟨g, off, none⟩ ∧ w.cell? ⟨g, off + i * 4, none⟩ = some (.int .i64 (l.getD i zeroMem).addr) ∧ w.cell? ⟨g, off + i * 4 + 1, none⟩ = some (.int .i64 (l.getD i zeroMem).inc) ∧
    w.cell? ⟨g, off + i * 4 + 2, none⟩ = some (.int .u8 (l.getD i zeroMem).st) ∧ w.cell? ⟨g, off + i * 4 + 3, none⟩ = some (.int .i64 (l.getD i zeroMem).no) := by
  have hl : i < l.length := by rw [h.1]; exact hi
  have e : l.getD i zeroMem = l[i] := by simp [List.getD, hl]
  have go : ∀ j, j < 4 → ∃ g off v, A = some ⟨g, off, none⟩ ∧ (cMem l[i])[j]? = some v ∧ w.cell? ⟨g, off + i * 4 + j, none⟩ = some v := by
    intro j hj
    obtain ⟨g, off, v, h1, h2, h3⟩ := h.2.2 (i * 4 + j) (by omega)
    rw [flat_get cMem 4 (fun _ => rfl) l i j hl hj] at h2
    exact ⟨g, off, v, h1, h2, by rw [Nat.add_assoc]; exact h3⟩
  obtain ⟨g, off, v, h1, h2, h3⟩ := go 0 (by omega)
  obtain ⟨g1, off1, v1, k1, k2, k3⟩ := go 1 (by omega)
  obtain ⟨g2, off2, v2, l1, l2, l3⟩ := go 2 (by omega)
  obtain ⟨g3, off3, v3, m1, m2, m3⟩ := go 3 (by omega)
  rw [h1] at k1 l1 m1
  injection k1 with k1; injection k1 with q1 q2; subst q1 q2
  injection l1 with l1; injection l1 with q1 q2; subst q1 q2
  injection m1 with m1; injection m1 with q1 q2; subst q1 q2
  simp at h2 k2 l2 m2
  exact ⟨g, off, h1, by rw [e, h2]; simpa using h3, by rw [e, k2]; exact k3, by rw [e, l2]; exact l3, by rw [e, m2]; exact m3⟩

/-- an address's floor -/
def floorT (l : List ID) (a : Int) : Int := l.foldl (fun n p => if p.1 = a then max n p.2 else n) 0
def lessT (a b : Int) : Int := if a ≤ 0 then max b 0 else if b ≤ 0 then a else min a b
def okE (x : Mem) : Bool := mayID x.id && decide (1 ≤ x.st ∧ x.st ≤ 7)
theorem foldl_take {α β : Type} (f : β → α → β) (b : β) (l : List α) (k : Nat) (h : k < l.length) : (l.take (k + 1)).foldl f b = f ((l.take k).foldl f b) l[k] := by
  rw [List.take_succ_eq_append_getElem h, List.foldl_append]; rfl
end Go.Proofs.YtgoldgamjogadaaGreat

namespace Go.Proofs.YtgoldgamjogadaaGreat
open Go.RowKit

set_option maxHeartbeats 400000 in
theorem may_any (p : ID) (w : World) : Calls Tryz.prog 16 #[idV p] w (Tell (.bool (mayID p)) w) := by
  obtain ⟨a, i⟩ := p
  go_enter Tryz.func16, Tryz.ntmps16
  go_wp2
  all_goals
    go_ret
    refine ⟨ret_bool ?_, (Keep.refl _ w).alloc _⟩
    rw [Bool.eq_iff_iff]
    simp only [mayID, decide_eq_true_eq]
    first | (simp; omega) | omega
set_option maxHeartbeats 1000000 in
theorem floor_any (A : Option Addr) (n c : Nat) (l : List ID) (a : Int) (w : World) (h : RdI w A n l) (hn : n ≤ 1000000) :
    Calls Tryz.prog 82 #[.slice A n c, .int .i64 a] w (Tell (.int .i64 (floorT l a)) w) := by
  have H := Lib.hid h
  clear h
  go_enter Tryz.func82, Tryz.ntmps82
  go_wp2
  go_loopw [10, 5] (fun i v wr => ∃ k : Nat, k ≤ n ∧ i = .int .i64 (k : Int) ∧ v = .int .i64 (floorT (l.take k) a) ∧ Hid (Keep (fun _ => False) w wr)) (fun i _ _ => n - (intOf i).toNat)
  case atStart => exact ⟨0, Nat.zero_le _, rfl, rfl, Lib.hid (Keep.refl _ _)⟩
  case round =>
    obtain ⟨k, hk, rfl, rfl, HK⟩ := hrel
    by_cases hlt : k < n
    · obtain ⟨g, off, rfl, c0, c1⟩ := (H.out.keep0 HK.out).at_ hlt
      have hs : floorT (l.take (k + 1)) a = if (l.getD k (0, 0)).1 = a then max (floorT (l.take k) a) (l.getD k (0, 0)).2 else floorT (l.take k) a := by
        have hl : k < l.length := by rw [H.out.1]; exact hlt
        unfold floorT
        rw [foldl_take _ _ _ _ hl]
        simp [List.getD, hl]
      have HS := Lib.hid hs
      clear hs
      generalize l.getD k (0, 0) = p at *
      obtain ⟨pa, pi⟩ := p
      simp only at c0 c1
      generalize floorT (l.take k) a = fl at *
      by_cases he : pa = a
      · have HS2 := Lib.hid (show floorT (l.take (k + 1)) a = max fl pi by rw [HS.out, if_pos he])
        have e1 : (pa == a) = true := by simpa using he
        have hm : (if fl < pi then pi else fl) = max fl pi := by omega
        clear he
        go_wp2
        all_goals
          go_roundw
          case rel => exact ⟨k + 1, by omega, by go_num, by first | (rw [HS2.out]; done) | (rw [HS2.out]; congr 1; omega), Lib.hid (HK.out.trans (((Keep.refl (fun _ => False) wr).alloc _).mono fun _ _ h => h.elim))⟩
          case measure => simp [intOf]; omega
      · have HS2 := Lib.hid (show floorT (l.take (k + 1)) a = fl by rw [HS.out, if_neg he])
        have e1 : (pa == a) = false := by simpa using he
        clear he
        go_wp2
        go_roundw
        case rel => exact ⟨k + 1, by omega, by go_num, by rw [HS2.out], Lib.hid (HK.out.trans (((Keep.refl (fun _ => False) wr).alloc _).mono fun _ _ h => h.elim))⟩
        case measure => simp [intOf]; omega
    · obtain rfl : k = n := by omega
      have hall : l.take k = l := List.take_of_length_le (by rw [H.out.1]; exact Nat.le_refl _)
      rw [hall]
      clear hall
      go_wp2
      go_ret
      exact ⟨rfl, HK.out⟩
end Go.Proofs.YtgoldgamjogadaaGreat

namespace Go.Proofs.YtgoldgamjogadaaGreat
open Go.RowKit
set_option maxRecDepth 100000
attribute [local go_sem] kQuiet kQuietUpon

set_option maxHeartbeats 1000000 in
theorem gone_any (A : Option Addr) (n c : Nat) (l : List ID) (p : ID) (w : World) (h : RdI w A n l) (hn : n ≤ 1000000) :
    Calls Tryz.prog 57 #[.slice A n c, idV p] w (Tell (.bool (decide (p.2 ≤ floorT l p.1))) w) := by
  obtain ⟨pa, pi⟩ := p
  have H := Lib.hid h
  clear h
  have b0 := Blk.new w 24 #[.int .i64 pa, .int .i64 pi]
  have C0 : Hid ((w.alloc (.cells #[.int .i64 pa, .int .i64 pi] 24)).drew.cell? ⟨w.heap.size, 0, none⟩ = some (.int .i64 pa)) := Lib.hid (b0.cell 0)
  have C1 : Hid ((w.alloc (.cells #[.int .i64 pa, .int .i64 pi] 24)).drew.cell? ⟨w.heap.size, 1, none⟩ = some (.int .i64 pi)) := Lib.hid (b0.cell 1)
  have hk0 := (Keep.refl (fun _ => False) w).alloc (.cells #[.int .i64 pa, .int .i64 pi] 24)
  have HK0 := Lib.hid hk0
  clear b0 hk0
  go_enter Tryz.func57, Tryz.ntmps57
  go_wp2
  refine wp_region_krip (Keep (fun _ => False)) (Keep.refl _) keep0_trans 8 (by kernel_rfl) (by kernel_rfl) (Ts := [none, some (.inl (.int .i64 pi)), none, none, some (.inl (.int .i64 pa)), some (.inl (.int .i64 (floorT l pa))), none, none]) ?_
  simp only [List.take, List.drop]
  refine kAll_p (fun K hK => ?_)
  go_simp
  refine hK _ ?_
  clear hK K
  refine kAll_d _ (fun W hW hF => kStep_of fun K Q hK => ?_) ?_
  · have hcell := hW.cell C1.out (fun h => h)
    go_simp
    exact hK _ _ (Keep.refl _ _) rfl
  refine kAll_p (fun K hK => ?_)
  go_simp
  refine hK _ ?_
  clear hK K
  refine kAll_p (fun K hK => ?_)
  go_simp
  refine hK _ ?_
  clear hK K
  refine kAll_d _ (fun W hW hF => kStep_of fun K Q hK => ?_) ?_
  · have hcell := hW.cell C0.out (fun h => h)
    go_simp
    exact hK _ _ (Keep.refl _ _) rfl
  refine kAll_d _ (fun W hW hF => kStep_of fun K Q hK => ?_) ?_
  · go_simp
    refine (floor_any A n c l pa W (H.out.keep0 (keepD HK0.out hW)) hn).mono ?_
    rintro e w' ⟨rfl, hk⟩
    exact hK _ _ hk rfl
  refine kAll_p (fun K hK => ?_)
  go_simp
  refine hK _ ?_
  clear hK K
  refine kAll_p (fun K hK => ?_)
  go_simp
  refine hK _ ?_
  clear hK K
  refine kAll_nil (fun W hW hF => ?_)
  clear hF
  go_wp2
  go_ret
  exact ⟨rfl, keepD HK0.out hW⟩
end Go.Proofs.YtgoldgamjogadaaGreat

namespace Go.Proofs.YtgoldgamjogadaaGreat
open Go.RowKit

def getPr (p : ID) (x : Mem) : Bool := decide (x.id = p)
/-- the place by a predicate -/
def idxT (pr : Mem → Bool) (l : List Mem) : Int := match l.findIdx? pr with
  | some i => (i : Int)
  | none => -1
theorem idxT_hit (pr : Mem → Bool) (l : List Mem) (k : Nat) (hk : k < l.length) (hn : ∀ x ∈ l.take k, pr x = false) (hp : pr (l.getD k zeroMem) = true) : idxT pr l = (k : Int) := by
  have : l.findIdx? pr = some k := by
    rw [List.findIdx?_eq_some_iff_getElem]
    refine ⟨hk, by simpa [List.getD, hk] using hp, fun j hj => ?_⟩
    have := hn l[j] (List.mem_take_iff_getElem.2 ⟨j, by omega, rfl⟩)
    simp [this]
  simp [idxT, this]
theorem idxT_miss (pr : Mem → Bool) (l : List Mem) (hn : ∀ x ∈ l, pr x = false) : idxT pr l = -1 := by
  have : l.findIdx? pr = none := by
    rw [List.findIdx?_eq_none_iff]
    intro x hx; simp [hn x hx]
  simp [idxT, this]
theorem mem_take_one {α : Type} (l : List α) (k : Nat) (d : α) (h : k < l.length) (x : α) : x ∈ l.take (k + 1) ↔ x ∈ l.take k ∨ x = l.getD k d := by
  rw [List.take_succ_eq_append_getElem h]
  simp only [List.mem_append, List.mem_singleton, List.getD, List.getElem?_eq_getElem h, Option.getD_some]
def joinPr (x : Mem) : Bool := !okE x
theorem stB (s : Int) : (!(true && decide (1 ≤ s ∧ s ≤ 7))) = (decide (s < 1) || decide (7 < s)) := by
  by_cases h1 : s < 1 <;> by_cases h2 : 7 < s <;> simp [h1, h2] <;> omega
end Go.Proofs.YtgoldgamjogadaaGreat

namespace Go.Proofs.YtgoldgamjogadaaGreat
open Go.RowKit

def numT (x : Mem) : Bool := if x.st = 1 ∨ x.st = 2 then decide (x.no = 0) else if x.st = 3 ∨ x.st = 4 then decide (1 ≤ x.no ∧ x.no ≤ 1099511627776) else decide (0 ≤ x.no ∧ x.no ≤ 1099511627776)
set_option maxHeartbeats 400000 in
theorem num_any (x : Mem) (w : World) : Calls Tryz.prog 56 #[memV x] w (Tell (.bool (numT x)) w) := by
  obtain ⟨a, i, s, n⟩ := x
  have HO := Lib.hid (show numT ⟨a, i, s, n⟩ = if s = 1 ∨ s = 2 then decide (n = 0) else if s = 3 ∨ s = 4 then decide (1 ≤ n ∧ n ≤ 1099511627776) else decide (0 ≤ n ∧ n ≤ 1099511627776) from rfl)
  by_cases h1 : s = 1 ∨ s = 2
  · have H1 := Lib.hid h1
    rcases h1 with rfl | rfl
    all_goals
      go_enter Tryz.func56, Tryz.ntmps56
      go_wp2
      go_ret
      refine ⟨ret_bool ?_, (Keep.refl _ w).alloc _⟩
      rw [HO.out, if_pos H1.out, Bool.eq_iff_iff]; simp
  · have e1 : (s == 1) = false := by simp; omega
    have e2 : (s == 2) = false := by simp; omega
    by_cases h2 : s = 3 ∨ s = 4
    · have H2 := Lib.hid h2
      have H1 := Lib.hid h1
      clear h1
      rcases h2 with rfl | rfl
      all_goals
        go_enter Tryz.func56, Tryz.ntmps56
        go_wp2
      all_goals
        go_ret
        refine ⟨ret_bool ?_, (Keep.refl _ w).alloc _⟩
        rw [HO.out, if_neg H1.out, if_pos H2.out, Bool.eq_iff_iff]; simp; omega
    · have e3 : (s == 3) = false := by simp; omega
      have e4 : (s == 4) = false := by simp; omega
      have H2 := Lib.hid h2
      have H1 := Lib.hid h1
      clear h1 h2
      go_enter Tryz.func56, Tryz.ntmps56
      go_wp2
      all_goals
        go_ret
        refine ⟨ret_bool ?_, (Keep.refl _ w).alloc _⟩
        rw [HO.out, if_neg H1.out, if_neg H2.out, Bool.eq_iff_iff]; simp; omega

def maxNo (l : List Mem) : Int := l.foldl (fun n x => max n x.no) 0
def nextT (l : List Mem) : Int := if 1099511627776 ≤ maxNo l then maxNo l else maxNo l + 1
theorem maxNo_nonneg (l : List Mem) : 0 ≤ maxNo l := by
  have : ∀ (l : List Mem) (n : Int), 0 ≤ n → 0 ≤ l.foldl (fun n x => max n x.no) n := by
    intro l
    induction l with
    | nil => intro n hn; exact hn
    | cons x l ih => intro n hn; exact ih _ (by show 0 ≤ max n x.no; omega)
  exact this l 0 (by omega)
/-- the member of an ID -/
def getT (l : List Mem) (p : ID) : Option Mem := l.find? (getPr p)
def optV (o : Option Mem) : Value := .tuple #[memV (o.getD zeroMem), .bool o.isSome]
theorem idxT_cases (pr : Mem → Bool) (l : List Mem) : (idxT pr l = -1 ∧ l.find? pr = none) ∨ ∃ k : Nat, k < l.length ∧ idxT pr l = (k : Int) ∧ l.find? pr = some (l.getD k zeroMem) := by
  unfold idxT
  cases h : l.findIdx? pr with
  | none =>
    left
    rw [List.findIdx?_eq_none_iff] at h
    exact ⟨rfl, List.find?_eq_none.2 (by simpa using h)⟩
  | some k =>
    right
    rw [List.findIdx?_eq_some_iff_getElem] at h
    obtain ⟨hk, h1, h2⟩ := h
    refine ⟨k, hk, rfl, ?_⟩
    rw [List.find?_eq_some_iff_getElem]
    exact ⟨by simpa [List.getD, hk] using h1, k, hk, by simp [List.getD, hk], fun j hj => by simpa using h2 j hj⟩
end Go.Proofs.YtgoldgamjogadaaGreat

namespace Go.Proofs.YtgoldgamjogadaaGreat
open Go.RowKit

def atStep (a : Int) (o : Option Mem) (x : Mem) : Option Mem := if x.addr = a ∧ (o = none ∨ ∃ y, o = some y ∧ y.inc < x.inc) then some x else o
/-- the newest member of an address -/
def atT (l : List Mem) (a : Int) : Option Mem := l.foldl (fun o x => match o with
  | none => if x.addr = a then some x else none
  | some y => if x.addr = a ∧ y.inc < x.inc then some x else some y) none
theorem blk_mem {w : World} {g : Nat} {t : TypeId} {a i s m : Int} (h : Blk w g t #[.int .i64 a, .int .i64 i, .int .u8 s, .int .i64 m]) :
    w.cell? ⟨g, 0, none⟩ = some (.int .i64 a) ∧ w.cell? ⟨g, 1, none⟩ = some (.int .i64 i) ∧ w.cell? ⟨g, 2, none⟩ = some (.int .u8 s) ∧ w.cell? ⟨g, 3, none⟩ = some (.int .i64 m) ∧
    w.frozen? ⟨g, 0, none⟩ = false ∧ w.frozen? ⟨g, 1, none⟩ = false ∧ w.frozen? ⟨g, 2, none⟩ = false ∧ w.frozen? ⟨g, 3, none⟩ = false :=
  ⟨h.cell 0, h.cell 1, h.cell 2, h.cell 3, h.frozen 0, h.frozen 1, h.frozen 2, h.frozen 3⟩
theorem blk_mem_set {w : World} {g : Nat} {t : TypeId} {a i s m a' i' s' m' : Int} (h : Blk w g t #[.int .i64 a, .int .i64 i, .int .u8 s, .int .i64 m]) :
    Blk ((((w.setCell ⟨g, 0, none⟩ (.int .i64 a')).setCell ⟨g, 1, none⟩ (.int .i64 i')).setCell ⟨g, 2, none⟩ (.int .u8 s')).setCell ⟨g, 3, none⟩ (.int .i64 m')) g t #[.int .i64 a', .int .i64 i', .int .u8 s', .int .i64 m'] := by
  have := (((h.set_ 0 (.int .i64 a')).set_ 1 (.int .i64 i')).set_ 2 (.int .u8 s')).set_ 3 (.int .i64 m')
  simpa using this

end Go.Proofs.YtgoldgamjogadaaGreat
