/-
  The ring: plain laws.
-/
import Derived.Test.YtafolmgbmobfbaaSetP
namespace Go.Proofs.Ytafolmgbmobfbaa
/-- the ring behind somebody -/
def ordM (ids : List ID) (me : ID) : List ID := ids.filter (fun x => !decide (x = me) && ltID me x) ++ ids.filter (fun x => !decide (x = me) && !ltID me x)
theorem ordM_mem (ids : List ID) (me x : ID) : x ∈ ordM ids me ↔ x ∈ ids ∧ x ≠ me := by
  unfold ordM
  simp only [List.mem_append, List.mem_filter, Bool.and_eq_true, Bool.not_eq_true', decide_eq_false_iff_not]
  cases ltID me x <;> simp
theorem ordM_nodup {ids : List ID} (h : Ris ids) (me : ID) : (ordM ids me).Nodup := by
  unfold ordM
  rw [List.nodup_append]
  refine ⟨h.nodup.filter _, h.nodup.filter _, ?_⟩
  rintro a ha b hb rfl
  rw [List.mem_filter] at ha hb
  simp only [Bool.and_eq_true, Bool.not_eq_true'] at ha hb
  rw [ha.2.2] at hb
  exact absurd hb.2.2 (by simp)
theorem ordM_split {L R : List ID} {x : ID} (h : Ris (L ++ x :: R)) : ordM (L ++ x :: R) x = R ++ L := by
  unfold Ris at h
  rw [List.pairwise_append, List.pairwise_cons] at h
  obtain ⟨h1, ⟨h2, h3⟩, h4⟩ := h
  have hL : ∀ a ∈ L, ltID a x = true := fun a ha => h4 a ha x (by simp)
  unfold ordM
  simp only [List.filter_append, List.filter_cons, decide_true, Bool.not_true, Bool.false_and]
  have e1 : L.filter (fun y => !decide (y = x) && ltID x y) = [] := by
    rw [List.filter_eq_nil_iff]
    intro a ha
    rw [lt_asym (hL a ha)]; simp
  have e2 : R.filter (fun y => !decide (y = x) && ltID x y) = R := by
    rw [List.filter_eq_self]
    intro a ha
    rw [h2 a ha]; simp [Ne.symm (lt_ne (h2 a ha))]
  have e3 : L.filter (fun y => !decide (y = x) && !ltID x y) = L := by
    rw [List.filter_eq_self]
    intro a ha
    rw [lt_asym (hL a ha)]; simp [lt_ne (hL a ha)]
  have e4 : R.filter (fun y => !decide (y = x) && !ltID x y) = [] := by
    rw [List.filter_eq_nil_iff]
    intro a ha
    rw [h2 a ha]; simp
  rw [e1, e2, e3, e4]
  simp
theorem ordM_len (ids : List ID) (me : ID) : (ordM ids me).length ≤ ids.length := by
  unfold ordM
  rw [List.length_append]
  induction ids with
  | nil => simp
  | cons a l ih => simp only [List.filter_cons]; cases decide (a = me) <;> cases ltID me a <;> simp <;> omega

/-- one round of Watched -/
def watS (not : List ID) (s : List ID × Int) (x : ID) : List ID × Int :=
  if x ∈ not then (setM (s.1 ++ [x]), s.2) else if s.2 > 0 then (setM (s.1 ++ [x]), s.2 - 1) else s
def watM (not ids : List ID) (me : ID) (n : Int) : List ID := ((ordM ids me).foldl (watS not) ([], n)).1
theorem setM_setM_app (a b : List ID) : setM (setM a ++ b) = setM (a ++ b) := setM_ext (fun x => by simp [setM_mem])
theorem wat_fold (not : List ID) : ∀ (o acc : List ID) (n : Int), Ris acc →
    (o.foldl (watS not) (acc, n)).1 = setM (acc ++ (o.filter (fun x => decide (x ∈ not)) ++ (o.filter (fun x => !decide (x ∈ not))).take n.toNat))
  | [], acc, n, h => by simp [setM_of_ris h]
  | x :: o, acc, n, h => by
    rw [List.foldl_cons]
    by_cases hx : x ∈ not
    · have e : watS not (acc, n) x = (setM (acc ++ [x]), n) := by unfold watS; rw [if_pos hx]
      rw [e, wat_fold not o _ n (setM_ris _), setM_setM_app]
      simp [hx]
    · by_cases hn : n > 0
      · have e : watS not (acc, n) x = (setM (acc ++ [x]), n - 1) := by unfold watS; rw [if_neg hx, if_pos hn]
        rw [e, wat_fold not o _ _ (setM_ris _), setM_setM_app]
        simp only [List.filter_cons, hx, decide_false, Bool.not_false, if_true, Bool.false_eq_true, if_false]
        rw [show n.toNat = (n - 1).toNat + 1 by omega, List.take_succ_cons]
        apply setM_ext
        intro y
        simp only [List.mem_append, List.mem_cons, List.not_mem_nil, or_false]
        constructor
        · rintro ((h | h) | h | h)
          · exact .inl h
          · exact .inr (.inr (.inl h))
          · exact .inr (.inl h)
          · exact .inr (.inr (.inr h))
        · rintro (h | h | h | h)
          · exact .inl (.inl h)
          · exact .inr (.inl h)
          · exact .inl (.inr h)
          · exact .inr (.inr h)
      · have e : watS not (acc, n) x = (acc, n) := by unfold watS; rw [if_neg hx, if_neg hn]
        rw [e, wat_fold not o _ n h]
        simp only [List.filter_cons, hx, decide_false, Bool.not_false, if_true, Bool.false_eq_true, if_false]
        rw [show n.toNat = 0 by omega, List.take_zero, List.take_zero]
/-- whom Watched tells, before they are put in order -/
def watL (not ids : List ID) (me : ID) (n : Int) : List ID :=
  (ordM ids me).filter (fun x => decide (x ∈ not)) ++ ((ordM ids me).filter (fun x => !decide (x ∈ not))).take n.toNat
theorem watM_eq (not ids : List ID) (me : ID) (n : Int) : watM not ids me n = setM (watL not ids me n) := by
  unfold watM watL; rw [wat_fold not _ _ _ ris_nil]; simp
theorem watM_ris (not ids : List ID) (me : ID) (n : Int) : Ris (watM not ids me n) := by rw [watM_eq]; exact setM_ris _
theorem watM_mem (not ids : List ID) (me : ID) (n : Int) (x : ID) : x ∈ watM not ids me n ↔ x ∈ watL not ids me n := by rw [watM_eq, setM_mem]
theorem watL_sub (not ids : List ID) (me : ID) (n : Int) (x : ID) (h : x ∈ watL not ids me n) : x ∈ ordM ids me := by
  unfold watL at h
  rcases List.mem_append.1 h with h | h
  · exact (List.mem_filter.1 h).1
  · exact (List.mem_filter.1 (List.mem_of_mem_take h)).1
theorem watL_nodup {ids : List ID} (h : Ris ids) (not : List ID) (me : ID) (n : Int) : (watL not ids me n).Nodup := by
  unfold watL
  rw [List.nodup_append]
  refine ⟨(ordM_nodup h me).filter _, ((ordM_nodup h me).filter _).sublist (List.take_sublist _ _), ?_⟩
  rintro a ha b hb rfl
  rw [List.mem_filter] at ha
  have := (List.mem_filter.1 (List.mem_of_mem_take hb)).2
  rw [ha.2] at this
  cases this
theorem setM_len_nodup {l : List ID} (h : l.Nodup) : (setM l).length = l.length :=
  ((List.perm_ext_iff_of_nodup (setM_ris l).nodup h).2 (setM_mem l)).length_eq
/-- how many of the IDs, but me, are in not; and how many are not -/
def inM (not ids : List ID) (me : ID) : Nat := (ids.filter (fun x => !decide (x = me) && decide (x ∈ not))).length
def othM (not ids : List ID) (me : ID) : Nat := (ids.filter (fun x => !decide (x = me) && !decide (x ∈ not))).length
theorem ordM_filter_len (ids : List ID) (me : ID) (p : ID → Bool) : ((ordM ids me).filter p).length = (ids.filter (fun x => !decide (x = me) && p x)).length := by
  unfold ordM
  rw [List.filter_append, List.length_append, List.filter_filter, List.filter_filter]
  induction ids with
  | nil => rfl
  | cons a l ih =>
    simp only [List.filter_cons]
    cases decide (a = me) <;> cases ltID me a <;> cases p a <;> simp <;> omega
theorem watM_len {ids : List ID} (h : Ris ids) (not : List ID) (me : ID) (n : Int) : ((watM not ids me n).length : Int) = inM not ids me + max 0 (min n (othM not ids me)) := by
  rw [watM_eq, setM_len_nodup (watL_nodup h not me n)]
  unfold watL inM othM
  rw [List.length_append, List.length_take, ordM_filter_len, ordM_filter_len]
  omega
theorem watM_more (not ids : List ID) (me : ID) (n k : Int) (hk : n ≤ k) (x : ID) (h : x ∈ watM not ids me n) : x ∈ watM not ids me k := by
  rw [watM_mem] at h ⊢
  unfold watL at h ⊢
  rw [List.mem_append] at h ⊢
  refine h.imp id fun h => ?_
  exact (List.take_sublist_take_left (by omega)).mem h
theorem behind_first {ids : List ID} (h : Ris ids) {of b : ID} (hof : of ∈ ids) (hb : (ordM ids of).getLast? = some b) : ∃ r, ordM ids b = of :: r := by
  obtain ⟨L, R, rfl⟩ := List.append_of_mem hof
  rw [ordM_split h] at hb
  rcases List.eq_nil_or_concat L with rfl | ⟨L', b', rfl⟩
  · rw [List.append_nil] at hb
    rcases List.eq_nil_or_concat R with rfl | ⟨R', b', rfl⟩
    · simp at hb
    · simp only [List.concat_eq_append, List.getLast?_append, List.getLast?_singleton, Option.some_or, Option.some.injEq] at hb
      subst hb
      have e : [] ++ of :: R'.concat b' = (of :: R') ++ b' :: [] := by simp
      rw [e] at h ⊢
      rw [ordM_split h]
      exact ⟨R', by simp⟩
  · simp only [List.concat_eq_append, ← List.append_assoc, List.getLast?_append, List.getLast?_singleton, Option.some_or, Option.some.injEq] at hb
    subst hb
    have e : L'.concat b' ++ of :: R = L' ++ b' :: (of :: R) := by simp
    rw [e] at h ⊢
    rw [ordM_split h]
    exact ⟨_, rfl⟩
theorem behind_none {ids : List ID} (h : Ris ids) {of : ID} (hof : of ∈ ids) (hb : ordM ids of = []) : ids.length = 1 := by
  obtain ⟨L, R, rfl⟩ := List.append_of_mem hof
  rw [ordM_split h] at hb
  obtain ⟨rfl, rfl⟩ := List.append_eq_nil_iff.1 hb
  rfl
theorem watM_first (not ids : List ID) (me x : ID) (n : Int) (hn : 1 ≤ n) (r : List ID) (h : ordM ids me = x :: r) : x ∈ watM not ids me n := by
  rw [watM_mem]
  unfold watL
  rw [h, List.mem_append]
  by_cases hx : x ∈ not
  · left; simp [hx]
  · right
    rw [show n.toNat = (n.toNat - 1) + 1 by omega]
    simp [hx]
theorem ordM_turn {ids : List ID} (h : Ris ids) {x me : ID} {P S : List ID} (hx : x ∈ ids) (e : ordM ids x = P ++ me :: S) : ordM ids me = S ++ x :: P := by
  obtain ⟨L, R, rfl⟩ := List.append_of_mem hx
  rw [ordM_split h] at e
  rcases List.append_eq_append_iff.1 e with ⟨P1, rfl, e2⟩ | ⟨S1, e1, e2⟩
  · subst e2
    have q : (P1 ++ me :: S) ++ x :: R = P1 ++ me :: (S ++ x :: R) := by simp
    rw [q] at h ⊢
    rw [ordM_split h]
    simp
  · rcases S1 with _ | ⟨y, S1⟩
    · rw [List.append_nil] at e1
      rw [List.nil_append] at e2
      subst e1 e2
      have q : (me :: S) ++ x :: R = [] ++ me :: (S ++ x :: R) := by simp
      rw [q] at h ⊢
      rw [ordM_split h]
      simp
    · rw [List.cons_append, List.cons.injEq] at e2
      obtain ⟨rfl, rfl⟩ := e2
      subst e1
      have q : L ++ x :: (P ++ me :: S1) = (L ++ x :: P) ++ me :: S1 := by simp
      rw [q] at h ⊢
      rw [ordM_split h]
      simp
/-- one round: of those that are watched, all that are no nodes -/
def finK (here not w : List ID) : List ID := w.foldl (fun acc x => if x ∈ here then acc else setM (acc ++ [x])) not
theorem finK_mem (here : List ID) : ∀ (w not : List ID) (x : ID), x ∈ finK here not w ↔ x ∈ not ∨ (x ∈ w ∧ x ∉ here)
  | [], not, x => by simp [finK]
  | y :: w, not, x => by
    have ih := finK_mem here w (if y ∈ here then not else setM (not ++ [y])) x
    unfold finK at ih ⊢
    rw [List.foldl_cons, ih]
    by_cases hy : y ∈ here
    · simp only [if_pos hy, List.mem_cons]
      constructor
      · rintro (h | ⟨h1, h2⟩)
        · exact .inl h
        · exact .inr ⟨.inr h1, h2⟩
      · rintro (h | ⟨h1 | h1, h2⟩)
        · exact .inl h
        · subst h1; exact absurd hy h2
        · exact .inr ⟨h1, h2⟩
    · simp only [if_neg hy, setM_mem, List.mem_append, List.mem_cons, List.not_mem_nil, or_false]
      constructor
      · rintro ((h | h) | ⟨h1, h2⟩)
        · exact .inl h
        · subst h; exact .inr ⟨.inl rfl, hy⟩
        · exact .inr ⟨.inr h1, h2⟩
      · rintro (h | ⟨h1 | h1, h2⟩)
        · exact .inl (.inl h)
        · exact .inl (.inr h1)
        · exact .inr ⟨h1, h2⟩
/-- what a node does not reach behind r rounds -/
def nkM (ids here : List ID) (n : Int) (me : ID) : Nat → List ID
  | 0 => []
  | r + 1 => finK here (nkM ids here n me r) (watM (nkM ids here n me r) ids me n)
theorem nkM_sub (ids here : List ID) (n : Int) (me x : ID) : ∀ r, x ∈ nkM ids here n me r → x ∈ ids ∧ x ∉ here
  | 0, h => by simp [nkM] at h
  | r + 1, h => by
    rw [nkM, finK_mem] at h
    rcases h with h | ⟨h1, h2⟩
    · exact nkM_sub ids here n me x r h
    · rw [watM_mem] at h1
      exact ⟨((ordM_mem _ _ _).1 (watL_sub _ _ _ _ _ h1)).1, h2⟩
theorem nkM_first (ids here : List ID) (n : Int) (me : ID) (hn : 1 ≤ n) (o s : List ID) (ho : ordM ids me = o ++ s) (hh : ∀ y ∈ o, y ∉ here) : ∀ r, ∀ y ∈ o.take r, y ∈ nkM ids here n me r
  | 0, y, h => by simp at h
  | r + 1, y, h => by
    have ih := nkM_first ids here n me hn o s ho hh r
    rw [nkM, finK_mem]
    by_cases hy : y ∈ nkM ids here n me r
    · exact .inl hy
    · have hr : r < o.length := by
        rcases Nat.lt_or_ge r o.length with hlt | hge
        · exact hlt
        · rw [List.take_of_length_le (by omega)] at h
          exact absurd (ih y (by rw [List.take_of_length_le hge]; exact h)) hy
      rw [List.take_succ_eq_append_getElem hr, List.mem_append, List.mem_singleton] at h
      rcases h with h | h
      · exact absurd (ih y h) hy
      · refine .inr ⟨?_, hh y (by rw [h]; exact List.getElem_mem hr)⟩
        rw [watM_mem]
        unfold watL
        rw [List.mem_append]
        right
        have e : ordM ids me = o.take r ++ y :: (o.drop (r + 1) ++ s) := by
          rw [ho, h, show o.take r ++ o[r] :: (o.drop (r + 1) ++ s) = (o.take r ++ o.drop r) ++ s by rw [List.drop_eq_getElem_cons hr, List.append_assoc, List.cons_append], List.take_append_drop]
        rw [e, List.filter_append]
        have e0 : (o.take r).filter (fun x => !decide (x ∈ nkM ids here n me r)) = [] := by
          rw [List.filter_eq_nil_iff]
          intro a ha
          simp [ih a ha]
        rw [e0, List.nil_append, List.filter_cons]
        simp only [hy, decide_false, Bool.not_false, if_true]
        rw [show n.toNat = (n.toNat - 1) + 1 by omega]
        simp
theorem last_in (here : List ID) : ∀ (l : List ID), (∃ y ∈ l, y ∈ here) → ∃ P me S, l = P ++ me :: S ∧ me ∈ here ∧ ∀ y ∈ S, y ∉ here
  | [], ⟨y, h, _⟩ => by cases h
  | a :: l, ⟨y, h1, h2⟩ => by
    by_cases hl : ∃ y ∈ l, y ∈ here
    · obtain ⟨P, me, S, rfl, h3, h4⟩ := last_in here l hl
      exact ⟨a :: P, me, S, rfl, h3, h4⟩
    · refine ⟨[], a, l, rfl, ?_, fun y hy hh => hl ⟨y, hy, hh⟩⟩
      rcases List.mem_cons.1 h1 with e | e
      · rw [← e]; exact h2
      · exact absurd ⟨y, e, h2⟩ hl
theorem finds {ids here : List ID} (h : Ris ids) (hs : ∀ x ∈ here, x ∈ ids) (hne : here ≠ []) (n : Int) (hn : 1 ≤ n) (x : ID) :
    (∃ me ∈ here, x ∈ nkM ids here n me ids.length) ↔ x ∈ ids ∧ x ∉ here := by
  constructor
  · rintro ⟨me, _, hx⟩
    exact nkM_sub _ _ _ _ _ _ hx
  · rintro ⟨h1, h2⟩
    obtain ⟨b, hb⟩ := List.exists_mem_of_ne_nil here hne
    obtain ⟨P, me, S, e, h3, h4⟩ := last_in here (ordM ids x) ⟨b, (ordM_mem _ _ _).2 ⟨hs b hb, fun e => h2 (e ▸ hb)⟩, hb⟩
    refine ⟨me, h3, ?_⟩
    have e2 := ordM_turn h h1 e
    have hlen := ordM_len ids me
    rw [e2] at hlen
    simp at hlen
    refine nkM_first ids here n me hn (S ++ [x]) P (by rw [e2]; simp) (fun y hy => ?_) ids.length x ?_
    · rcases List.mem_append.1 hy with hy | hy
      · exact h4 y hy
      · rw [List.mem_singleton] at hy; rw [hy]; exact h2
    · rw [List.take_of_length_le (by simp; omega)]; simp
end Go.Proofs.Ytafolmgbmobfbaa
