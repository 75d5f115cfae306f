/-
  Sets of IDs: plain laws: what rises, the set of a list, an ID in its place.
-/
import Derived.Test.YtlfpefnlgiohbaaGreatCmp
import Derived.Test.YtlfpefnlgiohbaaGreatCmpctP
namespace Go.Proofs.YtlfpefnlgiohbaaGreat
set_option maxRecDepth 100000
theorem lt_irr (a : ID) : ltID a a = false := by simp [ltID]
theorem lt_trans {a b c : ID} (h : ltID a b = true) (k : ltID b c = true) : ltID a c = true := by
  simp only [ltID, decide_eq_true_eq] at *; omega
theorem lt_asym {a b : ID} (h : ltID a b = true) : ltID b a = false := by
  simp only [ltID, decide_eq_true_eq, decide_eq_false_iff_not] at *; omega
theorem lt_tri (a b : ID) : ltID a b = true ∨ a = b ∨ ltID b a = true := by
  obtain ⟨a1, a2⟩ := a
  obtain ⟨b1, b2⟩ := b
  simp only [ltID, decide_eq_true_eq, Prod.mk.injEq]; omega
theorem lt_ne {a b : ID} (h : ltID a b = true) : a ≠ b := by
  rintro rfl; rw [lt_irr] at h; cases h
theorem eq_of_nlt {a b : ID} (h : ltID a b = false) (k : ltID b a = false) : a = b := by
  rcases lt_tri a b with e | e | e
  · rw [e] at h; cases h
  · exact e
  · rw [e] at k; cases k

/-- each stands ahead of the next one -/
def Ris (l : List ID) : Prop := l.Pairwise (fun a b => ltID a b = true)
theorem ris_nil : Ris [] := List.Pairwise.nil
theorem ris_one (a : ID) : Ris [a] := List.pairwise_singleton _ _
theorem ris_ext : ∀ {l m : List ID}, Ris l → Ris m → (∀ x, x ∈ l ↔ x ∈ m) → l = m
  | [], [], _, _, _ => rfl
  | [], b :: m, _, _, h => by have := (h b).2 (by simp); cases this
  | a :: l, [], _, _, h => by have := (h a).1 (by simp); cases this
  | a :: l, b :: m, hl, hm, h => by
    unfold Ris at hl hm
    rw [List.pairwise_cons] at hl hm
    have e : a = b := by
      have h1 := (h a).1 (by simp)
      have h2 := (h b).2 (by simp)
      rw [List.mem_cons] at h1 h2
      rcases h1 with h1 | h1
      · exact h1
      · rcases h2 with h2 | h2
        · exact h2.symm
        · have q1 := hm.1 a h1
          have q2 := hl.1 b h2
          rw [lt_asym q1] at q2; cases q2
    subst e
    rw [ris_ext hl.2 hm.2 (fun x => ?_)]
    have hx := h x
    constructor
    · intro hxl
      have := hx.1 (List.mem_cons_of_mem _ hxl)
      rcases List.mem_cons.1 this with e | e
      · subst e; have := hl.1 x hxl; rw [lt_irr] at this; cases this
      · exact e
    · intro hxm
      have := hx.2 (List.mem_cons_of_mem _ hxm)
      rcases List.mem_cons.1 this with e | e
      · subst e; have := hm.1 x hxm; rw [lt_irr] at this; cases this
      · exact e
theorem Ris.filter {l : List ID} (h : Ris l) (p : ID → Bool) : Ris (l.filter p) := List.Pairwise.filter p h
theorem Ris.nodup {l : List ID} (h : Ris l) : l.Nodup := List.Pairwise.imp (fun h => lt_ne h) h
theorem Ris.sub {l m : List ID} (h : Ris m) (s : List.Sublist l m) : Ris l := List.Pairwise.sublist s h

/-- sorted: none stands ahead of one that is ahead of it -/
def sortM (l : List ID) : List ID := l.mergeSort (fun x y => !ltID y x)
theorem sortM_mem (l : List ID) (x : ID) : x ∈ sortM l ↔ x ∈ l := List.mem_mergeSort
theorem sortM_len (l : List ID) : (sortM l).length = l.length := List.length_mergeSort l
theorem sortM_pw (l : List ID) : (sortM l).Pairwise (fun a b => ltID b a = false) := by
  have h := List.pairwise_mergeSort (le := fun x y => !ltID y x) (fun a b c h k => by
    simp only [Bool.not_eq_true', ltID, decide_eq_false_iff_not] at *; omega) (fun a b => by
    simp only [Bool.or_eq_true, Bool.not_eq_true', ltID, decide_eq_false_iff_not]; omega) l
  exact h.imp (fun h => by simpa using h)
theorem dk_mem (l : List ID) : ∀ m, m ≤ l.length → ∀ x, x ∈ dk l m ↔ x ∈ l.take m
  | 0, _, x => by simp [dk]
  | m + 1, h, x => by
    have ih := dk_mem l m (by omega)
    have hl : m < l.length := by omega
    have e : l.getD m (0, 0) = l[m] := by simp [List.getD, hl]
    rw [List.take_succ_eq_append_getElem hl, List.mem_append, List.mem_singleton, ← ih x]
    rw [dk]
    split
    · rename_i hs
      constructor
      · exact fun h => .inl h
      · rintro (h | h)
        · exact h
        · rw [ih]
          subst h
          rw [← e, hs.2]
          have : m - 1 < l.length := by omega
          simp only [List.getD, List.getElem?_eq_getElem this, Option.getD_some]
          rw [List.mem_take_iff_getElem]
          exact ⟨m - 1, by omega, rfl⟩
    · rw [List.mem_append, List.mem_singleton, e]
theorem dk_last (l : List ID) : ∀ m, 1 ≤ m → (dk l m).getLast? = some (l.getD (m - 1) (0, 0))
  | 0, h => by omega
  | m + 1, _ => by
    unfold dk
    split
    · rename_i hs
      rw [dk_last l m hs.1, Nat.add_sub_cancel, hs.2]
    · simp
theorem dk_ris (l : List ID) (h : l.Pairwise (fun a b => ltID b a = false)) : ∀ m, m ≤ l.length → Ris (dk l m)
  | 0, _ => by simp [dk, Ris]
  | m + 1, hm => by
    have ih := dk_ris l h m (by omega)
    have hl : m < l.length := by omega
    unfold dk
    split
    · exact ih
    · rename_i hs
      unfold Ris
      rw [List.pairwise_append]
      refine ⟨ih, List.pairwise_singleton _ _, fun a ha b hb => ?_⟩
      rw [List.mem_singleton] at hb
      subst hb
      rw [dk_mem l m (by omega)] at ha
      rw [List.mem_take_iff_getElem] at ha
      obtain ⟨i, hi, rfl⟩ := ha
      have e : l.getD m (0, 0) = l[m] := by simp [List.getD, hl]
      have e1 : l.getD (m - 1) (0, 0) = l[m - 1] := by simp [List.getD, (by omega : m - 1 < l.length)]
      have hm1 : 1 ≤ m := by omega
      rw [e, e1] at hs
      rw [e]
      have hP := List.pairwise_iff_getElem.1 h
      have q1 : ltID l[m] l[m-1] = false := hP (m - 1) m (by omega) hl (by omega)
      have q2 : ltID l[m - 1] l[m] = true := by
        rcases lt_tri l[m - 1] l[m] with c | c | c
        · exact c
        · exact absurd ⟨hm1, c.symm⟩ hs
        · rw [q1] at c; cases c
      by_cases hi1 : i = m - 1
      · subst hi1; exact q2
      · have q3 : ltID l[m - 1] l[i] = false := hP i (m - 1) (by omega) (by omega) (by omega)
        rcases lt_tri l[i] l[m - 1] with c | c | c
        · exact lt_trans c q2
        · rw [c]; exact q2
        · rw [q3] at c; cases c
/-- the set of a list -/
def setM (l : List ID) : List ID := dk (sortM l) (sortM l).length
theorem setM_ris (l : List ID) : Ris (setM l) := dk_ris _ (sortM_pw l) _ (Nat.le_refl _)
theorem setM_mem (l : List ID) (x : ID) : x ∈ setM l ↔ x ∈ l := by
  unfold setM; rw [dk_mem _ _ (Nat.le_refl _), List.take_length, sortM_mem]
theorem setM_of_ris {l : List ID} (h : Ris l) : setM l = l := ris_ext (setM_ris l) h (setM_mem l)
theorem setM_nil : setM [] = [] := setM_of_ris ris_nil
theorem setM_ext {l m : List ID} (h : ∀ x, x ∈ l ↔ x ∈ m) : setM l = setM m := ris_ext (setM_ris l) (setM_ris m) (fun x => by rw [setM_mem, setM_mem, h])
theorem setM_len (l : List ID) : (setM l).length ≤ l.length := by
  have : (dk (sortM l) (sortM l).length).length ≤ (sortM l).length := by
    generalize (sortM l).length = m
    induction m with
    | zero => simp [dk]
    | succ m ih => unfold dk; split
                   · omega
                   · simp; omega
  rw [sortM_len] at this
  unfold setM
  rw [sortM_len]
  exact this
/-- the reference's put: an ID in its place -/
def putR (l : List ID) (x : ID) : List ID := if x ∈ l then l else l.filter (fun y => ltID y x) ++ x :: l.filter (fun y => !ltID y x)
theorem putR_mem (l : List ID) (x y : ID) : y ∈ putR l x ↔ y = x ∨ y ∈ l := by
  unfold putR
  split
  · rename_i h
    constructor
    · exact .inr
    · rintro (rfl | e)
      · exact h
      · exact e
  · simp only [List.mem_append, List.mem_filter, List.mem_cons]
    cases ltID y x <;> simp [or_comm]
theorem putR_ris {l : List ID} (h : Ris l) (x : ID) : Ris (putR l x) := by
  unfold putR
  split
  · exact h
  · rename_i hx
    unfold Ris
    rw [List.pairwise_append, List.pairwise_cons]
    refine ⟨h.filter _, ⟨fun b hb => ?_, h.filter _⟩, fun a ha b hb => ?_⟩
    · rw [List.mem_filter] at hb
      rcases lt_tri x b with c | c | c
      · exact c
      · subst c; exact absurd hb.1 hx
      · rw [c] at hb; simp at hb
    · rw [List.mem_filter] at ha
      rw [List.mem_cons, List.mem_filter] at hb
      rcases hb with rfl | hb
      · exact ha.2
      · rcases lt_tri b x with c | c | c
        · rw [c] at hb; simp at hb
        · subst c; exact ha.2
        · exact lt_trans ha.2 c
theorem putR_set {l : List ID} (h : Ris l) (x : ID) : putR l x = setM (l ++ [x]) :=
  ris_ext (putR_ris h x) (setM_ris _) (fun y => by rw [putR_mem, setM_mem]; simp [or_comm])
theorem putR_len (l : List ID) (x : ID) : (putR l x).length ≤ l.length + 1 := by
  unfold putR
  split
  · omega
  · have : ∀ l : List ID, (l.filter (fun y => ltID y x)).length + (l.filter (fun y => !ltID y x)).length = l.length := by
      intro l
      induction l with
      | nil => rfl
      | cons a l ih => simp only [List.filter_cons]; cases ltID a x <;> simp <;> omega
    simp only [List.length_append, List.length_cons]
    have := this l
    omega
theorem foldl_putR : ∀ (m l : List ID), Ris l → m.foldl putR l = setM (l ++ m)
  | [], l, h => by simp [setM_of_ris h]
  | x :: m, l, h => by
    rw [List.foldl_cons, foldl_putR m _ (putR_ris h x)]
    apply setM_ext
    intro y
    simp only [List.mem_append, List.mem_cons, putR_mem]
    rw [or_assoc, or_left_comm]
end Go.Proofs.YtlfpefnlgiohbaaGreat
