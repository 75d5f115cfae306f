/-
  Configurations, plain: the fold over lines without their numbers; a line that stands twice; lines in whatever row.
-/
import Derived.Test.YtjgkalcldekmpaaGreatDoorCfgU
namespace Go.Proofs.YtjgkalcldekmpaaGreatDoor
open Go.RowKit Go Go.Shelf

/-- one line, without its number -/
def core (st : PSt) (l : Bs) : Except Int PSt :=
  if l = [] then .ok st
  else if (cutM 61 l).2.2 = false ∨ keyN (trimM (cutM 61 l).1) = 17 then .error 4
  else match setM (keyN (trimM (cutM 61 l).1)) st.1 (trimM (cutM 61 l).2.1) with
    | none => .error 4
    | some c => if keyN (trimM (cutM 61 l).1) ∈ st.2 then .error 6 else .ok (c, keyN (trimM (cutM 61 l).1) :: st.2)
def num1 (at_ : Int) : Except Int PSt → Except (Int × Int) PSt
  | .error e => .error (at_, e)
  | .ok s => .ok s
theorem pstep_core (st : PSt) (x : LnT) : pstep st x = num1 x.1.1 (core st x.1.2) := by
  unfold pstep core
  by_cases h1 : x.1.2 = []
  · rw [if_pos h1, if_pos h1]; rfl
  · rw [if_neg h1, if_neg h1]
    by_cases h2 : (cutM 61 x.1.2).2.2 = false ∨ keyN (trimM (cutM 61 x.1.2).1) = 17
    · rw [if_pos h2, if_pos h2]; rfl
    · rw [if_neg h2, if_neg h2]
      cases setM (keyN (trimM (cutM 61 x.1.2).1)) st.1 (trimM (cutM 61 x.1.2).2.1) with
      | none => rfl
      | some c =>
        by_cases h3 : keyN (trimM (cutM 61 x.1.2).1) ∈ st.2
        · simp only [if_pos h3]; rfl
        · simp only [if_neg h3]; rfl
def nlFrom (k : Nat) (ls : List Bs) : List LnT := (List.range ls.length).map fun (i : Nat) => mkL (((k + i : Nat) : Int) + 1) (lineM (ls.getD i []))
theorem nlFrom_zero (ls : List Bs) : nlFrom 0 ls = nlL ls := by unfold nlFrom nlL; simp
theorem nlFrom_cons (k : Nat) (l : Bs) (ls : List Bs) : nlFrom k (l :: ls) = mkL ((k : Int) + 1) (lineM l) :: nlFrom (k + 1) ls := by
  unfold nlFrom
  rw [List.length_cons, List.range_succ_eq_map, List.map_cons, List.map_map]
  congr 1
  apply List.map_congr_left
  intro i _
  simp only [Function.comp_apply, List.getD_cons_succ, Nat.succ_eq_add_one]
  rw [show k + (i + 1) = k + 1 + i by omega]
theorem nlFrom_app (k : Nat) (a b : List Bs) : nlFrom k (a ++ b) = nlFrom k a ++ nlFrom (k + a.length) b := by
  induction a generalizing k with
  | nil => rfl
  | cons x a ih => rw [List.cons_append, nlFrom_cons, nlFrom_cons, ih, List.cons_append, List.length_cons, show k + 1 + a.length = k + (a.length + 1) by omega]
theorem fold_core : ∀ (ls : List Bs) (k : Nat) (st st' : PSt), (∀ l ∈ ls, l.length ≤ 40000000) → ((nlFrom k ls).foldlM pstep st = .ok st' ↔ (ls.map lineM).foldlM core st = .ok st')
  | [], k, st, st', _ => by simp [nlFrom, pure, Except.pure]
  | l :: ls, k, st, st', h => by
    rw [nlFrom_cons, List.foldlM_cons, List.map_cons, List.foldlM_cons, pstep_core]
    have hl : (mkL ((k : Int) + 1) (lineM l)).1 = ((k : Int) + 1, lineM l) := mkL_val (Nat.le_trans (lineM_len l) (h l List.mem_cons_self))
    rw [hl]
    cases hc : core st (lineM l) with
    | error e => simp [num1, bind, Except.bind]
    | ok s1 => exact fold_core ls (k + 1) s1 st' (fun x hx => h x (List.mem_cons_of_mem _ hx))
theorem pfold_core {ls : List Bs} {st : PSt} (h : ∀ l ∈ ls, l.length ≤ 40000000) : pfold (nlL ls) = .ok st ↔ (ls.map lineM).foldlM core (zeroCfg, []) = .ok st := by
  rw [← nlFrom_zero]; exact fold_core ls 0 _ _ h
/-- what a key's set does depends on the text alone -/
theorem setM_form (i : Nat) (h0 : i ≠ 0) (l : Bs) : (∀ c, setM i c l = none) ∨ ∃ x, ∀ c, setM i c l = some ⟨c.seeds, upd c.v i x⟩ := by
  unfold setM
  simp only [if_neg h0]
  by_cases h8 : i = 8
  · simp only [if_pos h8]
    by_cases hm : l ∈ NMS.tail
    · right; exact ⟨_, fun c => by rw [if_pos hm, h8]⟩
    · left; intro c; rw [if_neg hm]
  · simp only [if_neg h8]
    by_cases hf : i = 10 ∨ i = 11
    · simp only [if_pos hf]
      by_cases hy : l = yesB
      · right; exact ⟨_, fun c => if_pos hy⟩
      · by_cases hn : l = noB
        · right; exact ⟨_, fun c => by rw [if_neg hy, if_pos hn]⟩
        · left; intro c; rw [if_neg hy, if_neg hn]
    · simp only [if_neg hf]
      cases numM l with
      | none => left; intro c; rfl
      | some n => right; exact ⟨n, fun c => rfl⟩
theorem setM_form0 (l : Bs) : (∀ c, setM 0 c l = none) ∨ ∃ s, ∀ c, setM 0 c l = some ⟨c.seeds ++ s, c.v⟩ := by
  cases h : seedsM l with
  | none => left; intro c; rw [setM_seeds, h]; rfl
  | some s => right; exact ⟨s, fun c => by rw [setM_seeds, h]; rfl⟩
theorem setM_some {i : Nat} {c d c' : Cfg} {l : Bs} (h : setM i c l = some c') : ∃ d', setM i d l = some d' := by
  by_cases h0 : i = 0
  · subst h0
    rcases setM_form0 l with q | ⟨s, q⟩
    · rw [q] at h; cases h
    · exact ⟨_, q d⟩
  · rcases setM_form i h0 l with q | ⟨x, q⟩
    · rw [q] at h; cases h
    · exact ⟨_, q d⟩
theorem upd_comm (v : Nat → Int) {i j : Nat} (h : i ≠ j) (x y : Int) : upd (upd v i x) j y = upd (upd v j y) i x := by
  funext k
  unfold upd
  by_cases h1 : k = j
  · rw [if_pos h1]
    by_cases h2 : k = i
    · exact absurd (h2.symm.trans h1) h
    · rw [if_neg h2, if_pos h1]
  · rw [if_neg h1, if_neg h1]
theorem setM_comm {i j : Nat} (hij : i ≠ j) {c c1 c2 : Cfg} {a b : Bs} (h1 : setM i c a = some c1) (h2 : setM j c1 b = some c2) : ∃ d1, setM j c b = some d1 ∧ setM i d1 a = some c2 := by
  by_cases hi : i = 0
  · subst hi
    rcases setM_form0 a with q | ⟨s, q⟩
    · rw [q] at h1; cases h1
    · rw [q] at h1; injection h1 with h1; subst h1
      rcases setM_form j (fun e => hij e.symm) b with r | ⟨y, r⟩
      · rw [r] at h2; cases h2
      · rw [r] at h2; injection h2 with h2; subst h2
        exact ⟨_, r c, q _⟩
  · rcases setM_form i hi a with q | ⟨x, q⟩
    · rw [q] at h1; cases h1
    · rw [q] at h1; injection h1 with h1; subst h1
      by_cases hj : j = 0
      · subst hj
        rcases setM_form0 b with r | ⟨s, r⟩
        · rw [r] at h2; cases h2
        · rw [r] at h2; injection h2 with h2; subst h2
          exact ⟨_, r c, q _⟩
      · rcases setM_form j hj b with r | ⟨y, r⟩
        · rw [r] at h2; cases h2
        · rw [r] at h2; injection h2 with h2; subst h2
          exact ⟨_, r c, by rw [q]; simp only []; rw [upd_comm c.v hij]⟩
/-- what a line that is no blank one has done -/
theorem core_ok {st st' : PSt} {l : Bs} (h : core st l = .ok st') : (l = [] ∧ st' = st) ∨ (l ≠ [] ∧ ∃ i v c, i ∉ st.2 ∧ setM i st.1 v = some c ∧ st' = (c, i :: st.2) ∧
    ∀ t : PSt, core t l = match setM i t.1 v with | none => .error 4 | some c => if i ∈ t.2 then .error 6 else .ok (c, i :: t.2)) := by
  by_cases hl : l = []
  · left
    unfold core at h
    rw [if_pos hl] at h
    injection h with h
    exact ⟨hl, h.symm⟩
  · right
    refine ⟨hl, keyN (trimM (cutM 61 l).1), trimM (cutM 61 l).2.1, ?_⟩
    unfold core at h
    rw [if_neg hl] at h
    split at h
    · cases h
    · rename_i hk
      split at h
      · cases h
      · rename_i c hc
        split at h
        · cases h
        · rename_i hn
          injection h with h
          refine ⟨c, hn, hc, h.symm, fun t => ?_⟩
          unfold core
          rw [if_neg hl, if_neg hk]
theorem core_mono {st st' : PSt} {l : Bs} (h : core st l = .ok st') : ∀ i ∈ st.2, i ∈ st'.2 := by
  rcases core_ok h with ⟨_, rfl⟩ | ⟨_, i, v, c, _, _, rfl, _⟩
  · exact fun i hi => hi
  · exact fun j hj => List.mem_cons_of_mem _ hj
theorem fold_mono : ∀ (ls : List Bs) (st st' : PSt), ls.foldlM core st = .ok st' → ∀ i ∈ st.2, i ∈ st'.2
  | [], st, st', h => by
    simp [List.foldlM, pure, Except.pure] at h; subst h; exact fun i hi => hi
  | l :: ls, st, st', h => by
    rw [List.foldlM_cons] at h
    cases hq : core st l with
    | error e => rw [hq] at h; cases h
    | ok s1 => rw [hq] at h; exact fun i hi => fold_mono ls s1 st' h i (core_mono hq i hi)
theorem fold_app {a b : List Bs} {st st' : PSt} (h : (a ++ b).foldlM core st = .ok st') : ∃ s1, a.foldlM core st = .ok s1 ∧ b.foldlM core s1 = .ok st' := by
  rw [List.foldlM_append] at h
  cases hq : a.foldlM core st with
  | error e => rw [hq] at h; cases h
  | ok s1 => rw [hq] at h; exact ⟨s1, rfl, h⟩
/-- a line that stands once more, behind -/
theorem again {a : List Bs} {st s1 : PSt} {x : Bs} (h : a.foldlM core st = .ok s1) (hx : x ∈ a) (hne : x ≠ []) : core s1 x = .error 6 := by
  obtain ⟨p, q, rfl⟩ := List.append_of_mem hx
  obtain ⟨t, h1, h2⟩ := fold_app h
  rw [List.foldlM_cons] at h2
  cases hq : core t x with
  | error e => rw [hq] at h2; cases h2
  | ok t2 =>
    rw [hq] at h2
    rcases core_ok hq with ⟨e, _⟩ | ⟨_, i, v, c, _, hc, rfl, hall⟩
    · exact absurd e hne
    · have hin : i ∈ s1.2 := fold_mono q _ _ h2 i List.mem_cons_self
      obtain ⟨d, hd⟩ := setM_some (d := s1.1) hc
      rw [hall s1, hd]
      exact if_pos hin
/-- blank lines say nothing -/
theorem fold_skip (ls : List Bs) (st : PSt) : ls.foldlM core st = (ls.filter (fun l => decide (l ≠ []))).foldlM core st := by
  induction ls generalizing st with
  | nil => rfl
  | cons l ls ih =>
    by_cases h : l = []
    · have h1 : core st l = .ok st := by unfold core; rw [if_pos h]
      rw [List.foldlM_cons, h1, List.filter_cons_of_neg (by simp [h])]
      exact ih st
    · rw [List.filter_cons_of_pos (by simp [h]), List.foldlM_cons, List.foldlM_cons]
      cases core st l with
      | error e => rfl
      | ok s1 => exact ih s1
def Eqv (s t : PSt) : Prop := s.1 = t.1 ∧ ∀ i, i ∈ s.2 ↔ i ∈ t.2
theorem Eqv.refl (s : PSt) : Eqv s s := ⟨rfl, fun _ => Iff.rfl⟩
theorem Eqv.trans {a b c : PSt} (h : Eqv a b) (k : Eqv b c) : Eqv a c := ⟨h.1.trans k.1, fun i => (h.2 i).trans (k.2 i)⟩
theorem core_eqv {s t s' : PSt} {l : Bs} (h : core s l = .ok s') (e : Eqv s t) : ∃ t', core t l = .ok t' ∧ Eqv s' t' := by
  rcases core_ok h with ⟨hl, rfl⟩ | ⟨_, i, v, c, hn, hc, rfl, hall⟩
  · exact ⟨t, by unfold core; rw [if_pos hl], e⟩
  · refine ⟨(c, i :: t.2), ?_, rfl, fun j => by simp [e.2 j]⟩
    rw [hall t, ← e.1, hc]
    exact if_neg (fun q => hn ((e.2 i).2 q))
theorem core_swap {s s1 s2 : PSt} {a b : Bs} (h1 : core s a = .ok s1) (h2 : core s1 b = .ok s2) : ∃ t1 t2, core s b = .ok t1 ∧ core t1 a = .ok t2 ∧ Eqv s2 t2 := by
  rcases core_ok h1 with ⟨ha, rfl⟩ | ⟨_, i, v, c, hn, hc, rfl, halla⟩
  · exact ⟨s2, s2, h2, by unfold core; rw [if_pos ha], Eqv.refl _⟩
  · rcases core_ok h2 with ⟨hb, rfl⟩ | ⟨_, j, u, d, hm, hd, rfl, hallb⟩
    · exact ⟨s, _, by unfold core; rw [if_pos hb], h1, Eqv.refl _⟩
    · have hij : i ≠ j := fun e => hm (by rw [← e]; exact List.mem_cons_self)
      obtain ⟨d1, q1, q2⟩ := setM_comm hij hc hd
      refine ⟨(d1, j :: s.2), (d, i :: j :: s.2), ?_, ?_, rfl, fun x => by simp only [List.mem_cons]; exact or_left_comm⟩
      · rw [hallb s, q1]
        exact if_neg (fun q => hm (List.mem_cons_of_mem _ q))
      · rw [halla, q2]
        refine if_neg (fun q => ?_)
        rcases List.mem_cons.1 q with e | e
        · exact hij e
        · exact hn e
theorem fold_perm {l l' : List Bs} (h : l.Perm l') : ∀ s t s', Eqv s t → l.foldlM core s = .ok s' → ∃ t', l'.foldlM core t = .ok t' ∧ Eqv s' t' := by
  induction h with
  | nil =>
    intro s t s' e hs
    simp [List.foldlM, pure, Except.pure] at hs
    subst hs
    exact ⟨t, rfl, e⟩
  | cons x _ ih =>
    intro s t s' e hs
    rw [List.foldlM_cons] at hs
    cases hq : core s x with
    | error _ => rw [hq] at hs; cases hs
    | ok s1 =>
      rw [hq] at hs
      obtain ⟨t1, q1, q2⟩ := core_eqv hq e
      obtain ⟨t', q3, q4⟩ := ih s1 t1 s' q2 hs
      exact ⟨t', by rw [List.foldlM_cons, q1]; exact q3, q4⟩
  | swap x y l =>
    intro s t s' e hs
    rw [List.foldlM_cons] at hs
    cases hq : core s y with
    | error _ => rw [hq] at hs; cases hs
    | ok s1 =>
      rw [hq] at hs
      have hs2 : (x :: l).foldlM core s1 = .ok s' := hs
      rw [List.foldlM_cons] at hs2
      cases hq2 : core s1 x with
      | error _ => rw [hq2] at hs2; cases hs2
      | ok s2 =>
        rw [hq2] at hs2
        obtain ⟨u1, u2, q1, q2, q3⟩ := core_swap hq hq2
        obtain ⟨t1, r1, r2⟩ := core_eqv q1 e
        obtain ⟨t2, r3, r4⟩ := core_eqv q2 r2
        have e4 : Eqv s2 t2 := q3.trans r4
        have fin : ∀ (l : List Bs) (s t s' : PSt), Eqv s t → l.foldlM core s = .ok s' → ∃ t', l.foldlM core t = .ok t' ∧ Eqv s' t' := by
          intro l
          induction l with
          | nil =>
            intro s t s' e hs
            simp [List.foldlM, pure, Except.pure] at hs
            subst hs
            exact ⟨t, rfl, e⟩
          | cons x l ih =>
            intro s t s' e hs
            rw [List.foldlM_cons] at hs
            cases hq : core s x with
            | error _ => rw [hq] at hs; cases hs
            | ok s1 =>
              rw [hq] at hs
              obtain ⟨t1, q1, q2⟩ := core_eqv hq e
              obtain ⟨t', q3, q4⟩ := ih s1 t1 s' q2 hs
              exact ⟨t', by rw [List.foldlM_cons, q1]; exact q3, q4⟩
        obtain ⟨t', f1, f2⟩ := fin l s2 t2 s' e4 hs2
        refine ⟨t', ?_, f2⟩
        rw [List.foldlM_cons, r1]
        show (y :: l).foldlM core t1 = _
        rw [List.foldlM_cons, r3]
        exact f1
  | trans _ _ ih1 ih2 =>
    intro s t s' e hs
    obtain ⟨t1, q1, q2⟩ := ih1 s t s' e hs
    obtain ⟨t2, q3, q4⟩ := ih2 t t t1 (Eqv.refl _) q1
    exact ⟨t2, q3, q2.trans q4⟩
end Go.Proofs.YtjgkalcldekmpaaGreatDoor
