/-
  Configurations, plain: lines put together; what is ahead of a wrong line.
-/
import Derived.Test.YtjgkalcldekmpaaGreatDoorCfgT
namespace Go.Proofs.YtjgkalcldekmpaaGreatDoor
open Go.RowKit Go Go.Shelf

theorem spl_mem {d : UInt8} : ∀ (l : Bs), ∀ x ∈ spl d l, x.contains d = false
  | [], x, hx => by
    have : x = [] := by simpa [spl] using hx
    subst this; rfl
  | c :: l, x, hx => by
    by_cases h : c = d
    · rw [spl, if_pos h] at hx
      rcases List.mem_cons.1 hx with rfl | hx
      · rfl
      · exact spl_mem l x hx
    · rw [spl, if_neg h] at hx
      rcases List.mem_cons.1 hx with rfl | hx
      · cases hs : spl d l with
        | nil => exact absurd hs (spl_ne d l)
        | cons y r =>
          have hy := spl_mem l y (by rw [hs]; exact List.mem_cons_self)
          rw [List.headD_cons, List.contains_cons, hy, Bool.or_false, beq_eq_false_iff_ne]
          exact fun e => h e.symm
      · exact spl_mem l x (List.mem_of_mem_tail hx)
theorem spl_app {d : UInt8} : ∀ (a b : Bs), spl d (a ++ d :: b) = spl d a ++ spl d b
  | [], b => by
    rw [show spl d ([] ++ d :: b) = [] :: spl d b from if_pos rfl]; rfl
  | x :: a, b => by
    show spl d (x :: (a ++ d :: b)) = _
    by_cases h : x = d
    · rw [spl, if_pos h, spl_app a b, spl, if_pos h]; rfl
    · rw [spl, if_neg h, spl_app a b, spl, if_neg h]
      cases hs : spl d a with
      | nil => exact absurd hs (spl_ne d a)
      | cons y r => rfl
theorem join_cat (sep : Bs) (a b : List Bs) (ha : a ≠ []) (hb : b ≠ []) : Lib.join (a ++ b) sep = Lib.join a sep ++ sep ++ Lib.join b sep := by
  cases a with
  | nil => exact absurd rfl ha
  | cons x r =>
    cases b with
    | nil => exact absurd rfl hb
    | cons y s =>
      rw [List.cons_append, Lib.join_cons, Lib.join_cons, Lib.join_cons]
      simp [Lib.joinTail]
theorem spl_join {d : UInt8} : ∀ (ls : List Bs), ls ≠ [] → (∀ x ∈ ls, x.contains d = false) → spl d (Lib.join ls [d]) = ls
  | [], h, _ => absurd rfl h
  | [x], _, hx => by rw [Lib.join_one, spl_none (hx x List.mem_cons_self)]
  | x :: y :: r, _, hx => by
    have h1 := join_cat [d] [x] (y :: r) (by simp) (by simp)
    rw [List.singleton_append, Lib.join_one, List.append_assoc] at h1
    rw [h1]
    show spl d (x ++ d :: Lib.join (y :: r) [d]) = _
    rw [spl_at _ (hx x List.mem_cons_self), spl_join (y :: r) (by simp) (fun z hz => hx z (List.mem_cons_of_mem _ hz))]
theorem join_spl {d : UInt8} : ∀ (l : Bs), Lib.join (spl d l) [d] = l
  | [] => rfl
  | c :: l => by
    have ih := join_spl (d := d) l
    by_cases h : c = d
    · rw [spl, if_pos h]
      have h1 := join_cat [d] [[]] (spl d l) (by simp) (spl_ne d l)
      rw [List.singleton_append, Lib.join_one, ih] at h1
      rw [h1, h]; rfl
    · rw [spl, if_neg h]
      cases hs : spl d l with
      | nil => exact absurd hs (spl_ne d l)
      | cons y r =>
        rw [hs, Lib.join_cons] at ih
        rw [List.headD_cons, List.tail_cons, Lib.join_cons, List.cons_append, ih]
theorem join_take_len (ls : List Bs) (sep : Bs) (k : Nat) : (Lib.join (ls.take k) sep).length ≤ (Lib.join ls sep).length := by
  by_cases h1 : ls.take k = []
  · rw [h1, Lib.join_nil]; exact Nat.zero_le _
  · by_cases h2 : ls.drop k = []
    · have := List.take_append_drop k ls
      rw [h2, List.append_nil] at this
      rw [this]; exact Nat.le_refl _
    · have := join_cat sep _ _ h1 h2
      rw [List.take_append_drop] at this
      rw [this, List.length_append, List.length_append]; omega
/-- the lines of a list of texts -/
def nlL (ls : List Bs) : List LnT := (List.range ls.length).map fun (k : Nat) => mkL ((k : Int) + 1) (lineM (ls.getD k []))
theorem nl_eq (s : Bs) : nl s = nlL (spl 10 s) := rfl
theorem nlL_len (ls : List Bs) : (nlL ls).length = ls.length := by simp [nlL]
theorem nlL_get (ls : List Bs) {k : Nat} (hk : k < ls.length) : (nlL ls)[k]? = some (mkL ((k : Int) + 1) (lineM (ls.getD k []))) := by
  unfold nlL
  rw [List.getElem?_map, List.getElem?_range hk]; rfl
theorem nlL_take (a b : List Bs) : (nlL (a ++ b)).take a.length = nlL a := by
  apply List.ext_getElem?
  intro k
  rw [List.getElem?_take]
  by_cases hk : k < a.length
  · rw [if_pos hk, nlL_get _ hk, nlL_get _ (by rw [List.length_append]; omega)]
    simp [List.getD, List.getElem?_append_left hk]
  · rw [if_neg hk, List.getElem?_eq_none (by rw [nlL_len]; omega)]
theorem pstep_at {st : PSt} {x : LnT} {e : Int × Int} (h : pstep st x = .error e) : e.1 = x.1.1 ∧ (e.2 = 4 ∨ e.2 = 6) := by
  unfold pstep at h
  split at h
  · cases h
  · split at h
    · injection h with h; subst h; exact ⟨rfl, .inl rfl⟩
    · split at h
      · injection h with h; subst h; exact ⟨rfl, .inl rfl⟩
      · split at h
        · injection h with h; subst h; exact ⟨rfl, .inr rfl⟩
        · cases h
theorem pfold_split : ∀ (xs : List LnT) (st : PSt) (e : Int × Int), xs.foldlM pstep st = .error e → ∃ k st', k < xs.length ∧ (xs.take k).foldlM pstep st = .ok st' ∧ ∃ x, xs[k]? = some x ∧ pstep st' x = .error e
  | [], st, e, h => by simp [List.foldlM, pure, Except.pure] at h
  | x :: xs, st, e, h => by
    rw [List.foldlM_cons] at h
    cases hq : pstep st x with
    | error e' =>
      rw [hq] at h
      have : e' = e := by injection h
      subst this
      exact ⟨0, st, by simp, rfl, x, rfl, hq⟩
    | ok s1 =>
      rw [hq] at h
      obtain ⟨k, st', hk, h1, y, h2, h3⟩ := pfold_split xs s1 e h
      refine ⟨k + 1, st', by simpa using hk, ?_, y, by simpa using h2, h3⟩
      rw [List.take_succ_cons, List.foldlM_cons, hq]
      exact h1
theorem mkL_at (k : Int) (l : Bs) : (mkL k l).1.1 = k := by unfold mkL; split <;> rfl
/-- a wrong line: its place; those ahead are right -/
theorem wrong_at {ls : List Bs} {e : Int × Int} (h : pfold (nlL ls) = .error e) : ∃ k, k < ls.length ∧ e.1 = (k : Int) + 1 ∧ (e.2 = 4 ∨ e.2 = 6) ∧ (∃ st, pfold (nlL (ls.take k)) = .ok st) ∧ pfold (nlL (ls.take (k + 1))) = .error e := by
  obtain ⟨k, st, hk, h1, x, hx, h3⟩ := pfold_split _ _ _ h
  rw [nlL_len] at hk
  have hx' := hx
  rw [nlL_get ls hk] at hx'
  injection hx' with hx'
  obtain ⟨e1, e2⟩ := pstep_at h3
  have t : ∀ j, (nlL ls).take j = nlL (ls.take j) := fun j => by
    by_cases hj : j ≤ ls.length
    · have := nlL_take (ls.take j) (ls.drop j)
      rwa [List.take_append_drop, List.length_take, Nat.min_eq_left hj] at this
    · rw [List.take_of_length_le (by rw [nlL_len]; omega), List.take_of_length_le (by omega)]
  refine ⟨k, hk, by rw [e1, ← hx', mkL_at], e2, ⟨st, by rw [← t]; exact h1⟩, ?_⟩
  rw [← t, List.take_add_one, hx]
  show pfold ((nlL ls).take k ++ [x]) = _
  rw [pfold_snoc]
  have h1' : pfold ((nlL ls).take k) = .ok st := h1
  rw [h1', Except.bind, h3]
theorem parseM_of {s : Bs} {xs : List LnT} (h : nl s = xs) : parseM s = match pfold xs with
  | .error e => (zeroCfg, e.1, e.2)
  | .ok st => if mayM st.1 then (st.1, 0, 0) else (zeroCfg, 0, 1) := by rw [← h]; rfl
theorem parseM_right {s : Bs} {st : PSt} (h : pfold (nl s) = .ok st) : ∃ c f, parseM s = (c, 0, f) ∧ (f = 0 ∨ f = 1) := by
  rw [parseM_ok h]
  split
  · exact ⟨_, _, rfl, .inl rfl⟩
  · exact ⟨_, _, rfl, .inr rfl⟩
/-- Parse, and its lines -/
theorem parse_cases (s : Bs) : (∃ c f, parseM s = (c, 0, f) ∧ (f = 0 ∨ f = 1)) ∨
    ∃ (k : Nat) (e : Int), k < (spl 10 s).length ∧ parseM s = (zeroCfg, (k : Int) + 1, e) ∧ (e = 4 ∨ e = 6) ∧ (∃ st, pfold (nlL ((spl 10 s).take k)) = .ok st) ∧ pfold (nlL ((spl 10 s).take (k + 1))) = .error ((k : Int) + 1, e) := by
  cases h : pfold (nl s) with
  | ok st => exact .inl (parseM_right h)
  | error e =>
    obtain ⟨k, hk, e1, e2, h1, h2⟩ := wrong_at (ls := spl 10 s) h
    refine .inr ⟨k, e.2, hk, by unfold parseM; rw [h]; show (zeroCfg, e.1, e.2) = _; rw [e1], e2, h1, ?_⟩
    rw [h2, ← e1]
theorem nl_join {ls : List Bs} (h0 : ls ≠ []) (h : ∀ x ∈ ls, x.contains 10 = false) : nl (Lib.join ls [10]) = nlL ls := by rw [nl_eq, spl_join ls h0 h]
theorem nl_nil : ∃ st, pfold (nl []) = .ok st := ⟨(zeroCfg, []), by kernel_rfl⟩
/-- without the wrong line, and those behind it -/
theorem first_ahead {s : Bs} {k : Nat} {st : PSt} (h : pfold (nlL ((spl 10 s).take k)) = .ok st) : ∃ c f, parseM (Lib.join ((spl 10 s).take k) [10]) = (c, 0, f) ∧ (f = 0 ∨ f = 1) := by
  by_cases h0 : (spl 10 s).take k = []
  · rw [h0, Lib.join_nil]
    obtain ⟨st, h⟩ := nl_nil
    exact parseM_right h
  · exact parseM_right (st := st) (by rw [nl_join h0 (fun x hx => spl_mem s x (List.mem_of_mem_take hx))]; exact h)
/-- another text behind the wrong line -/
theorem first_behind {s b : Bs} {k : Nat} {e : Int × Int} (h : pfold (nlL ((spl 10 s).take (k + 1))) = .error e) : parseM (Lib.join ((spl 10 s).take (k + 1)) [10] ++ [10] ++ b) = (zeroCfg, e.1, e.2) := by
  have hne : (spl 10 s).take (k + 1) ≠ [] := fun e => by
    have := congrArg List.length e
    rw [List.length_take] at this
    simp at this
    exact spl_ne _ _ this
  have e1 : spl 10 (Lib.join ((spl 10 s).take (k + 1)) [10] ++ [10] ++ b) = (spl 10 s).take (k + 1) ++ spl 10 b := by
    rw [List.append_assoc]
    show spl 10 (_ ++ 10 :: b) = _
    rw [spl_app, spl_join _ hne (fun x hx => spl_mem s x (List.mem_of_mem_take hx))]
  have e2 := nlL_take ((spl 10 s).take (k + 1)) (spl 10 b)
  have e3 : pfold (nl (Lib.join ((spl 10 s).take (k + 1)) [10] ++ [10] ++ b)) = .error e := by
    rw [nl_eq, e1]
    have := pfold_err (ys := (nlL ((spl 10 s).take (k + 1) ++ spl 10 b)).drop ((spl 10 s).take (k + 1)).length) h
    rwa [← e2, List.take_append_drop] at this
  unfold parseM; rw [e3]
end Go.Proofs.YtjgkalcldekmpaaGreatDoor
