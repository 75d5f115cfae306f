/-
  Configurations, plain: what ConfigTwice and ConfigRows ask.
-/
import Derived.Test.YtjgkalcldekmpaaGreatDoorCfgV
namespace Go.Proofs.YtjgkalcldekmpaaGreatDoor
open Go.RowKit Go Go.Shelf

def blB (x : UInt8) : Bool := ([32, 9] : Bs).contains x
theorem drop_app {p : UInt8 → Bool} {a : Bs} (b : Bs) (h : a.all p = true) : (a ++ b).dropWhile p = b.dropWhile p := by
  induction a with
  | nil => rfl
  | cons x a ih =>
    simp only [List.all_cons, Bool.and_eq_true] at h
    rw [List.cons_append, List.dropWhile_cons_of_pos h.1, ih h.2]
theorem drop_app2 {p : UInt8 → Bool} {a : Bs} (b : Bs) (h : a.all p = false) : (a ++ b).dropWhile p = a.dropWhile p ++ b := by
  induction a with
  | nil => cases h
  | cons x a ih =>
    by_cases hx : p x = true
    · rw [List.cons_append, List.dropWhile_cons_of_pos hx, List.dropWhile_cons_of_pos hx]
      exact ih (by simpa [hx] using h)
    · rw [List.cons_append, List.dropWhile_cons_of_neg hx, List.dropWhile_cons_of_neg hx]; rfl
theorem drop_all {p : UInt8 → Bool} {a : Bs} (h : a.all p = true) : a.dropWhile p = [] := by
  have := drop_app (p := p) [] h
  rwa [List.append_nil] at this
theorem drop_nil {p : UInt8 → Bool} {a : Bs} (h : a.dropWhile p = []) : a.all p = true := by
  induction a with
  | nil => rfl
  | cons x a ih =>
    by_cases hx : p x = true
    · rw [List.dropWhile_cons_of_pos hx] at h
      simp [hx, ih h]
    · rw [List.dropWhile_cons_of_neg hx] at h; cases h
theorem all_rev {p : UInt8 → Bool} (a : Bs) : a.reverse.all p = a.all p := by simp
theorem trimM_def (l : Bs) : trimM l = ((l.reverse.dropWhile blB).reverse).dropWhile blB := rfl
theorem trimM_nil {l : Bs} : trimM l = [] ↔ l.all blB = true := by
  constructor
  · intro h
    rw [trimM_def] at h
    have h1 := drop_nil h
    rw [all_rev] at h1
    rw [← all_rev]
    by_cases h2 : l.reverse.all blB = true
    · exact h2
    · exfalso
      cases hd : l.reverse.dropWhile blB with
      | nil => exact h2 (drop_nil hd)
      | cons x r =>
        rw [hd] at h1
        have hx : blB x = false := by
          have := List.head?_dropWhile_not blB l.reverse
          rw [hd] at this
          simpa using this
        simp [hx] at h1
  · intro h
    rw [trimM_def, drop_all (a := l.reverse) (by rw [all_rev]; exact h)]
    rfl
theorem trim_right (l b : Bs) (h : b.all blB = true) : trimM (l ++ b) = trimM l := by
  rw [trimM_def, trimM_def, List.reverse_append, drop_app _ (by rw [all_rev]; exact h)]
theorem trim_left (l b : Bs) (h : b.all blB = true) : trimM (b ++ l) = trimM l := by
  by_cases hl : l.all blB = true
  · rw [trimM_nil.2 hl, trimM_nil.2 (by rw [List.all_append, h, hl]; rfl)]
  · rw [trimM_def, trimM_def, List.reverse_append, drop_app2 _ (by rw [all_rev]; simpa using hl), List.reverse_append, List.reverse_reverse, drop_app _ h]
theorem take_app {d : UInt8} (a b : Bs) : (a ++ d :: b).takeWhile (· != d) = a.takeWhile (· != d) := by
  induction a with
  | nil => simp
  | cons x a ih =>
    by_cases hx : (x != d) = true
    · rw [List.cons_append, List.takeWhile_cons_of_pos (p := (· != d)) hx, List.takeWhile_cons_of_pos (p := (· != d)) hx, ih]
    · rw [List.cons_append, List.takeWhile_cons_of_neg (p := (· != d)) hx, List.takeWhile_cons_of_neg (p := (· != d)) hx]
theorem take_app2 {d : UInt8} (a b : Bs) (hb : ∀ x ∈ b, (x != d) = true) : (a ++ b).takeWhile (· != d) = a.takeWhile (· != d) ∨ (a ++ b).takeWhile (· != d) = a.takeWhile (· != d) ++ b := by
  induction a with
  | nil =>
    right
    have : b.takeWhile (· != d) = b := by
      induction b with
      | nil => rfl
      | cons y b ih => rw [List.takeWhile_cons_of_pos (p := (· != d)) (hb y List.mem_cons_self), ih (fun x hx => hb x (List.mem_cons_of_mem _ hx))]
    simpa using this
  | cons x a ih =>
    by_cases hx : (x != d) = true
    · rw [List.cons_append, List.takeWhile_cons_of_pos (p := (· != d)) hx, List.takeWhile_cons_of_pos (p := (· != d)) hx]
      rcases ih with e | e
      · left; rw [e]
      · right; rw [e]; rfl
    · left
      rw [List.cons_append, List.takeWhile_cons_of_neg (p := (· != d)) hx, List.takeWhile_cons_of_neg (p := (· != d)) hx]
/-- a line with blanks around, and a remark -/
theorem lineM_deco (l r : Bs) : lineM ([32, 9] ++ l ++ [32, 32, 35] ++ r) = lineM l := by
  show trimM (List.takeWhile (· != 35) _) = trimM (List.takeWhile (· != 35) l)
  have e : [32, 9] ++ l ++ [32, 32, 35] ++ r = ([32, 9] ++ (l ++ [32, 32])) ++ 35 :: r := by simp
  rw [e, take_app]
  have h1 : (([32, 9] : Bs) ++ (l ++ [32, 32])).takeWhile (· != 35) = [32, 9] ++ (l ++ [32, 32]).takeWhile (· != 35) := rfl
  rw [h1, trim_left _ _ (by decide)]
  rcases take_app2 (d := 35) l [32, 32] (by decide) with e | e
  · rw [e]
  · rw [e, trim_right _ _ (by decide)]
theorem lineM_remark (r : Bs) : lineM ([35, 32] ++ r) = [] := rfl
/-- does a line say something? -/
def keyB (l : Bs) : Bool := (l.takeWhile (· != 35)).any fun x => !blB x
theorem keyB_line (l : Bs) : keyB l = decide (lineM l ≠ []) := by
  unfold keyB
  have h := trimM_nil (l := l.takeWhile (· != 35))
  have e : lineM l = trimM (l.takeWhile (· != 35)) := rfl
  by_cases hn : lineM l = []
  · rw [decide_eq_false (by simpa using hn)]
    have := h.1 (e ▸ hn)
    rw [List.any_eq_false]
    intro x hx
    rw [List.all_eq_true] at this
    simp [this x hx]
  · rw [decide_eq_true hn]
    have hf : (l.takeWhile (· != 35)).all blB ≠ true := fun q => hn (by rw [e]; exact h.2 q)
    rw [List.any_eq_true]
    have := List.all_eq_false.1 (by simpa using hf)
    obtain ⟨x, hx, hb⟩ := this
    exact ⟨x, hx, by simpa using hb⟩
/-- a line once more -/
def tw (ls : List Bs) (k n : Nat) : List Bs := ls.take n ++ [ls.getD k []] ++ ls.drop n
theorem tw_mem {ls : List Bs} {k n : Nat} (hk : k < ls.length) : ∀ x ∈ tw ls k n, x ∈ ls := by
  intro x hx
  unfold tw at hx
  rcases List.mem_append.1 hx with h | h
  · rcases List.mem_append.1 h with h | h
    · exact List.mem_of_mem_take h
    · rw [List.mem_singleton.1 h]
      simp [List.getD, List.getElem?_eq_getElem hk]
  · exact List.mem_of_mem_drop h
theorem twice_law {s : Bs} {st : PSt} (h : pfold (nl s) = .ok st) (hs : s.length ≤ 40000000) {k n : Nat} (hk : k < n) (hn : n ≤ (spl 10 s).length) :
    (keyB ((spl 10 s).getD k []) = false → ∃ c f, parseM (Lib.join (tw (spl 10 s) k n) [10]) = (c, 0, f)) ∧
    (keyB ((spl 10 s).getD k []) = true → parseM (Lib.join (tw (spl 10 s) k n) [10]) = (zeroCfg, (n : Int) + 1, 6)) := by
  have hm : ∀ x ∈ spl 10 s, x.length ≤ 40000000 := fun x hx => Nat.le_trans (spl_len 10 s x hx) hs
  have hne : tw (spl 10 s) k n ≠ [] := by unfold tw; simp
  have hnl : nl (Lib.join (tw (spl 10 s) k n) [10]) = nlL (tw (spl 10 s) k n) := nl_join hne (fun x hx => spl_mem s x (tw_mem (by omega) x hx))
  have hc := (pfold_core hm).1 h
  generalize spl 10 s = ls at *
  have hc2 : (((ls.take n).map lineM) ++ ((ls.drop n).map lineM)).foldlM core (zeroCfg, []) = .ok st := by rw [← List.map_append, List.take_append_drop]; exact hc
  obtain ⟨s1, h1, h2⟩ := fold_app hc2
  rw [keyB_line]
  constructor
  · intro hb
    have hb : lineM (ls.getD k []) = [] := by simpa using hb
    have e : ((tw ls k n).map lineM).foldlM core (zeroCfg, []) = .ok st := by
      unfold tw
      rw [fold_skip, List.map_append, List.map_append, List.filter_append, List.filter_append, List.map_cons, List.map_nil, hb]
      rw [show List.filter (fun l => decide (l ≠ [])) ([[]] : List Bs) = [] from rfl, List.append_nil, ← List.filter_append, ← fold_skip]
      exact hc2
    obtain ⟨c, f, hp, _⟩ := parseM_right (s := Lib.join (tw ls k n) [10]) (st := st) (by rw [hnl]; exact (pfold_core (fun x hx => hm x (tw_mem (by omega) x hx))).2 e)
    exact ⟨c, f, hp⟩
  · intro hb
    have hb : lineM (ls.getD k []) ≠ [] := by simpa using hb
    have hx : lineM (ls.getD k []) ∈ (ls.take n).map lineM := by
      refine List.mem_map.2 ⟨_, ?_, rfl⟩
      have hkl : k < (ls.take n).length := by rw [List.length_take]; omega
      have : ls.getD k [] = (ls.take n)[k] := by simp [List.getD, List.getElem?_eq_getElem (show k < ls.length by omega)]
      rw [this]; exact List.getElem_mem _
    have h6 := again h1 hx hb
    have hf : pfold (nlFrom 0 (ls.take n)) = .ok s1 := (fold_core _ 0 _ _ (fun x hx => hm x (List.mem_of_mem_take hx))).2 h1
    have hxl : (ls.getD k []).length ≤ 40000000 := by
      have : ls.getD k [] ∈ ls := by simp [List.getD, List.getElem?_eq_getElem (show k < ls.length by omega)]
      exact hm _ this
    have e : pfold (nlL (tw ls k n)) = .error ((n : Int) + 1, 6) := by
      unfold tw
      rw [← nlFrom_zero, List.append_assoc, nlFrom_app, List.singleton_append, nlFrom_cons, List.length_take, Nat.min_eq_left hn, Nat.zero_add]
      unfold pfold at hf ⊢
      rw [List.foldlM_append, hf]
      show List.foldlM pstep s1 (_ :: _) = _
      rw [List.foldlM_cons, pstep_core, mkL_val (Nat.le_trans (lineM_len _) hxl)]
      rw [h6]; rfl
    unfold parseM
    rw [hnl, e]
/-- lines turned, with blanks and remarks -/
def tri (r l : Bs) : List Bs := [[32, 9] ++ l ++ [32, 32, 35] ++ r, [35, 32] ++ r, []]
def turned (r : Bs) (ls : List Bs) (k j : Nat) : List Bs := (List.range j).flatMap fun i => tri r (ls.getD ((i + k) % ls.length) [])
theorem turned_succ (r : Bs) (ls : List Bs) (k j : Nat) : turned r ls k (j + 1) = turned r ls k j ++ tri r (ls.getD ((j + k) % ls.length) []) := by
  unfold turned; rw [List.range_succ, List.flatMap_append]; simp
theorem rot_eq (ls : List Bs) {k : Nat} (hk : k < ls.length) : ((List.range ls.length).map fun i => ls.getD ((i + k) % ls.length) []) = ls.drop k ++ ls.take k := by
  apply List.ext_getElem?
  intro i
  by_cases hi : i < ls.length
  · rw [List.getElem?_map, List.getElem?_range hi, Option.map_some]
    by_cases h1 : i < ls.length - k
    · rw [List.getElem?_append_left (by rw [List.length_drop]; omega), List.getElem?_drop, Nat.mod_eq_of_lt (by omega), List.getD, Nat.add_comm i k, List.getElem?_eq_getElem (by omega)]
      rfl
    · rw [List.getElem?_append_right (by rw [List.length_drop]; omega), List.length_drop, List.getElem?_take, if_pos (by omega)]
      have : (i + k) % ls.length = i - (ls.length - k) := by
        rw [show i + k = (i - (ls.length - k)) + ls.length by omega, Nat.add_mod_right, Nat.mod_eq_of_lt (by omega)]
      rw [this, List.getD, List.getElem?_eq_getElem (show i - (ls.length - k) < ls.length by omega)]
      rfl
  · rw [List.getElem?_eq_none (by simp; omega), List.getElem?_eq_none (by rw [List.length_append, List.length_drop, List.length_take]; omega)]
theorem flat_filter (r : Bs) (l : List Bs) : ((l.flatMap (tri r)).map lineM).filter (fun x => decide (x ≠ [])) = (l.map lineM).filter (fun x => decide (x ≠ [])) := by
  induction l with
  | nil => rfl
  | cons x l ih =>
    rw [List.flatMap_cons, List.map_append, List.filter_append, ih, List.map_cons]
    have : (tri r x).map lineM = [lineM x, [], []] := by
      unfold tri
      rw [List.map_cons, List.map_cons, List.map_cons, lineM_deco, lineM_remark]; rfl
    rw [this]
    by_cases hx : lineM x = []
    · simp [hx]
    · simp [hx]
theorem turned_mem {r : Bs} {ls : List Bs} {k j : Nat} (hk : 0 < ls.length) {x : Bs} (hx : x ∈ turned r ls k j) : ∃ l ∈ ls, x ∈ tri r l := by
  unfold turned at hx
  obtain ⟨i, _, h⟩ := List.mem_flatMap.1 hx
  have hlt : (i + k) % ls.length < ls.length := Nat.mod_lt _ hk
  refine ⟨_, ?_, h⟩
  simp [List.getD, List.getElem?_eq_getElem hlt]
theorem rows_law {s r : Bs} {st : PSt} (h : pfold (nl s) = .ok st) (hm : mayM st.1 = true) (hs : s.length ≤ 3000) (hr : r.length ≤ 500) (hn : r.contains 10 = false) {k : Nat} (hk : k < (spl 10 s).length) :
    parseM (Lib.join (turned r (spl 10 s) k (spl 10 s).length) [10]) = (st.1, 0, 0) := by
  have hl : ∀ x ∈ spl 10 s, x.length ≤ 3000 := fun x hx => Nat.le_trans (spl_len 10 s x hx) hs
  have hmem := fun x hx => spl_mem (d := 10) s x hx
  have hc := (pfold_core (fun x hx => Nat.le_trans (hl x hx) (by decide))).1 h
  generalize spl 10 s = ls at *
  have htm : ∀ x ∈ turned r ls k ls.length, x.contains 10 = false ∧ x.length ≤ 40000000 := fun x hx => by
    obtain ⟨l, h1, h2⟩ := turned_mem (by omega) hx
    have hl10 := contains_false.1 (hmem l h1)
    have hr10 := contains_false.1 hn
    have a1 : ¬ (10 : UInt8) ∈ l := fun h => hl10 _ h rfl
    have a2 : ¬ (10 : UInt8) ∈ r := fun h => hr10 _ h rfl
    have := hl l h1
    unfold tri at h2
    simp only [List.mem_cons, List.not_mem_nil, or_false] at h2
    rcases h2 with rfl | rfl | rfl
    · refine ⟨contains_false.2 fun y hy e => ?_, by simp; omega⟩
      subst e
      simp [a1, a2] at hy
    · refine ⟨contains_false.2 fun y hy e => ?_, by simp; omega⟩
      subst e
      simp [a2] at hy
    · exact ⟨rfl, by simp⟩
  have hperm : (ls.map lineM).Perm ((ls.drop k ++ ls.take k).map lineM) := by
    refine List.Perm.map _ ?_
    have := List.perm_append_comm (l₁ := ls.take k) (l₂ := ls.drop k)
    rwa [List.take_append_drop] at this
  obtain ⟨t, q1, q2⟩ := fold_perm hperm _ _ _ (Eqv.refl _) hc
  have e : turned r ls k ls.length = (ls.drop k ++ ls.take k).flatMap (tri r) := by
    rw [← rot_eq ls hk, List.flatMap_map]; rfl
  have q3 : ((turned r ls k ls.length).map lineM).foldlM core (zeroCfg, []) = .ok t := by
    rw [fold_skip, e, flat_filter, ← fold_skip]; exact q1
  have hne : turned r ls k ls.length ≠ [] := fun e2 => by
    rw [e] at e2
    have : (ls.drop k ++ ls.take k).length = ls.length := by rw [List.length_append, List.length_drop, List.length_take]; omega
    cases h3 : ls.drop k ++ ls.take k with
    | nil => rw [h3] at this; simp at this; omega
    | cons x y => rw [h3, List.flatMap_cons] at e2; simp [tri] at e2
  have hf : pfold (nl (Lib.join (turned r ls k ls.length) [10])) = .ok t := by
    rw [nl_join hne (fun x hx => (htm x hx).1)]
    exact (pfold_core (fun x hx => (htm x hx).2)).2 q3
  rw [parseM_ok hf, ← q2.1, if_pos hm]
end Go.Proofs.YtjgkalcldekmpaaGreatDoor
