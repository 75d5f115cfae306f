/-
  config.Parse, plain.
-/
import Derived.Test.YtjgkalcldekmpaaGreatDoorCfgI
namespace Go.Proofs.YtjgkalcldekmpaaGreatDoor
open Go.RowKit Go

/-- what a parse knows: the configuration, the keys that it had -/
abbrev PSt := Cfg × List Nat
/-- one line -/
def pstep (st : PSt) (x : LnT) : Except (Int × Int) PSt :=
  if x.1.2 = [] then .ok st
  else if (cutM 61 x.1.2).2.2 = false ∨ keyN (trimM (cutM 61 x.1.2).1) = 17 then .error (x.1.1, 4)
  else match setM (keyN (trimM (cutM 61 x.1.2).1)) st.1 (trimM (cutM 61 x.1.2).2.1) with
    | none => .error (x.1.1, 4)
    | some c => if keyN (trimM (cutM 61 x.1.2).1) ∈ st.2 then .error (x.1.1, 6) else .ok (c, keyN (trimM (cutM 61 x.1.2).1) :: st.2)
def pfold (xs : List LnT) : Except (Int × Int) PSt := xs.foldlM pstep (zeroCfg, [])
theorem pfold_snoc (xs : List LnT) (x : LnT) : pfold (xs ++ [x]) = (pfold xs).bind fun st => pstep st x := by
  unfold pfold
  rw [List.foldlM_append]
  cases List.foldlM pstep (zeroCfg, []) xs with
  | error e => rfl
  | ok st => simp [List.foldlM, bind, Except.bind, pure, Except.pure]; cases pstep st x <;> rfl
theorem pfold_err {xs ys : List LnT} {e : Int × Int} (h : pfold xs = .error e) : pfold (xs ++ ys) = .error e := by
  unfold pfold at *
  rw [List.foldlM_append, h]; rfl
/-- what Parse answers: the configuration, the line, the error -/
def parseM (s : Bs) : Cfg × Int × Int := match pfold (nl s) with
  | .error e => (zeroCfg, e.1, e.2)
  | .ok st => if mayM st.1 then (st.1, 0, 0) else (zeroCfg, 0, 1)
structure PInv (st : PSt) : Prop where
  len : st.1.seeds.length ≤ 40000001
  none_ : 0 ∉ st.2 → st.1.seeds = []
  lt : ∀ i ∈ st.2, i < 17
theorem pinv_zero : PInv (zeroCfg, []) := ⟨by simp [zeroCfg], fun _ => rfl, fun i h => by cases h⟩
theorem setM_keeps {i : Nat} (h0 : i ≠ 0) {c c' : Cfg} {l : Bs} (h : setM i c l = some c') : c'.seeds = c.seeds := by
  unfold setM at h
  rw [if_neg h0] at h
  split at h
  · split at h
    · injection h with h; rw [← h]
    · cases h
  · split at h
    · split at h
      · injection h with h; rw [← h]
      · split at h
        · injection h with h; rw [← h]
        · cases h
    · obtain ⟨n, _, rfl⟩ := Option.map_eq_some_iff.1 h; rfl
theorem mapM_len {α β : Type} {f : α → Option β} : ∀ {l : List α} {s : List β}, l.mapM f = some s → s.length = l.length
  | [], s, h => by simp at h; subst h; rfl
  | x :: l, s, h => by
    rw [List.mapM_cons] at h
    cases hx : f x with
    | none => rw [hx] at h; cases h
    | some y =>
      cases hr : l.mapM f with
      | none => rw [hx, hr] at h; cases h
      | some r =>
        rw [hx, hr] at h
        injection h with h
        subst h
        rw [List.length_cons, List.length_cons, mapM_len hr]
theorem PInv.set {st : PSt} (h : PInv st) {i : Nat} (hi : i < 17) {c' : Cfg} {l : Bs} (hl : l.length ≤ 40000000) (hs : setM i st.1 l = some c') (hn : i ∉ st.2) : PInv (c', i :: st.2) := by
  by_cases h0 : i = 0
  · subst h0
    have he := h.none_ hn
    rw [setM_seeds] at hs
    obtain ⟨s, hs1, rfl⟩ := Option.map_eq_some_iff.1 hs
    have h1 := mapM_len hs1
    have h2 := spl_count 44 l
    refine ⟨?_, fun h => absurd List.mem_cons_self h, fun i hi => ?_⟩
    · show (st.1.seeds ++ s).length ≤ 40000001
      rw [he, List.nil_append]; omega
    · rcases List.mem_cons.1 hi with rfl | hi
      · decide
      · exact h.lt i hi
  · have e := setM_keeps h0 hs
    refine ⟨by rw [e]; exact h.len, fun hm => by rw [e]; exact h.none_ (fun h => hm (List.mem_cons.2 (.inr h))), fun j hj => ?_⟩
    rcases List.mem_cons.1 hj with rfl | hj
    · exact hi
    · exact h.lt j hj
/-- what had holds -/
def hadA (l : List Nat) : Array Value := ((List.range 17).map fun i => Value.bool (decide (i ∈ l))).toArray
theorem hadA_get (l : List Nat) {i : Nat} (hi : i < 17) : (hadA l)[i]? = some (.bool (decide (i ∈ l))) := by
  unfold hadA
  rw [List.getElem?_toArray, List.getElem?_map, List.getElem?_range hi]; rfl
theorem hadA_set (l : List Nat) {i : Nat} (hi : i < 17) : (hadA l).setIfInBounds i (.bool true) = hadA (i :: l) := by
  have hs : ∀ l, (hadA l).size = 17 := fun l => by simp [hadA]
  apply Array.ext_getElem?
  intro k
  rw [Array.getElem?_setIfInBounds]
  by_cases hk : k < 17
  · rw [hadA_get _ hk, hadA_get _ hk, hs]
    by_cases e : i = k
    · subst e; rw [if_pos rfl, if_pos hk]; simp
    · have e2 : ¬ k = i := fun h => e h.symm
      rw [if_neg e]; simp [e2]
  · rw [if_neg (by omega), Array.getElem?_eq_none (by rw [hs]; omega), Array.getElem?_eq_none (by rw [hs]; omega)]
theorem hadA_nil : hadA [] = #[.bool false, .bool false, .bool false, .bool false, .bool false, .bool false, .bool false, .bool false, .bool false, .bool false, .bool false, .bool false, .bool false, .bool false, .bool false, .bool false, .bool false] := by
  unfold hadA
  rw [show List.range 17 = [0, 1, 2, 3, 4, 5, 6, 7, 8, 9, 10, 11, 12, 13, 14, 15, 16] from by decide]
  simp
end Go.Proofs.YtjgkalcldekmpaaGreatDoor
