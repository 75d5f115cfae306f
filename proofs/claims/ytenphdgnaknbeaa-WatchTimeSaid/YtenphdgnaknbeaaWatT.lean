/-
  When who is watched was heard last, plainly.
-/
import Derived.Test.YtenphdgnaknbeaaWatJ
namespace Go.Proofs.Ytenphdgnaknbeaa
open Go.RowKit

def lastD (m : M) (x : ID) : Int := match m x with | some d => d.last | none => 0
def PInv (mn mx : Int) (m : M) (now : Int) : Prop := ∀ x d, m x = some d → 0 ≤ d.last ∧ d.last ≤ now ∧ d.mn = mn ∧ d.mx = mx ∧ d.Ok
theorem atv_in {last t : Int} (h0 : 0 ≤ last) (h1 : last ≤ t) (h2 : t ≤ 1000000) : atv last t = t := by unfold atv wi; omega
theorem pinv_none (mn mx now : Int) : PInv mn mx (fun _ => none) now := fun _ _ h => by cases h
section
variable {mn mx wd : Int} {m : M} {now t : Int} {x : ID}
theorem pinv_heard (h : PInv mn mx m now) (h1 : now ≤ t) (h2 : t ≤ 1000000) (x : ID) : PInv mn mx (heardM m x t) t := by
  intro y d hd
  unfold heardM at hd
  split at hd
  · obtain ⟨d0, hd0, rfl⟩ := Option.map_eq_some_iff.1 hd
    obtain ⟨p0, p1, p2, p3, p4⟩ := h x d0 hd0
    have e : (d0.heard t).last = t := atv_in p0 (by omega) h2
    exact ⟨by omega, by omega, p2, p3, p4.heard t⟩
  · obtain ⟨p0, p1, p2, p3, p4⟩ := h y d hd
    exact ⟨p0, by omega, p2, p3, p4⟩
theorem lastD_same (h : PInv mn mx m now) (h1 : now ≤ t) (h2 : t ≤ 1000000) (hx : (m x).isSome = true) : lastD (heardM m x t) x = t := by
  obtain ⟨d, hd⟩ := Option.isSome_iff_exists.1 hx
  obtain ⟨p0, p1, _⟩ := h x d hd
  have e : (d.heard t).last = t := atv_in p0 (by omega) h2
  simp [lastD, heardM, hd, e]
theorem lastD_other {y : ID} (hy : ¬ y = x) : lastD (heardM m x t) y = lastD m y := by simp [lastD, heardM, hy]
theorem heard_some {y : ID} : (heardM m x t y).isSome = (m y).isSome := by
  unfold heardM
  by_cases e : y = x
  · subst e; simp
  · simp [e]
theorem begin_last (hm : MayNew mn mx wd) (h0 : 0 ≤ t) (h2 : t ≤ 1000000) : ((newD mn mx wd).begin_ t).last = t ∧ ((newD mn mx wd).begin_ t).mn = mn ∧ ((newD mn mx wd).begin_ t).mx = mx ∧ ((newD mn mx wd).begin_ t).Ok := by
  refine ⟨?_, by simp [newD, D.begin_], by simp [newD, D.begin_], (newD_ok hm).begin_ t⟩
  simp only [newD, D.begin_, if_true]
  unfold atv wi; omega
theorem pinv_look (h : PInv mn mx m now) (hm : MayNew mn mx wd) (h0 : 0 ≤ now) (h1 : now ≤ t) (h2 : t ≤ 1000000) (ids : List ID) : PInv mn mx (lookM ((newD mn mx wd).begin_ t) m ids) t := by
  intro y d hd
  unfold lookM at hd
  split at hd
  · injection hd with hd
    unfold lookD at hd
    cases hq : m y with
    | none =>
      rw [hq] at hd
      obtain ⟨q1, q2, q3, q4⟩ := begin_last (mn := mn) (mx := mx) (wd := wd) hm (by omega : 0 ≤ t) h2
      have hd' : (newD mn mx wd).begin_ t = d := hd
      rw [hd'] at q1 q2 q3 q4
      exact ⟨by omega, by omega, q2, q3, q4⟩
    | some d0 =>
      rw [hq] at hd
      have hd' : d0 = d := hd
      subst hd'
      obtain ⟨p0, p1, p2, p3, p4⟩ := h y d0 hq
      exact ⟨p0, by omega, p2, p3, p4⟩
  · cases hd
theorem look_some (nd : D) (m : M) (ids : List ID) (x : ID) : (lookM nd m ids x).isSome = true ↔ x ∈ ids := by
  unfold lookM
  split <;> simp_all
theorem lastD_look (hm : MayNew mn mx wd) (h0 : 0 ≤ t) (h2 : t ≤ 1000000) {ids : List ID} (hx : x ∈ ids) : lastD (lookM ((newD mn mx wd).begin_ t) m ids) x = if (m x).isSome = true then lastD m x else t := by
  unfold lastD lookM lookD
  rw [if_pos hx]
  cases hq : m x with
  | none => simp [(begin_last (mn := mn) (mx := mx) (wd := wd) hm h0 h2).1]
  | some d => simp
theorem late_no (h : PInv mn mx m now) (hm : MayNew mn mx wd) (h0 : 0 ≤ now) (h1 : now ≤ t) (h2 : t ≤ 1000000) {ids : List ID} (hx : x ∈ ids) :
    ((lookD ((newD mn mx wd).begin_ t) m x).late t = true → ¬ t - lastD (lookM ((newD mn mx wd).begin_ t) m ids) x ≤ mn) ∧ ((lookD ((newD mn mx wd).begin_ t) m x).late t = false → ¬ mx < t - lastD (lookM ((newD mn mx wd).begin_ t) m ids) x) := by
  obtain ⟨d, hd⟩ : ∃ d, lookD ((newD mn mx wd).begin_ t) m x = d := ⟨_, rfl⟩
  have hl : lookM ((newD mn mx wd).begin_ t) m ids x = some d := by unfold lookM; rw [if_pos hx, hd]
  obtain ⟨p0, p1, p2, p3, p4⟩ := pinv_look h hm h0 h1 h2 ids x d hl
  have e : lastD (lookM ((newD mn mx wd).begin_ t) m ids) x = d.last := by unfold lastD; rw [hl]
  have hb := D.limit_bd p4
  rw [hd, e]
  unfold D.late
  rw [if_neg (by omega), atv_in p0 p1 h2]
  constructor
  · intro q; have := of_decide_eq_true q; omega
  · intro q; have := of_decide_eq_false q; omega
end
/-- while those who are heard are gone through -/
def mixL (who : List ID) (m m' : M) (k : Nat) : List Int := (who.take k).map (lastD m') ++ (who.drop k).map (lastD m)
theorem mixL_len (who : List ID) (m m' : M) (k : Nat) : (mixL who m m' k).length = who.length := by simp [mixL]; omega
theorem mixL_zero (who : List ID) (m m' : M) : mixL who m m' 0 = who.map (lastD m) := by simp [mixL]
theorem mixL_all (who : List ID) (m m' : M) : mixL who m m' who.length = who.map (lastD m') := by simp [mixL]
theorem mixL_next {who : List ID} {m m' : M} {k : Nat} (hk : k < who.length) : mixL who m m' (k + 1) = (mixL who m m' k).set k (lastD m' (who.getD k (0, 0))) := by
  have e : who.getD k (0, 0) = who[k] := by simp [List.getD, hk]
  rw [e]
  unfold mixL
  rw [List.set_append_right _ _ (by simp; omega)]
  have h1 : (who.take k).length = k := by simp; omega
  rw [List.length_map, h1, Nat.sub_self, List.drop_eq_getElem_cons hk, List.map_cons, List.set_cons_zero, List.take_succ_eq_append_getElem hk, List.map_append, List.append_assoc]
  rfl
theorem mixL_same {who : List ID} {m m' : M} {k : Nat} (hk : k < who.length) (h : lastD m' (who.getD k (0, 0)) = lastD m (who.getD k (0, 0))) : mixL who m m' (k + 1) = mixL who m m' k := by
  rw [mixL_next hk, h]
  have e : who.getD k (0, 0) = who[k] := by simp [List.getD, hk]
  have : (mixL who m m' k)[k]? = some (lastD m (who.getD k (0, 0))) := by
    unfold mixL
    rw [List.getElem?_append_right (by simp; omega), List.length_map]
    have h1 : (who.take k).length = k := by simp; omega
    rw [h1, Nat.sub_self, List.drop_eq_getElem_cons hk, e]
    rfl
  apply List.ext_getElem?
  intro i
  rw [List.getElem?_set]
  by_cases ei : k = i
  · subst ei
    rw [if_pos rfl, this, if_pos (by rw [mixL_len]; exact hk)]
  · rw [if_neg ei]
/-- the last time of x, among the first k of who -/
def tkL (who : List ID) (m : M) (t : Int) (x : ID) (k : Nat) : Int := if x ∈ who.take k then lastD m x else t
theorem tkL_zero (who : List ID) (m : M) (t : Int) (x : ID) : tkL who m t x 0 = t := by simp [tkL]
theorem tkL_hit {who : List ID} {m : M} {t : Int} {x : ID} {k : Nat} (hk : k < who.length) (h : who.getD k (0, 0) = x) : tkL who m t x (k + 1) = lastD m x := by
  unfold tkL
  rw [if_pos ((mem_take_next hk x).2 (.inr h.symm))]
theorem tkL_miss {who : List ID} {m : M} {t : Int} {x : ID} {k : Nat} (hk : k < who.length) (h : ¬ who.getD k (0, 0) = x) : tkL who m t x (k + 1) = tkL who m t x k := by
  unfold tkL
  by_cases e : x ∈ who.take k
  · rw [if_pos e, if_pos ((mem_take_next hk x).2 (.inl e))]
  · rw [if_neg e, if_neg (fun e2 => ((mem_take_next hk x).1 e2).elim e (fun e3 => h e3.symm))]
theorem nwL_le (l : List Stp) {k : Nat} (hk : k < l.length) : nwL l k ≤ nwL l (k + 1) := by
  rw [nwL_next hk]
  have := g50_bd (l.getD k stp0).now
  omega
/-- a store into a slice of one-cell elements -/
theorem SlK.store {w : World} {e : TypeId} {row : Option Nat} {A : Option Addr} {n c : Nat} {xs : List Value} (h : SlK w e 1 row A n c xs) {j : Nat} (hj : j < n) :
    ∃ g off, A = some ⟨g, off, none⟩ ∧ row = some g ∧ g < w.heap.size ∧ (∃ v, xs[j]? = some v ∧ w.cell? ⟨g, off + j, none⟩ = some v) ∧ w.frozen? ⟨g, off + j, none⟩ = false ∧ ∀ k v, SlK ((w.drewN k).setCell ⟨g, off + j, none⟩ v) e 1 row A n c (xs.set j v) ∧ Keep (fun y => row = some y) w ((w.drewN k).setCell ⟨g, off + j, none⟩ v) := by
  obtain ⟨h1, h2, h3, h4⟩ := h
  rcases h4 with ⟨_, _, h5⟩ | ⟨g, off, cur, hr, hA, hb, hs, hc⟩
  · omega
  · have hl : j < xs.length := by rw [h1]; omega
    refine ⟨g, off, hA, hr, hb.lt, ⟨xs[j], List.getElem?_eq_getElem hl, ?_⟩, hb.frozen _, ?_⟩
    · rw [hb.cell, hc j (by omega), List.getElem?_eq_getElem hl]
    · intro k v
      refine ⟨⟨by simp [h1], h2, h3, .inr ⟨g, off, _, hr, hA, (hb.drewN k).set_ (off + j) v, by simpa using hs, fun i hi => ?_⟩⟩, ((Keep.refl _ w).drewN k).setCell (fun _ => hr) v⟩
      rw [Array.getElem?_setIfInBounds, List.getElem?_set]
      by_cases e : j = i
      · subst e
        rw [if_pos rfl, if_pos rfl, if_pos (by omega), if_pos hl]
      · rw [if_neg (by omega), if_neg e]
        exact hc i hi
end Go.Proofs.Ytenphdgnaknbeaa
