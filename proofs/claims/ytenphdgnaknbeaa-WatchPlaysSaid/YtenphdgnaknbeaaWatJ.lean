/-
  What comes of steps, plainly.
-/
import Derived.Test.YtenphdgnaknbeaaWatI
namespace Go.Proofs.Ytenphdgnaknbeaa
open Go.RowKit
set_option maxRecDepth 100000

def stepM (mn mx wd : Int) (m : M) (s : Stp) : M := if s.hear then heardM m s.x s.now else lookM ((newD mn mx wd).begin_ s.now) m s.ids
def playM (mn mx wd : Int) (l : List Stp) (k : Nat) : M := (l.take k).foldl (stepM mn mx wd) (fun _ => none)
theorem playM_zero (mn mx wd : Int) (l : List Stp) : playM mn mx wd l 0 = fun _ => none := by simp [playM]
theorem playM_next (mn mx wd : Int) {l : List Stp} {k : Nat} (hk : k < l.length) : playM mn mx wd l (k + 1) = stepM mn mx wd (playM mn mx wd l k) (l.getD k stp0) := by
  have : l.getD k stp0 = l[k] := by simp [List.getD, hk]
  unfold playM
  rw [this, List.take_succ_eq_append_getElem hk, List.foldl_append]
  rfl
theorem lookM_nil (nd : D) (m : M) : lookM nd m [] = fun _ => none := by funext x; simp [lookM]
theorem lateL_nil (nd : D) (m : M) (now : Int) : lateL nd m now [] = [] := rfl
/-- who has just begun, or was just heard, is not late -/
theorem atv_same {last now : Int} (h1 : -1 ≤ last) (h2 : last ≤ 1099511627776) : atv (atv last now) now = atv last now := by
  unfold atv wi
  omega
theorem begin_late {mn mx wd now : Int} (h : MayNew mn mx wd) : ((newD mn mx wd).begin_ now).late now = false := by
  obtain ⟨h1, h2, h3, h4, h5⟩ := h
  have h0 := (atv_bd (last := -1) (now := now) (by omega) (by omega)).1
  have hs := atv_same (last := -1) (now := now) (by omega) (by omega)
  simp only [newD, D.begin_, if_true, D.late, D.limit]
  rw [hs, if_neg (by omega)]
  simp
  omega
theorem begin_after {mn mx wd now t : Int} (h0 : 0 ≤ now) (h1 : now ≤ t) (h2 : t ≤ 1000000) : ((newD mn mx wd).begin_ now).late t = decide (mx < t - now) := by
  have e1 : atv (-1) now = now := by unfold atv wi; omega
  have e2 : atv now t = t := by unfold atv wi; omega
  simp only [newD, D.begin_, if_true, D.late, D.limit, e1, e2]
  rw [if_neg (by omega)]
theorem heard_late {d : D} (ok : d.Ok) (now : Int) : (d.heard now).late now = false := by
  have hl := (D.limit_bd (ok.heard now)).1
  have hm : 1 ≤ (d.heard now).mn := (ok.heard now).mn1
  have h0 := (atv_bd (now := now) ok.last1 ok.last2).1
  have hs := atv_same (now := now) ok.last1 ok.last2
  unfold D.late
  rw [if_neg (by show ¬ atv d.last now = -1; omega)]
  show decide ((d.heard now).limit < atv (atv d.last now) now - atv d.last now) = false
  rw [hs]
  simp
  omega
theorem LW.moreO {w0 w w' : World} {b n : Nat} {L : List Nat} {mn mx wd : Int} {m : M} (h : LW w0 w b n L mn mx wd m) (hk : Keep (fun _ => False) w w') {row : Option Nat} (h1 : ∀ g, row = some g → w.heap.size ≤ g ∧ g < w'.heap.size) : LW w0 w' b n (row.toList ++ L) mn mx wd m := by
  cases row with
  | none => exact h.keep0 hk
  | some g => exact h.more hk (h1 g rfl).1 (h1 g rfl).2
theorem risA_ok {W : World} {l : List Stp} {n : Nat} (hn : l.length = n) (h100 : n ≤ 100) (h : ∀ s ∈ l, OkS W s) : ∀ s ∈ risA l n, OkS W s := by
  intro s hs
  obtain ⟨j, hj, rfl⟩ := List.mem_map.1 hs
  rw [List.mem_range] at hj
  have hjl : j < l.length := by omega
  have e : l.getD j stp0 = l[j] := by simp [List.getD, hjl]
  have hb := nwL_bd l (j + 1)
  rw [e]
  exact (h _ (List.getElem_mem hjl)).time hb.1 (by omega)
theorem long_no {l : List Stp} (h : longM l = false) : l.length ≤ 100 ∧ ∀ s ∈ l, s.ids.length ≤ 30 ∧ Ris s.ids := by
  unfold longM at h
  rw [Bool.or_eq_false_iff] at h
  refine ⟨by simpa using h.1, fun s hs => ?_⟩
  have := List.any_eq_false.1 h.2 s hs
  simpa using this
theorem risA_no {l : List Stp} (h : longM l = false) {n : Nat} (hn : l.length = n) : ∀ s ∈ risA l n, s.ids.length ≤ 30 ∧ Ris s.ids := by
  intro s hs
  obtain ⟨j, hj, rfl⟩ := List.mem_map.1 hs
  rw [List.mem_range] at hj
  have hjl : j < l.length := by omega
  have e : l.getD j stp0 = l[j] := by simp [List.getD, hjl]
  rw [e]
  exact (long_no h).2 l[j] (List.getElem_mem hjl)
theorem risA_now {l : List Stp} {n q : Nat} (hq : q < n) : ((risA l n).getD q stp0).now = nwL l (q + 1) := by rw [risA_at hq]
theorem getD_memS {l : List Stp} {q : Nat} (hq : q < l.length) : l.getD q stp0 ∈ l := by
  have : l.getD q stp0 = l[q] := by simp [List.getD, hq]
  rw [this]; exact List.getElem_mem hq
theorem rd_low {w : World} {A : Option Addr} {k : Nat} {ids : List ID} (h : RdI w A k ids) : ∀ g off, 0 < k → A = some ⟨g, off, none⟩ → g < w.heap.size := by
  intro g off hk e
  obtain ⟨g', off', v, e1, _, e3⟩ := h.2.2 0 (by omega)
  rw [e] at e1; injection e1 with e1; injection e1 with e1 _; subst e1
  exact World.block_lt_of_cell? _ _ e3
theorem look_one {mn mx wd now : Int} (h : MayNew mn mx wd) (x : ID) : lateL ((newD mn mx wd).begin_ now) (fun _ => none) now [x] = [] := by
  simp [lateL, lookD, begin_late h]
theorem look_two {mn mx wd now t : Int} (x : ID) (h0 : 0 ≤ now) (h1 : now ≤ t) (h2 : t ≤ 1000000) :
    lateL ((newD mn mx wd).begin_ t) (lookM ((newD mn mx wd).begin_ now) (fun _ => none) [x]) t [x] = if mx < t - now then [x] else [] := by
  have e : lookD ((newD mn mx wd).begin_ t) (lookM ((newD mn mx wd).begin_ now) (fun _ => none) [x]) x = (newD mn mx wd).begin_ now := by
    simp [lookD, lookM]
  unfold lateL
  rw [List.filter_cons, e, begin_after h0 h1 h2]
  by_cases hh : mx < t - now <;> simp [hh]
theorem late_heard {nd : D} {m : M} {p : ID} {now : Int} {l : List ID} (hp : (m p).isSome = true) (ok : ∀ d, m p = some d → d.Ok) :
    lateL nd (heardM m p now) now l = (lateL nd m now l).filter (fun y => !decide (y = p)) := by
  unfold lateL
  rw [List.filter_filter]
  refine List.filter_congr fun x _ => ?_
  by_cases e : x = p
  · subst e
    obtain ⟨d, hd⟩ := Option.isSome_iff_exists.1 hp
    have e2 : lookD nd (heardM m x now) x = d.heard now := by simp [lookD, heardM, hd]
    rw [e2, heard_late (ok d hd)]
    simp
  · have e2 : lookD nd (heardM m p now) x = lookD nd m x := by simp [lookD, heardM, e]
    rw [e2]
    simp [e]
theorem heard_none_ {m : M} {p : ID} (hp : m p = none) (now : Int) : heardM m p now = m := by
  funext y
  unfold heardM
  by_cases e : y = p
  · subst e; simp [hp]
  · simp [e]
theorem delM_len (l : List ID) (x : ID) : (delM l x).length ≤ l.length := Nat.le_trans (setM_len _) (List.length_filter_le _ _)
theorem apart_set {la lc : List ID} {p : ID} (h : lc = la.filter (fun y => !decide (y = p))) : setM (delM la p) = setM lc := by
  rw [h]
  exact setM_ext fun x => by unfold delM; rw [setM_mem]
end Go.Proofs.Ytenphdgnaknbeaa
