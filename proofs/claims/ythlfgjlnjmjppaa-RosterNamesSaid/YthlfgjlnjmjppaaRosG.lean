/-
  Roster: Join: the plain model; arrays of 13.
-/
import Derived.Test.YthlfgjlnjmjppaaRosF
import Derived.Test.YthlfgjlnjmjppaaConcatI
namespace Go.Proofs.Ythlfgjlnjmjppaa
open Go.RowKit

def arrV (F : Nat → Int) : Array Value := ((List.range 13).map fun i => Value.int .i64 (F i)).toArray
def upd (F : Nat → Int) (a : Nat) (v : Int) : Nat → Int := fun i => if i = a then v else F i
theorem arr_size (F : Nat → Int) : (arrV F).size = 13 := by simp [arrV]
theorem arr_get (F : Nat → Int) (a : Nat) (h : a < 13) : (arrV F)[a]? = some (.int .i64 (F a)) := by simp [arrV, h]
theorem arr_set (F : Nat → Int) (a : Nat) (v : Int) : (arrV F).setIfInBounds a (.int .i64 v) = arrV (upd F a v) := by
  apply Array.ext
  · simp [arrV]
  · intro i h1 h2
    have hi : i < 13 := by simpa [arrV] using h2
    have e1 : ((arrV F).setIfInBounds a (.int .i64 v))[i]? = (arrV (upd F a v))[i]? := by
      rw [arr_get _ _ hi, Array.getElem?_setIfInBounds]
      by_cases h : a = i
      · subst h; simp [arr_size, hi, upd]
      · rw [if_neg h, arr_get _ _ hi]; simp [upd, Ne.symm h]
    rw [Array.getElem?_eq_getElem h1, Array.getElem?_eq_getElem h2] at e1
    exact Option.some.inj e1
theorem arr_congr {F G : Nat → Int} (h : ∀ i, i < 13 → F i = G i) : arrV F = arrV G := by
  unfold arrV
  congr 1
  exact List.map_congr_left fun i hi => by rw [h i (List.mem_range.1 hi)]

def nwT (l : List Mem) (a : Nat) : Int := l.foldl (fun n x => if x.addr = (a : Int) then max n x.inc else n) 0
def f1T (N : Nat → Int) (l : List Mem) (a : Nat) : Int := l.foldl (fun n x => if x.addr = (a : Int) ∧ (x.st = 7 ∨ x.inc < N a) then max n x.inc else n) 0
def f2T (F : Nat → Int) (l : List ID) (a : Nat) : Int := l.foldl (fun n p => if p.1 = (a : Int) ∧ mayID p = true then max n p.2 else n) (F a)
def snT (p : ID) (l : List Mem) : Int × Int := l.foldl (fun s y => if y.id = p then (max s.1 y.st, lessT s.2 y.no) else s) (0, 0)
def allT (m n : List Mem) : List Mem := (m ++ n).filter okE
def flT (all : List Mem) (fs : List ID) (a : Nat) : Int := f2T (f1T (nwT all) all) fs a
def lowT (F : Nat → Int) (k : Nat) : List ID := (List.range k).flatMap fun i => if 0 < F (i + 1) then [(((i + 1 : Nat) : Int), F (i + 1))] else []
def memT (all : List Mem) (F : Nat → Int) (k : Nat) : List Mem := (List.range k).flatMap fun i => if nwT all (i + 1) ≤ F (i + 1) then [] else
  [⟨((i + 1 : Nat) : Int), nwT all (i + 1), (snT (((i + 1 : Nat) : Int), nwT all (i + 1)) all).1, (snT (((i + 1 : Nat) : Int), nwT all (i + 1)) all).2⟩]
def joinT (m : List Mem) (f : List ID) (n : List Mem) (g : List ID) : List Mem × List ID :=
  (memT (allT m n) (flT (allT m n) (f ++ g)) 12, lowT (flT (allT m n) (f ++ g)) 12)

theorem nwT_succ (l : List Mem) (k : Nat) (h : k < l.length) (ad : Nat) (ha : (l.getD k zeroMem).addr = (ad : Int)) (i : Nat) :
    nwT (l.take (k + 1)) i = upd (nwT (l.take k)) ad (max (nwT (l.take k) ad) (l.getD k zeroMem).inc) i := by
  unfold nwT upd
  rw [foldl_take _ _ _ _ h]
  have e : l.getD k zeroMem = l[k] := by simp [List.getD, h]
  rw [e] at ha ⊢
  by_cases hi : i = ad
  · subst hi; rw [if_pos ha, if_pos rfl]
  · rw [if_neg (by rw [ha]; omega), if_neg hi]
theorem f1T_succ (N : Nat → Int) (l : List Mem) (k : Nat) (h : k < l.length) (ad : Nat) (ha : (l.getD k zeroMem).addr = (ad : Int)) (i : Nat) :
    f1T N (l.take (k + 1)) i = if (l.getD k zeroMem).st = 7 ∨ (l.getD k zeroMem).inc < N ad then upd (f1T N (l.take k)) ad (max (f1T N (l.take k) ad) (l.getD k zeroMem).inc) i else f1T N (l.take k) i := by
  unfold f1T upd
  rw [foldl_take _ _ _ _ h]
  have e : l.getD k zeroMem = l[k] := by simp [List.getD, h]
  rw [e] at ha ⊢
  by_cases hi : i = ad
  · subst hi
    by_cases hc : l[k].st = 7 ∨ l[k].inc < N i
    · rw [if_pos ⟨ha, hc⟩, if_pos hc, if_pos rfl]
    · rw [if_neg (fun q => hc q.2), if_neg hc]
  · rw [if_neg (fun q => by rw [ha] at q; omega), if_neg hi]; simp
theorem f2T_succ (F : Nat → Int) (l : List ID) (k : Nat) (h : k < l.length) (ad : Nat) (ha : (l.getD k (0, 0)).1 = (ad : Int)) (hm : mayID (l.getD k (0, 0)) = true) (i : Nat) :
    f2T F (l.take (k + 1)) i = upd (f2T F (l.take k)) ad (max (f2T F (l.take k) ad) (l.getD k (0, 0)).2) i := by
  unfold f2T upd
  rw [foldl_take _ _ _ _ h]
  have e : l.getD k (0, 0) = l[k] := by simp [List.getD, h]
  rw [e] at ha hm ⊢
  by_cases hi : i = ad
  · subst hi; rw [if_pos ⟨ha, hm⟩, if_pos rfl]
  · rw [if_neg (fun q => by rw [ha] at q; omega), if_neg hi]
theorem f2T_skip (F : Nat → Int) (l : List ID) (k : Nat) (h : k < l.length) (hm : mayID (l.getD k (0, 0)) = false) (i : Nat) : f2T F (l.take (k + 1)) i = f2T F (l.take k) i := by
  unfold f2T
  rw [foldl_take _ _ _ _ h]
  have e : l.getD k (0, 0) = l[k] := by simp [List.getD, h]
  rw [e] at hm
  rw [if_neg (fun q => by rw [hm] at q; cases q.2)]
theorem snT_succ (p : ID) (l : List Mem) (k : Nat) (h : k < l.length) : snT p (l.take (k + 1)) = if (l.getD k zeroMem).id = p then (max (snT p (l.take k)).1 (l.getD k zeroMem).st, lessT (snT p (l.take k)).2 (l.getD k zeroMem).no) else snT p (l.take k) := by
  unfold snT
  rw [foldl_take _ _ _ _ h]
  simp [List.getD, h]
theorem all_ok (m n : List Mem) : ∀ x ∈ allT m n, okE x = true := fun _ hx => (List.mem_filter.1 hx).2
theorem okE_bd {x : Mem} (h : okE x = true) : 1 ≤ x.addr ∧ x.addr ≤ 12 ∧ 1 ≤ x.inc ∧ x.inc ≤ 1048576 ∧ 1 ≤ x.st ∧ x.st ≤ 7 := by
  simp only [okE, mayID, Bool.and_eq_true, decide_eq_true_eq] at h
  omega
theorem nwT_bd (l : List Mem) (h : ∀ x ∈ l, okE x = true) (a : Nat) : 0 ≤ nwT l a ∧ nwT l a ≤ 1048576 := by
  have : ∀ (l : List Mem) (v : Int), (∀ x ∈ l, okE x = true) → 0 ≤ v ∧ v ≤ 1048576 → 0 ≤ l.foldl (fun n x => if x.addr = (a : Int) then max n x.inc else n) v ∧ l.foldl (fun n x => if x.addr = (a : Int) then max n x.inc else n) v ≤ 1048576 := by
    intro l
    induction l with
    | nil => intro v _ hv; exact hv
    | cons x l ih =>
      intro v hl hv
      refine ih _ (fun y hy => hl y (List.mem_cons_of_mem _ hy)) ?_
      have := okE_bd (hl x List.mem_cons_self)
      simp only
      split <;> omega
  exact this l 0 h (by omega)
end Go.Proofs.Ythlfgjlnjmjppaa
