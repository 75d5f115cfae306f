/-
  An evaluator for closed calls: all that it does depends on what it touches alone.
-/
import Derived.Test.YtkiakphfgdkdiaaGreatEvO
namespace Go.Proofs.YtkiakphfgdkdiaaGreat
open Go Go.RowKit
set_option linter.unusedVariables false

section
variable {P : Program}

theorem Local.ofO {α : Type} (o : Option α) : Local (M.ofO o) := by
  cases o with
  | none => exact Local.fail
  | some a => exact Local.pure a
theorem Local.cond {α : Type} {b : Bool} {x y : M α} (hx : Local x) (hy : Local y) : Local (cond b x y) := by
  cases b
  · exact hy
  · exact hx
theorem Local.size (n : Nat) : Local (mSize n) := by
  intro s a s' h
  unfold mSize at h
  obtain ⟨hh, nn, ll⟩ := s
  dsimp only at h
  split at h
  · rename_i c e hg
    cases h
    refine ⟨[.rd n 0 0], rfl, fun _ => rfl, fun t ht hag => ?_⟩
    have ha : agreeC (hh.get n) (t.h.get n) 0 0 := hag (.rd n 0 0) (by simp)
    rw [hg] at ha
    have : ∃ c', t.h.get n = some (.cells c' e) ∧ c.length = c'.length := by
      rcases ha with ha | ⟨c1, c2, e2, h1, h2, h3, h4⟩
      · exact ⟨c, ha.symm, rfl⟩
      · cases h1; exact ⟨c2, h2, h3⟩
    obtain ⟨c', hc', hlen⟩ := this
    obtain ⟨th, tn, tl⟩ := t
    refine ⟨⟨th, tn, .rd n 0 0 :: tl⟩, ?_, ht, rfl, fun _ => rfl⟩
    unfold mSize
    dsimp only at hc' ⊢
    rw [hc']; simp only [hlen]
  · cases h

theorem local_newCells (e : TypeId) (c : List Value) : Local (newCells e c) := by
  unfold newCells
  repeat' (first
    | exact Local.fail
    | exact Local.pure _
    | exact Local.read _ _ _
    | exact Local.write _ _ _
    | exact Local.obj _
    | exact Local.put _ _
    | exact Local.new _
    | exact Local.size _
    | exact Local.ofO _
    | refine Local.bind ?_ (fun _ => ?_)
    | refine Local.cond ?_ ?_
    | split
    | dsimp only)
theorem local_newVarM (e : TypeId) (v : Value) : Local (newVarM e v) := by
  unfold newVarM
  repeat' (first
    | exact Local.fail
    | exact Local.pure _
    | exact Local.read _ _ _
    | exact Local.write _ _ _
    | exact Local.obj _
    | exact Local.put _ _
    | exact Local.new _
    | exact Local.size _
    | exact Local.ofO _
    | exact local_newCells _ _ 
    | refine Local.bind ?_ (fun _ => ?_)
    | refine Local.cond ?_ ?_
    | split
    | dsimp only)
theorem local_loadM (t : TypeId) (a : Value) : Local (loadM P t a) := by
  unfold loadM
  repeat' (first
    | exact Local.fail
    | exact Local.pure _
    | exact Local.read _ _ _
    | exact Local.write _ _ _
    | exact Local.obj _
    | exact Local.put _ _
    | exact Local.new _
    | exact Local.size _
    | exact Local.ofO _
    | exact local_newCells _ _ 
    | exact local_newVarM _ _ 
    | refine Local.bind ?_ (fun _ => ?_)
    | refine Local.cond ?_ ?_
    | split
    | dsimp only)
theorem local_storeM (t : TypeId) (a v : Value) : Local (storeM P t a v) := by
  unfold storeM
  repeat' (first
    | exact Local.fail
    | exact Local.pure _
    | exact Local.read _ _ _
    | exact Local.write _ _ _
    | exact Local.obj _
    | exact Local.put _ _
    | exact Local.new _
    | exact Local.size _
    | exact Local.ofO _
    | exact local_newCells _ _ 
    | exact local_newVarM _ _ 
    | exact local_loadM _ _ 
    | refine Local.bind ?_ (fun _ => ?_)
    | refine Local.cond ?_ ?_
    | split
    | dsimp only)
theorem local_fieldAddrM (s : TypeId) (x : Value) (f : Nat) : Local (fieldAddrM P s x f) := by
  unfold fieldAddrM
  repeat' (first
    | exact Local.fail
    | exact Local.pure _
    | exact Local.read _ _ _
    | exact Local.write _ _ _
    | exact Local.obj _
    | exact Local.put _ _
    | exact Local.new _
    | exact Local.size _
    | exact Local.ofO _
    | exact local_newCells _ _ 
    | exact local_newVarM _ _ 
    | exact local_loadM _ _ 
    | exact local_storeM _ _ _ 
    | refine Local.bind ?_ (fun _ => ?_)
    | refine Local.cond ?_ ?_
    | split
    | dsimp only)
theorem local_indexAddrM (t : TypeId) (x i : Value) : Local (indexAddrM P t x i) := by
  unfold indexAddrM
  repeat' (first
    | exact Local.fail
    | exact Local.pure _
    | exact Local.read _ _ _
    | exact Local.write _ _ _
    | exact Local.obj _
    | exact Local.put _ _
    | exact Local.new _
    | exact Local.size _
    | exact Local.ofO _
    | exact local_newCells _ _ 
    | exact local_newVarM _ _ 
    | exact local_loadM _ _ 
    | exact local_storeM _ _ _ 
    | exact local_fieldAddrM _ _ _ 
    | refine Local.bind ?_ (fun _ => ?_)
    | refine Local.cond ?_ ?_
    | split
    | dsimp only)
theorem local_indexM (t : TypeId) (x i : Value) : Local (indexM P t x i) := by
  unfold indexM
  repeat' (first
    | exact Local.fail
    | exact Local.pure _
    | exact Local.read _ _ _
    | exact Local.write _ _ _
    | exact Local.obj _
    | exact Local.put _ _
    | exact Local.new _
    | exact Local.size _
    | exact Local.ofO _
    | exact local_newCells _ _ 
    | exact local_newVarM _ _ 
    | exact local_loadM _ _ 
    | exact local_storeM _ _ _ 
    | exact local_fieldAddrM _ _ _ 
    | exact local_indexAddrM _ _ _ 
    | refine Local.bind ?_ (fun _ => ?_)
    | refine Local.cond ?_ ?_
    | split
    | dsimp only)
theorem local_buildSliceM (t : TypeId) (n : Nat) (ps : List (Nat × Value)) : Local (buildSliceM P t n ps) := by
  unfold buildSliceM
  repeat' (first
    | exact Local.fail
    | exact Local.pure _
    | exact Local.read _ _ _
    | exact Local.write _ _ _
    | exact Local.obj _
    | exact Local.put _ _
    | exact Local.new _
    | exact Local.size _
    | exact Local.ofO _
    | exact local_newCells _ _ 
    | exact local_newVarM _ _ 
    | exact local_loadM _ _ 
    | exact local_storeM _ _ _ 
    | exact local_fieldAddrM _ _ _ 
    | exact local_indexAddrM _ _ _ 
    | exact local_indexM _ _ _ 
    | refine Local.bind ?_ (fun _ => ?_)
    | refine Local.cond ?_ ?_
    | split
    | dsimp only)
theorem local_eqlM (fr : Fr) (o : Oper) (neg : Bool) (t : TypeId) (a b : Value) : Local (eqlM P fr o neg t a b) := by
  unfold eqlM
  repeat' (first
    | exact Local.fail
    | exact Local.pure _
    | exact Local.read _ _ _
    | exact Local.write _ _ _
    | exact Local.obj _
    | exact Local.put _ _
    | exact Local.new _
    | exact Local.size _
    | exact Local.ofO _
    | exact local_newCells _ _ 
    | exact local_newVarM _ _ 
    | exact local_loadM _ _ 
    | exact local_storeM _ _ _ 
    | exact local_fieldAddrM _ _ _ 
    | exact local_indexAddrM _ _ _ 
    | exact local_indexM _ _ _ 
    | exact local_buildSliceM _ _ _ 
    | refine Local.bind ?_ (fun _ => ?_)
    | refine Local.cond ?_ ?_
    | split
    | dsimp only)
theorem local_appendedM (e : TypeId) (k : Nat) (z : Bool) (x : Value) : Local (appendedM P e k z x) := by
  unfold appendedM
  repeat' (first
    | exact Local.fail
    | exact Local.pure _
    | exact Local.read _ _ _
    | exact Local.write _ _ _
    | exact Local.obj _
    | exact Local.put _ _
    | exact Local.new _
    | exact Local.size _
    | exact Local.ofO _
    | exact local_newCells _ _ 
    | exact local_newVarM _ _ 
    | exact local_loadM _ _ 
    | exact local_storeM _ _ _ 
    | exact local_fieldAddrM _ _ _ 
    | exact local_indexAddrM _ _ _ 
    | exact local_indexM _ _ _ 
    | exact local_buildSliceM _ _ _ 
    | exact local_eqlM _ _ _ _ _ _ 
    | refine Local.bind ?_ (fun _ => ?_)
    | refine Local.cond ?_ ?_
    | split
    | dsimp only)
theorem local_appendM (a : Array TypeId) (s x : Value) : Local (appendM P a s x) := by
  unfold appendM
  repeat' (first
    | exact Local.fail
    | exact Local.pure _
    | exact Local.read _ _ _
    | exact Local.write _ _ _
    | exact Local.obj _
    | exact Local.put _ _
    | exact Local.new _
    | exact Local.size _
    | exact Local.ofO _
    | exact local_newCells _ _ 
    | exact local_newVarM _ _ 
    | exact local_loadM _ _ 
    | exact local_storeM _ _ _ 
    | exact local_fieldAddrM _ _ _ 
    | exact local_indexAddrM _ _ _ 
    | exact local_indexM _ _ _ 
    | exact local_buildSliceM _ _ _ 
    | exact local_eqlM _ _ _ _ _ _ 
    | exact local_appendedM _ _ _ _ 
    | refine Local.bind ?_ (fun _ => ?_)
    | refine Local.cond ?_ ?_
    | split
    | dsimp only)
theorem local_clearM (a : Array TypeId) (x : Value) : Local (clearM P a x) := by
  unfold clearM
  repeat' (first
    | exact Local.fail
    | exact Local.pure _
    | exact Local.read _ _ _
    | exact Local.write _ _ _
    | exact Local.obj _
    | exact Local.put _ _
    | exact Local.new _
    | exact Local.size _
    | exact Local.ofO _
    | exact local_newCells _ _ 
    | exact local_newVarM _ _ 
    | exact local_loadM _ _ 
    | exact local_storeM _ _ _ 
    | exact local_fieldAddrM _ _ _ 
    | exact local_indexAddrM _ _ _ 
    | exact local_indexM _ _ _ 
    | exact local_buildSliceM _ _ _ 
    | exact local_eqlM _ _ _ _ _ _ 
    | exact local_appendedM _ _ _ _ 
    | exact local_appendM _ _ _ 
    | refine Local.bind ?_ (fun _ => ?_)
    | refine Local.cond ?_ ?_
    | split
    | dsimp only)
theorem local_lenM (a : Array TypeId) (x : Value) : Local (lenM a P x) := by
  unfold lenM
  repeat' (first
    | exact Local.fail
    | exact Local.pure _
    | exact Local.read _ _ _
    | exact Local.write _ _ _
    | exact Local.obj _
    | exact Local.put _ _
    | exact Local.new _
    | exact Local.size _
    | exact Local.ofO _
    | exact local_newCells _ _ 
    | exact local_newVarM _ _ 
    | exact local_loadM _ _ 
    | exact local_storeM _ _ _ 
    | exact local_fieldAddrM _ _ _ 
    | exact local_indexAddrM _ _ _ 
    | exact local_indexM _ _ _ 
    | exact local_buildSliceM _ _ _ 
    | exact local_eqlM _ _ _ _ _ _ 
    | exact local_appendedM _ _ _ _ 
    | exact local_appendM _ _ _ 
    | exact local_clearM _ _ 
    | refine Local.bind ?_ (fun _ => ?_)
    | refine Local.cond ?_ ?_
    | split
    | dsimp only)
theorem local_capM (a : Array TypeId) (x : Value) : Local (capM a P x) := by
  unfold capM
  repeat' (first
    | exact Local.fail
    | exact Local.pure _
    | exact Local.read _ _ _
    | exact Local.write _ _ _
    | exact Local.obj _
    | exact Local.put _ _
    | exact Local.new _
    | exact Local.size _
    | exact Local.ofO _
    | exact local_newCells _ _ 
    | exact local_newVarM _ _ 
    | exact local_loadM _ _ 
    | exact local_storeM _ _ _ 
    | exact local_fieldAddrM _ _ _ 
    | exact local_indexAddrM _ _ _ 
    | exact local_indexM _ _ _ 
    | exact local_buildSliceM _ _ _ 
    | exact local_eqlM _ _ _ _ _ _ 
    | exact local_appendedM _ _ _ _ 
    | exact local_appendM _ _ _ 
    | exact local_clearM _ _ 
    | exact local_lenM _ _ 
    | refine Local.bind ?_ (fun _ => ?_)
    | refine Local.cond ?_ ?_
    | split
    | dsimp only)
theorem local_sliceM (fr : Fr) (o : Oper) (t : TypeId) (x : Value) (lo hi mx : Option Operand) : Local (sliceM P fr o t x lo hi mx) := by
  unfold sliceM
  repeat' (first
    | exact Local.fail
    | exact Local.pure _
    | exact Local.read _ _ _
    | exact Local.write _ _ _
    | exact Local.obj _
    | exact Local.put _ _
    | exact Local.new _
    | exact Local.size _
    | exact Local.ofO _
    | exact local_newCells _ _ 
    | exact local_newVarM _ _ 
    | exact local_loadM _ _ 
    | exact local_storeM _ _ _ 
    | exact local_fieldAddrM _ _ _ 
    | exact local_indexAddrM _ _ _ 
    | exact local_indexM _ _ _ 
    | exact local_buildSliceM _ _ _ 
    | exact local_eqlM _ _ _ _ _ _ 
    | exact local_appendedM _ _ _ _ 
    | exact local_appendM _ _ _ 
    | exact local_clearM _ _ 
    | exact local_lenM _ _ 
    | exact local_capM _ _ 
    | refine Local.bind ?_ (fun _ => ?_)
    | refine Local.cond ?_ ?_
    | split
    | dsimp only)
theorem local_convertM (fr : Fr) (o : Oper) (s d : TypeId) (x : Value) : Local (convertM P fr o s d x) := by
  unfold convertM
  repeat' (first
    | exact Local.fail
    | exact Local.pure _
    | exact Local.read _ _ _
    | exact Local.write _ _ _
    | exact Local.obj _
    | exact Local.put _ _
    | exact Local.new _
    | exact Local.size _
    | exact Local.ofO _
    | exact local_newCells _ _ 
    | exact local_newVarM _ _ 
    | exact local_loadM _ _ 
    | exact local_storeM _ _ _ 
    | exact local_fieldAddrM _ _ _ 
    | exact local_indexAddrM _ _ _ 
    | exact local_indexM _ _ _ 
    | exact local_buildSliceM _ _ _ 
    | exact local_eqlM _ _ _ _ _ _ 
    | exact local_appendedM _ _ _ _ 
    | exact local_appendM _ _ _ 
    | exact local_clearM _ _ 
    | exact local_lenM _ _ 
    | exact local_capM _ _ 
    | exact local_sliceM _ _ _ _ _ _ _ 
    | refine Local.bind ?_ (fun _ => ?_)
    | refine Local.cond ?_ ?_
    | split
    | dsimp only)
theorem local_lookupM (t : TypeId) (x k : Value) (ok : Bool) : Local (lookupM P t x k ok) := by
  unfold lookupM
  repeat' (first
    | exact Local.fail
    | exact Local.pure _
    | exact Local.read _ _ _
    | exact Local.write _ _ _
    | exact Local.obj _
    | exact Local.put _ _
    | exact Local.new _
    | exact Local.size _
    | exact Local.ofO _
    | exact local_newCells _ _ 
    | exact local_newVarM _ _ 
    | exact local_loadM _ _ 
    | exact local_storeM _ _ _ 
    | exact local_fieldAddrM _ _ _ 
    | exact local_indexAddrM _ _ _ 
    | exact local_indexM _ _ _ 
    | exact local_buildSliceM _ _ _ 
    | exact local_eqlM _ _ _ _ _ _ 
    | exact local_appendedM _ _ _ _ 
    | exact local_appendM _ _ _ 
    | exact local_clearM _ _ 
    | exact local_lenM _ _ 
    | exact local_capM _ _ 
    | exact local_sliceM _ _ _ _ _ _ _ 
    | exact local_convertM _ _ _ _ _ 
    | refine Local.bind ?_ (fun _ => ?_)
    | refine Local.cond ?_ ?_
    | split
    | dsimp only)
theorem local_mapUpdateM (t : TypeId) (m k v : Value) : Local (mapUpdateM P t m k v) := by
  unfold mapUpdateM
  repeat' (first
    | exact Local.fail
    | exact Local.pure _
    | exact Local.read _ _ _
    | exact Local.write _ _ _
    | exact Local.obj _
    | exact Local.put _ _
    | exact Local.new _
    | exact Local.size _
    | exact Local.ofO _
    | exact local_newCells _ _ 
    | exact local_newVarM _ _ 
    | exact local_loadM _ _ 
    | exact local_storeM _ _ _ 
    | exact local_fieldAddrM _ _ _ 
    | exact local_indexAddrM _ _ _ 
    | exact local_indexM _ _ _ 
    | exact local_buildSliceM _ _ _ 
    | exact local_eqlM _ _ _ _ _ _ 
    | exact local_appendedM _ _ _ _ 
    | exact local_appendM _ _ _ 
    | exact local_clearM _ _ 
    | exact local_lenM _ _ 
    | exact local_capM _ _ 
    | exact local_sliceM _ _ _ _ _ _ _ 
    | exact local_convertM _ _ _ _ _ 
    | exact local_lookupM _ _ _ _ 
    | refine Local.bind ?_ (fun _ => ?_)
    | refine Local.cond ?_ ?_
    | split
    | dsimp only)
theorem local_rangeM (t : TypeId) (x : Value) : Local (rangeM P t x) := by
  unfold rangeM
  repeat' (first
    | exact Local.fail
    | exact Local.pure _
    | exact Local.read _ _ _
    | exact Local.write _ _ _
    | exact Local.obj _
    | exact Local.put _ _
    | exact Local.new _
    | exact Local.size _
    | exact Local.ofO _
    | exact local_newCells _ _ 
    | exact local_newVarM _ _ 
    | exact local_loadM _ _ 
    | exact local_storeM _ _ _ 
    | exact local_fieldAddrM _ _ _ 
    | exact local_indexAddrM _ _ _ 
    | exact local_indexM _ _ _ 
    | exact local_buildSliceM _ _ _ 
    | exact local_eqlM _ _ _ _ _ _ 
    | exact local_appendedM _ _ _ _ 
    | exact local_appendM _ _ _ 
    | exact local_clearM _ _ 
    | exact local_lenM _ _ 
    | exact local_capM _ _ 
    | exact local_sliceM _ _ _ _ _ _ _ 
    | exact local_convertM _ _ _ _ _ 
    | exact local_lookupM _ _ _ _ 
    | exact local_mapUpdateM _ _ _ _ 
    | refine Local.bind ?_ (fun _ => ?_)
    | refine Local.cond ?_ ?_
    | split
    | dsimp only)
theorem local_nextM (x : Value) (b : Bool) : Local (nextM x b) := by
  unfold nextM
  repeat' (first
    | exact Local.fail
    | exact Local.pure _
    | exact Local.read _ _ _
    | exact Local.write _ _ _
    | exact Local.obj _
    | exact Local.put _ _
    | exact Local.new _
    | exact Local.size _
    | exact Local.ofO _
    | exact local_newCells _ _ 
    | exact local_newVarM _ _ 
    | exact local_loadM _ _ 
    | exact local_storeM _ _ _ 
    | exact local_fieldAddrM _ _ _ 
    | exact local_indexAddrM _ _ _ 
    | exact local_indexM _ _ _ 
    | exact local_buildSliceM _ _ _ 
    | exact local_eqlM _ _ _ _ _ _ 
    | exact local_appendedM _ _ _ _ 
    | exact local_appendM _ _ _ 
    | exact local_clearM _ _ 
    | exact local_lenM _ _ 
    | exact local_capM _ _ 
    | exact local_sliceM _ _ _ _ _ _ _ 
    | exact local_convertM _ _ _ _ _ 
    | exact local_lookupM _ _ _ _ 
    | exact local_mapUpdateM _ _ _ _ 
    | exact local_rangeM _ _ 
    | refine Local.bind ?_ (fun _ => ?_)
    | refine Local.cond ?_ ?_
    | split
    | dsimp only)

end
end Go.Proofs.YtkiakphfgdkdiaaGreat
