/-
  An evaluator for closed calls: nothing hangs on the record; names that are there lie below the next one.
-/
import Derived.Test.YtkiakphfgdkdiaaGreatEvW
namespace Go.Proofs.YtkiakphfgdkdiaaGreat
open Go Go.RowKit
set_option linter.unusedVariables false

def Bd (s : HS) : Prop := ∀ m, s.next ≤ m → s.h.get m = none
def Fine {α : Type} (m : M α) : Prop := ∀ s v s', m s = some (v, s') → ∃ ext, s'.log = ext ++ s.log ∧ (∀ L, m ⟨s.h, s.next, L⟩ = some (v, ⟨s'.h, s'.next, ext ++ L⟩)) ∧
  (Bd s → Bd s' ∧ s.next ≤ s'.next ∧ ∀ x ∈ ext, x.name < s'.next)

section
variable {P : Program} {pf : List (FuncId × Value)} {R : Run} {ops : Array Oper}

theorem Fine.pure {α : Type} (a : α) : Fine (M.pure a) := by
  intro s v s' h
  cases h
  exact ⟨[], rfl, fun L => rfl, fun hb => ⟨hb, Nat.le_refl _, fun x hx => by cases hx⟩⟩
theorem Fine.fail {α : Type} : Fine (M.fail (α := α)) := by intro s v s' h; cases h
theorem Fine.bind {α β : Type} {m : M α} {f : α → M β} (hm : Fine m) (hf : ∀ a, Fine (f a)) : Fine (m.bind f) := by
  intro s v s' h
  obtain ⟨a, s1, h1, h2⟩ := M.bind_some h
  obtain ⟨e1, l1, k1, b1⟩ := hm s a s1 h1
  obtain ⟨e2, l2, k2, b2⟩ := hf a s1 v s' h2
  refine ⟨e2 ++ e1, by rw [l2, l1, List.append_assoc], fun L => ?_, fun hb => ?_⟩
  · unfold M.bind
    rw [k1 L]
    dsimp only
    rw [k2 (e1 ++ L), List.append_assoc]
  · obtain ⟨c1, c2, c3⟩ := b1 hb
    obtain ⟨d1, d2, d3⟩ := b2 c1
    refine ⟨d1, Nat.le_trans c2 d2, fun x hx => ?_⟩
    rcases List.mem_append.1 hx with hx | hx
    · exact d3 x hx
    · exact Nat.lt_of_lt_of_le (c3 x hx) d2
theorem Fine.cond {α : Type} {b : Bool} {x y : M α} (hx : Fine x) (hy : Fine y) : Fine (cond b x y) := by
  cases b
  · exact hy
  · exact hx
theorem Fine.ofO {α : Type} (o : Option α) : Fine (M.ofO o) := by
  cases o with
  | none => exact Fine.fail
  | some a => exact Fine.pure a
theorem Bd.lt {s : HS} (h : Bd s) {m : Nat} {o : AObj} (hm : s.h.get m = some o) : m < s.next := by
  rcases Nat.lt_or_ge m s.next with h1 | h1
  · exact h1
  · rw [h m h1] at hm; cases hm
theorem Fine.read (n lo len : Nat) : Fine (mRead n lo len) := by
  intro s v s' h
  rw [mRead_eq] at h
  cases hg : s.h.get n with
  | none => rw [hg] at h; cases h
  | some o =>
    rw [hg] at h
    cases o <;> try (cases h; done)
    rename_i c e
    dsimp only at h
    cases hs : slots c lo len with
    | none => rw [hs] at h; cases h
    | some l =>
      rw [hs] at h
      cases h
      refine ⟨[.rd n lo len], rfl, fun L => by rw [mRead_eq]; simp only [hg, hs]; rfl, fun hb => ⟨hb, Nat.le_refl _, fun x hx => ?_⟩⟩
      rw [List.mem_singleton.1 hx]; exact hb.lt hg
theorem Fine.size (n : Nat) : Fine (mSize n) := by
  intro s v s' h
  obtain ⟨hh, nn, ll⟩ := s
  unfold mSize at h ⊢
  dsimp only at h ⊢
  cases hg : hh.get n with
  | none => rw [hg] at h; cases h
  | some o =>
    rw [hg] at h
    cases o <;> try (cases h; done)
    cases h
    refine ⟨[.rd n 0 0], rfl, fun L => rfl, fun hb => ⟨hb, Nat.le_refl _, fun x hx => ?_⟩⟩
    rw [List.mem_singleton.1 hx]; exact hb.lt hg
theorem Bd.set {s : HS} (h : Bd s) {m : Nat} (hm : m < s.next) (o : AObj) (l : List Ac) : Bd ⟨s.h.set m o, s.next, l⟩ := by
  intro k hk
  have hk : s.next ≤ k := hk
  show (s.h.set m o).get k = none
  rw [Tri.get_set, if_neg (by omega)]
  exact h k hk
theorem Fine.write (n lo : Nat) (vs : List Value) : Fine (mWrite n lo vs) := by
  intro s v s' h
  rw [mWrite_eq] at h
  cases hg : s.h.get n with
  | none => rw [hg] at h; cases h
  | some o =>
    rw [hg] at h
    cases o <;> try (cases h; done)
    rename_i c e
    dsimp only at h
    cases hb : Nat.ble (lo + vs.length) c.length with
    | false => rw [hb] at h; cases h
    | true =>
      rw [hb] at h
      cases h
      refine ⟨[.wr n lo vs], rfl, fun L => by rw [mWrite_eq]; simp only [hg, hb]; rfl, fun hb => ⟨hb.set (hb.lt hg) _ _, Nat.le_refl _, fun x hx => ?_⟩⟩
      rw [List.mem_singleton.1 hx]; exact hb.lt hg
theorem Fine.obj (n : Nat) : Fine (mObj n) := by
  intro s v s' h
  rw [mObj_eq] at h
  cases hg : s.h.get n with
  | none => rw [hg] at h; cases h
  | some o =>
    rw [hg] at h
    cases h
    refine ⟨[.rdo n], rfl, fun L => by rw [mObj_eq]; simp only [hg]; rfl, fun hb => ⟨hb, Nat.le_refl _, fun x hx => ?_⟩⟩
    rw [List.mem_singleton.1 hx]; exact hb.lt hg
theorem Fine.put (n : Nat) (o : AObj) : Fine (mPut n o) := by
  intro s v s' h
  rw [mPut_eq] at h
  cases hg : s.h.get n with
  | none => rw [hg] at h; cases h
  | some q =>
    rw [hg] at h
    cases h
    refine ⟨[.put n o, .rdo n], rfl, fun L => by rw [mPut_eq]; simp only [hg]; rfl, fun hb => ⟨hb.set (hb.lt hg) _ _, Nat.le_refl _, fun x hx => ?_⟩⟩
    simp only [List.mem_cons, List.not_mem_nil, or_false] at hx
    rcases hx with rfl | rfl <;> exact hb.lt hg
theorem Fine.new (o : AObj) : Fine (mNew o) := by
  intro s v s' h
  rw [mNew_eq] at h
  cases hg : s.h.get s.next with
  | some q => rw [hg] at h; cases h
  | none =>
    rw [hg] at h
    cases h
    refine ⟨[.put s.next o, .rdo s.next], rfl, fun L => by rw [mNew_eq]; simp only [hg]; rfl, fun hb => ⟨fun k hk => ?_, Nat.le_succ _, fun x hx => ?_⟩⟩
    · have hk : s.next + 1 ≤ k := hk
      show (s.h.set s.next o).get k = none
      rw [Tri.get_set, if_neg (by omega)]
      exact hb k (by omega)
    · simp only [List.mem_cons, List.not_mem_nil, or_false] at hx
      rcases hx with rfl | rfl <;> exact Nat.lt_succ_self _

theorem fine_newCells (e : TypeId) (c : List Value) : Fine (newCells e c) := by
  unfold newCells
  repeat' (first
    | exact Fine.fail
    | exact Fine.pure _
    | exact Fine.read _ _ _
    | exact Fine.write _ _ _
    | exact Fine.obj _
    | exact Fine.put _ _
    | exact Fine.new _
    | exact Fine.size _
    | exact Fine.ofO _
    | refine Fine.bind ?_ (fun _ => ?_)
    | refine Fine.cond ?_ ?_
    | split
    | dsimp only)
theorem fine_newVarM (e : TypeId) (v : Value) : Fine (newVarM e v) := by
  unfold newVarM
  repeat' (first
    | exact Fine.fail
    | exact Fine.pure _
    | exact Fine.read _ _ _
    | exact Fine.write _ _ _
    | exact Fine.obj _
    | exact Fine.put _ _
    | exact Fine.new _
    | exact Fine.size _
    | exact Fine.ofO _
    | exact fine_newCells _ _ 
    | refine Fine.bind ?_ (fun _ => ?_)
    | refine Fine.cond ?_ ?_
    | split
    | dsimp only)
theorem fine_loadM (t : TypeId) (a : Value) : Fine (loadM P t a) := by
  unfold loadM
  repeat' (first
    | exact Fine.fail
    | exact Fine.pure _
    | exact Fine.read _ _ _
    | exact Fine.write _ _ _
    | exact Fine.obj _
    | exact Fine.put _ _
    | exact Fine.new _
    | exact Fine.size _
    | exact Fine.ofO _
    | exact fine_newCells _ _ 
    | exact fine_newVarM _ _ 
    | refine Fine.bind ?_ (fun _ => ?_)
    | refine Fine.cond ?_ ?_
    | split
    | dsimp only)
theorem fine_storeM (t : TypeId) (a v : Value) : Fine (storeM P t a v) := by
  unfold storeM
  repeat' (first
    | exact Fine.fail
    | exact Fine.pure _
    | exact Fine.read _ _ _
    | exact Fine.write _ _ _
    | exact Fine.obj _
    | exact Fine.put _ _
    | exact Fine.new _
    | exact Fine.size _
    | exact Fine.ofO _
    | exact fine_newCells _ _ 
    | exact fine_newVarM _ _ 
    | exact fine_loadM _ _ 
    | refine Fine.bind ?_ (fun _ => ?_)
    | refine Fine.cond ?_ ?_
    | split
    | dsimp only)
theorem fine_fieldAddrM (s : TypeId) (x : Value) (f : Nat) : Fine (fieldAddrM P s x f) := by
  unfold fieldAddrM
  repeat' (first
    | exact Fine.fail
    | exact Fine.pure _
    | exact Fine.read _ _ _
    | exact Fine.write _ _ _
    | exact Fine.obj _
    | exact Fine.put _ _
    | exact Fine.new _
    | exact Fine.size _
    | exact Fine.ofO _
    | exact fine_newCells _ _ 
    | exact fine_newVarM _ _ 
    | exact fine_loadM _ _ 
    | exact fine_storeM _ _ _ 
    | refine Fine.bind ?_ (fun _ => ?_)
    | refine Fine.cond ?_ ?_
    | split
    | dsimp only)
theorem fine_indexAddrM (t : TypeId) (x i : Value) : Fine (indexAddrM P t x i) := by
  unfold indexAddrM
  repeat' (first
    | exact Fine.fail
    | exact Fine.pure _
    | exact Fine.read _ _ _
    | exact Fine.write _ _ _
    | exact Fine.obj _
    | exact Fine.put _ _
    | exact Fine.new _
    | exact Fine.size _
    | exact Fine.ofO _
    | exact fine_newCells _ _ 
    | exact fine_newVarM _ _ 
    | exact fine_loadM _ _ 
    | exact fine_storeM _ _ _ 
    | exact fine_fieldAddrM _ _ _ 
    | refine Fine.bind ?_ (fun _ => ?_)
    | refine Fine.cond ?_ ?_
    | split
    | dsimp only)
theorem fine_indexM (t : TypeId) (x i : Value) : Fine (indexM P t x i) := by
  unfold indexM
  repeat' (first
    | exact Fine.fail
    | exact Fine.pure _
    | exact Fine.read _ _ _
    | exact Fine.write _ _ _
    | exact Fine.obj _
    | exact Fine.put _ _
    | exact Fine.new _
    | exact Fine.size _
    | exact Fine.ofO _
    | exact fine_newCells _ _ 
    | exact fine_newVarM _ _ 
    | exact fine_loadM _ _ 
    | exact fine_storeM _ _ _ 
    | exact fine_fieldAddrM _ _ _ 
    | exact fine_indexAddrM _ _ _ 
    | refine Fine.bind ?_ (fun _ => ?_)
    | refine Fine.cond ?_ ?_
    | split
    | dsimp only)
theorem fine_buildSliceM (t : TypeId) (n : Nat) (ps : List (Nat × Value)) : Fine (buildSliceM P t n ps) := by
  unfold buildSliceM
  repeat' (first
    | exact Fine.fail
    | exact Fine.pure _
    | exact Fine.read _ _ _
    | exact Fine.write _ _ _
    | exact Fine.obj _
    | exact Fine.put _ _
    | exact Fine.new _
    | exact Fine.size _
    | exact Fine.ofO _
    | exact fine_newCells _ _ 
    | exact fine_newVarM _ _ 
    | exact fine_loadM _ _ 
    | exact fine_storeM _ _ _ 
    | exact fine_fieldAddrM _ _ _ 
    | exact fine_indexAddrM _ _ _ 
    | exact fine_indexM _ _ _ 
    | refine Fine.bind ?_ (fun _ => ?_)
    | refine Fine.cond ?_ ?_
    | split
    | dsimp only)
theorem fine_eqlM (fr : Fr) (o : Oper) (neg : Bool) (t : TypeId) (a b : Value) : Fine (eqlM P fr o neg t a b) := by
  unfold eqlM
  repeat' (first
    | exact Fine.fail
    | exact Fine.pure _
    | exact Fine.read _ _ _
    | exact Fine.write _ _ _
    | exact Fine.obj _
    | exact Fine.put _ _
    | exact Fine.new _
    | exact Fine.size _
    | exact Fine.ofO _
    | exact fine_newCells _ _ 
    | exact fine_newVarM _ _ 
    | exact fine_loadM _ _ 
    | exact fine_storeM _ _ _ 
    | exact fine_fieldAddrM _ _ _ 
    | exact fine_indexAddrM _ _ _ 
    | exact fine_indexM _ _ _ 
    | exact fine_buildSliceM _ _ _ 
    | refine Fine.bind ?_ (fun _ => ?_)
    | refine Fine.cond ?_ ?_
    | split
    | dsimp only)
theorem fine_appendedM (e : TypeId) (k : Nat) (z : Bool) (x : Value) : Fine (appendedM P e k z x) := by
  unfold appendedM
  repeat' (first
    | exact Fine.fail
    | exact Fine.pure _
    | exact Fine.read _ _ _
    | exact Fine.write _ _ _
    | exact Fine.obj _
    | exact Fine.put _ _
    | exact Fine.new _
    | exact Fine.size _
    | exact Fine.ofO _
    | exact fine_newCells _ _ 
    | exact fine_newVarM _ _ 
    | exact fine_loadM _ _ 
    | exact fine_storeM _ _ _ 
    | exact fine_fieldAddrM _ _ _ 
    | exact fine_indexAddrM _ _ _ 
    | exact fine_indexM _ _ _ 
    | exact fine_buildSliceM _ _ _ 
    | exact fine_eqlM _ _ _ _ _ _ 
    | refine Fine.bind ?_ (fun _ => ?_)
    | refine Fine.cond ?_ ?_
    | split
    | dsimp only)
theorem fine_appendM (a : Array TypeId) (s x : Value) : Fine (appendM P a s x) := by
  unfold appendM
  repeat' (first
    | exact Fine.fail
    | exact Fine.pure _
    | exact Fine.read _ _ _
    | exact Fine.write _ _ _
    | exact Fine.obj _
    | exact Fine.put _ _
    | exact Fine.new _
    | exact Fine.size _
    | exact Fine.ofO _
    | exact fine_newCells _ _ 
    | exact fine_newVarM _ _ 
    | exact fine_loadM _ _ 
    | exact fine_storeM _ _ _ 
    | exact fine_fieldAddrM _ _ _ 
    | exact fine_indexAddrM _ _ _ 
    | exact fine_indexM _ _ _ 
    | exact fine_buildSliceM _ _ _ 
    | exact fine_eqlM _ _ _ _ _ _ 
    | exact fine_appendedM _ _ _ _ 
    | refine Fine.bind ?_ (fun _ => ?_)
    | refine Fine.cond ?_ ?_
    | split
    | dsimp only)
theorem fine_clearM (a : Array TypeId) (x : Value) : Fine (clearM P a x) := by
  unfold clearM
  repeat' (first
    | exact Fine.fail
    | exact Fine.pure _
    | exact Fine.read _ _ _
    | exact Fine.write _ _ _
    | exact Fine.obj _
    | exact Fine.put _ _
    | exact Fine.new _
    | exact Fine.size _
    | exact Fine.ofO _
    | exact fine_newCells _ _ 
    | exact fine_newVarM _ _ 
    | exact fine_loadM _ _ 
    | exact fine_storeM _ _ _ 
    | exact fine_fieldAddrM _ _ _ 
    | exact fine_indexAddrM _ _ _ 
    | exact fine_indexM _ _ _ 
    | exact fine_buildSliceM _ _ _ 
    | exact fine_eqlM _ _ _ _ _ _ 
    | exact fine_appendedM _ _ _ _ 
    | exact fine_appendM _ _ _ 
    | refine Fine.bind ?_ (fun _ => ?_)
    | refine Fine.cond ?_ ?_
    | split
    | dsimp only)
theorem fine_lenM (a : Array TypeId) (x : Value) : Fine (lenM a P x) := by
  unfold lenM
  repeat' (first
    | exact Fine.fail
    | exact Fine.pure _
    | exact Fine.read _ _ _
    | exact Fine.write _ _ _
    | exact Fine.obj _
    | exact Fine.put _ _
    | exact Fine.new _
    | exact Fine.size _
    | exact Fine.ofO _
    | exact fine_newCells _ _ 
    | exact fine_newVarM _ _ 
    | exact fine_loadM _ _ 
    | exact fine_storeM _ _ _ 
    | exact fine_fieldAddrM _ _ _ 
    | exact fine_indexAddrM _ _ _ 
    | exact fine_indexM _ _ _ 
    | exact fine_buildSliceM _ _ _ 
    | exact fine_eqlM _ _ _ _ _ _ 
    | exact fine_appendedM _ _ _ _ 
    | exact fine_appendM _ _ _ 
    | exact fine_clearM _ _ 
    | refine Fine.bind ?_ (fun _ => ?_)
    | refine Fine.cond ?_ ?_
    | split
    | dsimp only)
theorem fine_capM (a : Array TypeId) (x : Value) : Fine (capM a P x) := by
  unfold capM
  repeat' (first
    | exact Fine.fail
    | exact Fine.pure _
    | exact Fine.read _ _ _
    | exact Fine.write _ _ _
    | exact Fine.obj _
    | exact Fine.put _ _
    | exact Fine.new _
    | exact Fine.size _
    | exact Fine.ofO _
    | exact fine_newCells _ _ 
    | exact fine_newVarM _ _ 
    | exact fine_loadM _ _ 
    | exact fine_storeM _ _ _ 
    | exact fine_fieldAddrM _ _ _ 
    | exact fine_indexAddrM _ _ _ 
    | exact fine_indexM _ _ _ 
    | exact fine_buildSliceM _ _ _ 
    | exact fine_eqlM _ _ _ _ _ _ 
    | exact fine_appendedM _ _ _ _ 
    | exact fine_appendM _ _ _ 
    | exact fine_clearM _ _ 
    | exact fine_lenM _ _ 
    | refine Fine.bind ?_ (fun _ => ?_)
    | refine Fine.cond ?_ ?_
    | split
    | dsimp only)
theorem fine_sliceM (fr : Fr) (o : Oper) (t : TypeId) (x : Value) (lo hi mx : Option Operand) : Fine (sliceM P fr o t x lo hi mx) := by
  unfold sliceM
  repeat' (first
    | exact Fine.fail
    | exact Fine.pure _
    | exact Fine.read _ _ _
    | exact Fine.write _ _ _
    | exact Fine.obj _
    | exact Fine.put _ _
    | exact Fine.new _
    | exact Fine.size _
    | exact Fine.ofO _
    | exact fine_newCells _ _ 
    | exact fine_newVarM _ _ 
    | exact fine_loadM _ _ 
    | exact fine_storeM _ _ _ 
    | exact fine_fieldAddrM _ _ _ 
    | exact fine_indexAddrM _ _ _ 
    | exact fine_indexM _ _ _ 
    | exact fine_buildSliceM _ _ _ 
    | exact fine_eqlM _ _ _ _ _ _ 
    | exact fine_appendedM _ _ _ _ 
    | exact fine_appendM _ _ _ 
    | exact fine_clearM _ _ 
    | exact fine_lenM _ _ 
    | exact fine_capM _ _ 
    | refine Fine.bind ?_ (fun _ => ?_)
    | refine Fine.cond ?_ ?_
    | split
    | dsimp only)
theorem fine_convertM (fr : Fr) (o : Oper) (s d : TypeId) (x : Value) : Fine (convertM P fr o s d x) := by
  unfold convertM
  repeat' (first
    | exact Fine.fail
    | exact Fine.pure _
    | exact Fine.read _ _ _
    | exact Fine.write _ _ _
    | exact Fine.obj _
    | exact Fine.put _ _
    | exact Fine.new _
    | exact Fine.size _
    | exact Fine.ofO _
    | exact fine_newCells _ _ 
    | exact fine_newVarM _ _ 
    | exact fine_loadM _ _ 
    | exact fine_storeM _ _ _ 
    | exact fine_fieldAddrM _ _ _ 
    | exact fine_indexAddrM _ _ _ 
    | exact fine_indexM _ _ _ 
    | exact fine_buildSliceM _ _ _ 
    | exact fine_eqlM _ _ _ _ _ _ 
    | exact fine_appendedM _ _ _ _ 
    | exact fine_appendM _ _ _ 
    | exact fine_clearM _ _ 
    | exact fine_lenM _ _ 
    | exact fine_capM _ _ 
    | exact fine_sliceM _ _ _ _ _ _ _ 
    | refine Fine.bind ?_ (fun _ => ?_)
    | refine Fine.cond ?_ ?_
    | split
    | dsimp only)
theorem fine_lookupM (t : TypeId) (x k : Value) (ok : Bool) : Fine (lookupM P t x k ok) := by
  unfold lookupM
  repeat' (first
    | exact Fine.fail
    | exact Fine.pure _
    | exact Fine.read _ _ _
    | exact Fine.write _ _ _
    | exact Fine.obj _
    | exact Fine.put _ _
    | exact Fine.new _
    | exact Fine.size _
    | exact Fine.ofO _
    | exact fine_newCells _ _ 
    | exact fine_newVarM _ _ 
    | exact fine_loadM _ _ 
    | exact fine_storeM _ _ _ 
    | exact fine_fieldAddrM _ _ _ 
    | exact fine_indexAddrM _ _ _ 
    | exact fine_indexM _ _ _ 
    | exact fine_buildSliceM _ _ _ 
    | exact fine_eqlM _ _ _ _ _ _ 
    | exact fine_appendedM _ _ _ _ 
    | exact fine_appendM _ _ _ 
    | exact fine_clearM _ _ 
    | exact fine_lenM _ _ 
    | exact fine_capM _ _ 
    | exact fine_sliceM _ _ _ _ _ _ _ 
    | exact fine_convertM _ _ _ _ _ 
    | refine Fine.bind ?_ (fun _ => ?_)
    | refine Fine.cond ?_ ?_
    | split
    | dsimp only)
theorem fine_mapUpdateM (t : TypeId) (m k v : Value) : Fine (mapUpdateM P t m k v) := by
  unfold mapUpdateM
  repeat' (first
    | exact Fine.fail
    | exact Fine.pure _
    | exact Fine.read _ _ _
    | exact Fine.write _ _ _
    | exact Fine.obj _
    | exact Fine.put _ _
    | exact Fine.new _
    | exact Fine.size _
    | exact Fine.ofO _
    | exact fine_newCells _ _ 
    | exact fine_newVarM _ _ 
    | exact fine_loadM _ _ 
    | exact fine_storeM _ _ _ 
    | exact fine_fieldAddrM _ _ _ 
    | exact fine_indexAddrM _ _ _ 
    | exact fine_indexM _ _ _ 
    | exact fine_buildSliceM _ _ _ 
    | exact fine_eqlM _ _ _ _ _ _ 
    | exact fine_appendedM _ _ _ _ 
    | exact fine_appendM _ _ _ 
    | exact fine_clearM _ _ 
    | exact fine_lenM _ _ 
    | exact fine_capM _ _ 
    | exact fine_sliceM _ _ _ _ _ _ _ 
    | exact fine_convertM _ _ _ _ _ 
    | exact fine_lookupM _ _ _ _ 
    | refine Fine.bind ?_ (fun _ => ?_)
    | refine Fine.cond ?_ ?_
    | split
    | dsimp only)
theorem fine_rangeM (t : TypeId) (x : Value) : Fine (rangeM P t x) := by
  unfold rangeM
  repeat' (first
    | exact Fine.fail
    | exact Fine.pure _
    | exact Fine.read _ _ _
    | exact Fine.write _ _ _
    | exact Fine.obj _
    | exact Fine.put _ _
    | exact Fine.new _
    | exact Fine.size _
    | exact Fine.ofO _
    | exact fine_newCells _ _ 
    | exact fine_newVarM _ _ 
    | exact fine_loadM _ _ 
    | exact fine_storeM _ _ _ 
    | exact fine_fieldAddrM _ _ _ 
    | exact fine_indexAddrM _ _ _ 
    | exact fine_indexM _ _ _ 
    | exact fine_buildSliceM _ _ _ 
    | exact fine_eqlM _ _ _ _ _ _ 
    | exact fine_appendedM _ _ _ _ 
    | exact fine_appendM _ _ _ 
    | exact fine_clearM _ _ 
    | exact fine_lenM _ _ 
    | exact fine_capM _ _ 
    | exact fine_sliceM _ _ _ _ _ _ _ 
    | exact fine_convertM _ _ _ _ _ 
    | exact fine_lookupM _ _ _ _ 
    | exact fine_mapUpdateM _ _ _ _ 
    | refine Fine.bind ?_ (fun _ => ?_)
    | refine Fine.cond ?_ ?_
    | split
    | dsimp only)
theorem fine_nextM (x : Value) (b : Bool) : Fine (nextM x b) := by
  unfold nextM
  repeat' (first
    | exact Fine.fail
    | exact Fine.pure _
    | exact Fine.read _ _ _
    | exact Fine.write _ _ _
    | exact Fine.obj _
    | exact Fine.put _ _
    | exact Fine.new _
    | exact Fine.size _
    | exact Fine.ofO _
    | exact fine_newCells _ _ 
    | exact fine_newVarM _ _ 
    | exact fine_loadM _ _ 
    | exact fine_storeM _ _ _ 
    | exact fine_fieldAddrM _ _ _ 
    | exact fine_indexAddrM _ _ _ 
    | exact fine_indexM _ _ _ 
    | exact fine_buildSliceM _ _ _ 
    | exact fine_eqlM _ _ _ _ _ _ 
    | exact fine_appendedM _ _ _ _ 
    | exact fine_appendM _ _ _ 
    | exact fine_clearM _ _ 
    | exact fine_lenM _ _ 
    | exact fine_capM _ _ 
    | exact fine_sliceM _ _ _ _ _ _ _ 
    | exact fine_convertM _ _ _ _ _ 
    | exact fine_lookupM _ _ _ _ 
    | exact fine_mapUpdateM _ _ _ _ 
    | exact fine_rangeM _ _ 
    | refine Fine.bind ?_ (fun _ => ?_)
    | refine Fine.cond ?_ ?_
    | split
    | dsimp only)
theorem fine_evOp (hR : ∀ c fr, Fine (R c fr)) (hC : ∀ fv args, Fine (callValM P pf R fv args)) (fr : Fr) (o : Oper) : Fine (evOp P pf R fr o) := by
  unfold evOp
  repeat' (first
    | exact Fine.fail
    | exact Fine.pure _
    | exact Fine.new _
    | exact Fine.ofO _
    | exact fine_newVarM _ _
    | exact fine_loadM _ _
    | exact fine_storeM _ _ _
    | exact fine_fieldAddrM _ _ _
    | exact fine_indexAddrM _ _ _
    | exact fine_indexM _ _ _
    | exact fine_buildSliceM _ _ _
    | exact fine_eqlM _ _ _ _ _ _
    | exact fine_appendM _ _ _
    | exact fine_clearM _ _
    | exact fine_lenM _ _
    | exact fine_capM _ _
    | exact fine_sliceM _ _ _ _ _ _ _
    | exact fine_convertM _ _ _ _ _
    | exact fine_lookupM _ _ _ _
    | exact fine_mapUpdateM _ _ _ _
    | exact fine_rangeM _ _
    | exact fine_nextM _ _
    | exact hC _ _
    | refine Fine.bind ?_ (fun _ => ?_)
    | refine Fine.cond ?_ ?_
    | split
    | dsimp only)

theorem fine_leave : ∀ l, Fine (leaveM l)
  | [] => Fine.pure _
  | n :: l => by
    unfold leaveM
    refine Fine.bind (Fine.obj n) fun o => ?_
    cases o <;> first
      | exact Fine.fail
      | exact Fine.bind (Fine.put _ _) fun _ => fine_leave l
theorem fine_result (fr : Fr) : ∀ l, Fine (resultM P fr l)
  | [] => Fine.pure _
  | .tmp t :: l => by unfold resultM; exact Fine.bind (fine_result fr l) fun _ => Fine.pure _
  | .cell a t :: l => by unfold resultM; exact Fine.bind (fine_loadM _ _) fun _ => Fine.bind (fine_result fr l) fun _ => Fine.pure _

theorem fine_callM (hR : ∀ c fr, Fine (R c fr)) (f : FuncId) (args : List Value) : Fine (callM P pf R f args) := by
  unfold callM
  repeat' (first
    | exact Fine.fail
    | exact Fine.pure _
    | exact hR _ _
    | exact fine_leave _
    | exact fine_result _ _
    | refine Fine.bind ?_ (fun _ => ?_)
    | refine Fine.cond ?_ ?_
    | split
    | dsimp only)

theorem fine_yieldM (hR : ∀ c fr, Fine (R c fr)) (l : Nat) (args : List Value) : Fine (yieldM R l args) := by
  unfold yieldM
  repeat' (first
    | exact Fine.fail
    | exact Fine.pure _
    | exact Fine.obj _
    | exact Fine.put _ _
    | exact hR _ _
    | refine Fine.bind ?_ (fun _ => ?_)
    | refine Fine.cond ?_ ?_
    | split
    | dsimp only)

theorem fine_callVal (hR : ∀ c fr, Fine (R c fr)) (fv : Value) (args : List Value) : Fine (callValM P pf R fv args) := by
  unfold callValM
  split
  · exact fine_callM hR _ _
  · exact fine_yieldM hR _ _
  · exact Fine.fail

theorem fine_evVal (hR : ∀ c fr, Fine (R c fr)) (fr : Fr) (i : Nat) : Fine (evVal P pf R ops fr i) := by
  unfold evVal
  split
  · exact Fine.fail
  · exact Fine.cond (fine_evOp hR (fun fv args => fine_callVal hR fv args) _ _) (Fine.pure _)
theorem fine_evOpAt (hR : ∀ c fr, Fine (R c fr)) (fr : Fr) (i : Nat) : Fine (evOpAt P pf R ops fr i) := by
  rw [evOpAt_val]
  exact Fine.bind (fine_evVal hR fr i) fun _ => Fine.pure _

theorem fine_evOps (hR : ∀ c fr, Fine (R c fr)) : ∀ (l : List Nat) (fr : Fr), Fine (evOps P pf R ops l fr)
  | [], fr => Fine.pure _
  | i :: l, fr => by unfold evOps; exact Fine.bind (fine_evOpAt hR fr i) fun fr' => fine_evOps hR l fr'


theorem fine_drawGo (hR : ∀ c fr, Fine (R c fr)) : ∀ (l : List Nat) (fr : Fr), Fine (drawGo P pf R ops l fr)
  | [], fr => Fine.pure _
  | i :: l, fr => by
    intro s v s' h
    rw [drawGo_eq] at h
    cases h1 : evOpAt P pf R ops fr i ⟨s.h, s.next, []⟩ with
    | none => rw [h1] at h; cases h
    | some p =>
      obtain ⟨fr1, s1⟩ := p
      rw [h1] at h
      dsimp only at h
      cases h2 : drawGo P pf R ops l fr1 ⟨s1.h, s1.next, s1.log ++ s.log⟩ with
      | none => rw [h2] at h; cases h
      | some p =>
        obtain ⟨⟨fr2, recs⟩, s2⟩ := p
        rw [h2] at h
        cases h
        obtain ⟨e1, l1, k1, b1⟩ := fine_evOpAt hR fr i _ _ _ h1
        obtain ⟨e2, l2, k2, b2⟩ := fine_drawGo hR l fr1 _ _ _ h2
        have l1 : s1.log = e1 := by simpa using l1
        refine ⟨e2 ++ e1, by rw [l2, l1, List.append_assoc], fun L => ?_, fun hb => ?_⟩
        · rw [drawGo_eq, h1]
          dsimp only
          rw [k2 (s1.log ++ L)]
          simp only [l1, List.append_assoc]
        · obtain ⟨c1, c2, c3⟩ := b1 hb
          obtain ⟨d1, d2, d3⟩ := b2 c1
          refine ⟨d1, Nat.le_trans c2 d2, fun x hx => ?_⟩
          rcases List.mem_append.1 hx with hx | hx
          · exact d3 x hx
          · exact Nat.lt_of_lt_of_le (c3 x hx) d2
theorem fine_draw (hR : ∀ c fr, Fine (R c fr)) (fr : Fr) : Fine (drawM P pf R ops fr) := by
  unfold drawM
  refine Fine.cond ?_ Fine.fail
  intro s v s' h
  dsimp only at h
  cases h1 : drawGo P pf R ops (List.range ops.size) fr s with
  | none => rw [h1] at h; cases h
  | some p =>
    obtain ⟨⟨fr', recs⟩, s1⟩ := p
    rw [h1] at h
    dsimp only at h
    cases hc : allApart (masks ops) recs with
    | false => rw [hc] at h; cases h
    | true =>
      rw [hc] at h
      cases h
      obtain ⟨e, l, k, b⟩ := fine_drawGo hR _ _ _ _ _ h1
      refine ⟨e, l, fun L => ?_, b⟩
      dsimp only
      rw [k L]
      dsimp only
      rw [hc]
      rfl
theorem fine_rangeFunc (hR : ∀ c fr, Fine (R c fr)) (g : Operand) (ps : Array Tmp) (assign body : Code) (fr : Fr) : Fine (rangeFuncM P pf R g ps assign body fr) := by
  unfold rangeFuncM
  repeat' (first
    | exact Fine.fail
    | exact Fine.pure _
    | exact Fine.obj _
    | exact Fine.put _ _
    | exact Fine.new _
    | exact fine_callM hR _ _
    | refine Fine.bind ?_ (fun _ => ?_)
    | refine Fine.cond ?_ ?_
    | split
    | dsimp only)

theorem fine_step (hR : ∀ c fr, Fine (R c fr)) (c : Code) (fr : Fr) : Fine (evStep P pf R c fr) := by
  unfold evStep
  repeat' (first
    | exact Fine.fail
    | exact Fine.pure _
    | exact hR _ _
    | exact fine_evOps hR _ _
    | exact fine_draw hR _
    | exact fine_rangeFunc hR _ _ _ _ _
    | refine Fine.bind ?_ (fun _ => ?_)
    | refine Fine.cond ?_ ?_
    | split
    | dsimp only)

theorem fine_code : ∀ n c fr, Fine (evCode P pf n c fr)
  | 0, _, _ => Fine.fail
  | n + 1, c, fr => fine_step (fun c fr => fine_code n c fr) c fr


end
end Go.Proofs.YtkiakphfgdkdiaaGreat
