/-
  An evaluator for closed calls, part A: a heap of named blocks, a state monad over it that keeps a record of what was touched, and what 'local' means of it.
-/
import Derived.RangeFuncLeaves
import Derived.RangeFuncCalls
import Derived.OrdersIn
import Derived.Below
import Derived.KernelRfl
namespace Go.Proofs.YtkiakphfgdkdiaaGreat
open Go
set_option linter.unusedVariables false

/-! ### A map from numbers -/
inductive Tri (α : Type) where
  | nil
  | node (l : Tri α) (v : Option α) (r : Tri α)

def Tri.get {α : Type} : Tri α → Nat → Option α
  | .nil, _ => none
  | .node l v r, n => cond (Nat.beq n 0) v (cond (Nat.beq (Nat.mod n 2) 1) (l.get (Nat.div (Nat.sub n 1) 2)) (r.get (Nat.div (Nat.sub n 1) 2)))

def Tri.setF {α : Type} (x : α) : Nat → Tri α → Nat → Tri α
  | 0, t, _ => t
  | f + 1, .nil, n => cond (Nat.beq n 0) (.node .nil (some x) .nil)
      (cond (Nat.beq (Nat.mod n 2) 1) (.node (Tri.setF x f .nil (Nat.div (Nat.sub n 1) 2)) none .nil) (.node .nil none (Tri.setF x f .nil (Nat.div (Nat.sub n 1) 2))))
  | f + 1, .node l v r, n => cond (Nat.beq n 0) (.node l (some x) r)
      (cond (Nat.beq (Nat.mod n 2) 1) (.node (Tri.setF x f l (Nat.div (Nat.sub n 1) 2)) v r) (.node l v (Tri.setF x f r (Nat.div (Nat.sub n 1) 2))))

def Tri.set {α : Type} (t : Tri α) (n : Nat) (x : α) : Tri α := Tri.setF x (n + 1) t n

theorem beq_true {a b : Nat} (h : a = b) : Nat.beq a b = true := by rw [Nat.beq_eq]; exact h
theorem beq_false {a b : Nat} (h : a ≠ b) : Nat.beq a b = false := by
  cases e : Nat.beq a b with
  | false => rfl
  | true => exact absurd (Nat.eq_of_beq_eq_true e) h

theorem Tri.get_setF {α : Type} (x : α) : ∀ (f : Nat) (t : Tri α) (n m : Nat), n < f → (Tri.setF x f t n).get m = if m = n then some x else t.get m := by
  intro f
  induction f with
  | zero => intro t n m h; omega
  | succ f ih =>
    intro t n m h
    have key : ∀ (l : Tri α) (v : Option α) (r : Tri α), (cond (Nat.beq n 0) (Tri.node l (some x) r)
        (cond (Nat.beq (Nat.mod n 2) 1) (.node (Tri.setF x f l (Nat.div (Nat.sub n 1) 2)) v r) (.node l v (Tri.setF x f r (Nat.div (Nat.sub n 1) 2))))).get m
        = if m = n then some x else (Tri.node l v r).get m := by
      intro l v r
      have hd : ∀ k, Nat.div (Nat.sub k 1) 2 = (k - 1) / 2 := fun _ => rfl
      have hm : ∀ k, Nat.mod k 2 = k % 2 := fun _ => rfl
      by_cases hn : n = 0
      · subst hn
        simp only [beq_true rfl, cond_true]
        by_cases hm0 : m = 0
        · subst hm0; simp [Tri.get, beq_true rfl]
        · simp only [Tri.get, beq_false hm0, cond_false, hm0, if_false]
      · simp only [beq_false hn, cond_false]
        by_cases hodd : n % 2 = 1
        · simp only [hm, beq_true hodd, cond_true, hd]
          by_cases hm0 : m = 0
          · subst hm0; simp only [Tri.get, beq_true rfl, cond_true]; rw [if_neg (fun e => hn e.symm)]
          · simp only [Tri.get, beq_false hm0, cond_false, hm, hd]
            by_cases hmo : m % 2 = 1
            · simp only [beq_true hmo, cond_true]
              rw [ih l _ _ (by omega)]
              by_cases hmn : m = n
              · subst hmn; simp
              · rw [if_neg hmn, if_neg (by omega)]
            · simp only [beq_false hmo, cond_false]
              rw [if_neg (by intro e; subst e; exact hmo hodd)]
        · simp only [hm, beq_false hodd, cond_false, hd]
          by_cases hm0 : m = 0
          · subst hm0; simp only [Tri.get, beq_true rfl, cond_true]; rw [if_neg (fun e => hn e.symm)]
          · simp only [Tri.get, beq_false hm0, cond_false, hm, hd]
            by_cases hmo : m % 2 = 1
            · simp only [beq_true hmo, cond_true]
              rw [if_neg (by intro e; subst e; exact hodd hmo)]
            · simp only [beq_false hmo, cond_false]
              rw [ih r _ _ (by omega)]
              by_cases hmn : m = n
              · subst hmn; simp
              · rw [if_neg hmn, if_neg (by omega)]
    cases t with
    | node l v r => exact key l v r
    | nil =>
      have k0 := key .nil none .nil
      have : (Tri.node (α := α) .nil none .nil).get m = (Tri.nil : Tri α).get m := by
        simp only [Tri.get]
        cases Nat.beq m 0 <;> cases Nat.beq (Nat.mod m 2) 1 <;> rfl
      rw [this] at k0
      exact k0

theorem Tri.get_set {α : Type} (t : Tri α) (n : Nat) (x : α) (m : Nat) : (t.set n x).get m = if m = n then some x else t.get m :=
  Tri.get_setF x (n + 1) t n m (Nat.lt_succ_self n)

/-! ### Blocks -/
/-- What a name stands for. -/
inductive AObj where
  | cells (c : List Value) (elem : TypeId)
  | map (es : List MapEntry) (clock : Nat)
  | iter (m : Option Nat) (since : Nat) (seen : List Nat) (stepped : Nat)
  | loop (state : LoopState) (pending : Option Code) (sz : Nat) (tmps : Tri Value) (params : List Tmp) (assign body : Code) (defers : Nat)
  | marks
  | dead

/-- Something that was done to the heap. -/
inductive Ac where
  | rd (n lo len : Nat)
  | rdo (n : Nat)
  | wr (n lo : Nat) (vs : List Value)
  | put (n : Nat) (o : AObj)

abbrev HF := Nat → Option AObj

/-- A list with others laid over it. -/
def over : List Value → Nat → List Value → List Value
  | c, _, [] => c
  | [], _, _ => []
  | _ :: c, 0, v :: vs => v :: over c 0 vs
  | x :: c, lo + 1, vs => x :: over c lo vs

def updO (o : Option AObj) (lo : Nat) (vs : List Value) : Option AObj :=
  match o with
  | some (.cells c e) => some (.cells (over c lo vs) e)
  | o => o

def upd (y : Ac) (f : HF) : HF := fun m =>
  match y with
  | .wr n lo vs => if m = n then updO (f m) lo vs else f m
  | .put n o => if m = n then some o else f m
  | .rd .. | .rdo _ => f m

/-- What a record (the newest first) makes of a heap. -/
def patch : List Ac → HF → HF
  | [], f => f
  | y :: l, f => upd y (patch l f)

theorem patch_append (l k : List Ac) (f : HF) : patch (l ++ k) f = patch l (patch k f) := by
  induction l with
  | nil => rfl
  | cons y l ih => show upd y (patch (l ++ k) f) = _; rw [ih]; rfl

def agreeC (a b : Option AObj) (lo len : Nat) : Prop :=
  a = b ∨ ∃ c c' e, a = some (.cells c e) ∧ b = some (.cells c' e) ∧ c.length = c'.length ∧ ∀ i, lo ≤ i → i < lo + len → c[i]? = c'[i]?

/-- Two heaps that look the same to what was done. -/
def agree (f g : HF) : Ac → Prop
  | .rd n lo len => agreeC (f n) (g n) lo len
  | .rdo n => f n = g n
  | .wr n _ _ => agreeC (f n) (g n) 0 0
  | .put _ _ => True

theorem over_length : ∀ (c : List Value) (lo : Nat) (vs : List Value), (over c lo vs).length = c.length
  | c, _, [] => by unfold over; cases c <;> rfl
  | [], _, v :: vs => rfl
  | _ :: c, 0, v :: vs => by simp [over, over_length c 0 vs]
  | x :: c, lo + 1, v :: vs => by simp [over, over_length c lo (v :: vs)]

theorem over_get : ∀ (c : List Value) (lo : Nat) (vs : List Value) (i : Nat), (over c lo vs)[i]? =
    if lo ≤ i ∧ i < lo + vs.length ∧ i < c.length then vs[i - lo]? else c[i]?
  | c, lo, [], i => by
    have : over c lo [] = c := by unfold over; cases c <;> rfl
    rw [this, if_neg (by simp only [List.length_nil]; omega)]
  | [], lo, v :: vs, i => by simp [over]
  | x :: c, 0, v :: vs, 0 => by simp [over]
  | x :: c, 0, v :: vs, i + 1 => by
    show (v :: over c 0 vs)[i + 1]? = _
    rw [List.getElem?_cons_succ, over_get c 0 vs i]
    simp only [List.length_cons, List.getElem?_cons_succ, Nat.zero_le, true_and, Nat.sub_zero, Nat.zero_add]
    by_cases h : i < vs.length ∧ i < c.length
    · rw [if_pos h, if_pos (by omega)]
    · rw [if_neg h, if_neg (by omega)]
  | x :: c, lo + 1, v :: vs, 0 => by simp [over]
  | x :: c, lo + 1, v :: vs, i + 1 => by
    show (x :: over c lo (v :: vs))[i + 1]? = _
    rw [List.getElem?_cons_succ, over_get c lo (v :: vs) i]
    simp only [List.length_cons, List.getElem?_cons_succ]
    by_cases h : lo ≤ i ∧ i < lo + (vs.length + 1) ∧ i < c.length
    · rw [if_pos h, if_pos (by omega), Nat.add_sub_add_right]
    · rw [if_neg h, if_neg (by omega)]

theorem agreeC_updO {a b : Option AObj} {lo len : Nat} (h : agreeC a b lo len) (lo' : Nat) (vs : List Value) : agreeC (updO a lo' vs) (updO b lo' vs) lo len := by
  rcases h with h | ⟨c, c', e, rfl, rfl, hl, h⟩
  · exact .inl (by rw [h])
  · refine .inr ⟨_, _, e, rfl, rfl, by rw [over_length, over_length, hl], fun i h1 h2 => ?_⟩
    rw [over_get, over_get, hl, h i h1 h2]

theorem agree_upd {f g : HF} {x : Ac} (h : agree f g x) (y : Ac) : agree (upd y f) (upd y g) x := by
  have hC : ∀ n lo len, agreeC (f n) (g n) lo len → agreeC (upd y f n) (upd y g n) lo len := by
    intro n lo len h
    cases y with
    | rd _ _ _ => exact h
    | rdo _ => exact h
    | wr m lo' vs => simp only [upd]; split
                     · exact agreeC_updO h lo' vs
                     · exact h
    | put m o => simp only [upd]; split
                 · exact .inl rfl
                 · exact h
  cases x with
  | rd n lo len => exact hC n lo len h
  | rdo n =>
    show upd y f n = upd y g n
    have h : f n = g n := h
    cases y <;> simp only [upd, h]
  | wr n lo vs => exact hC n 0 0 h
  | put n o => trivial

theorem agree_patch {f g : HF} {x : Ac} (h : agree f g x) : ∀ l, agree (patch l f) (patch l g) x
  | [] => h
  | y :: l => agree_upd (agree_patch h l) y

/-! ### The monad -/
structure HS where
  h : Tri AObj
  next : Nat
  log : List Ac

def M (α : Type) : Type := HS → Option (α × HS)

namespace M
variable {α β : Type}
def pure (a : α) : M α := fun s => some (a, s)
def fail : M α := fun _ => none
def bind (m : M α) (f : α → M β) : M β := fun s =>
  match m s with
  | none => none
  | some (a, s') => f a s'
end M

/-- What a run has done: it depends on what it has touched alone. -/
def Local {α : Type} (m : M α) : Prop := ∀ s a s', m s = some (a, s') → ∃ ext, s'.log = ext ++ s.log ∧ (∀ n, s'.h.get n = patch ext s.h.get n) ∧
  ∀ t : HS, t.next = s.next → (∀ x ∈ ext, agree s.h.get t.h.get x) →
    ∃ t', m t = some (a, t') ∧ t'.next = s'.next ∧ t'.log = ext ++ t.log ∧ (∀ n, t'.h.get n = patch ext t.h.get n)

theorem Local.pure {α : Type} (a : α) : Local (M.pure a) := by
  intro s b s' h
  cases h
  exact ⟨[], rfl, fun _ => rfl, fun t ht _ => ⟨t, rfl, ht, rfl, fun _ => rfl⟩⟩
theorem Local.fail {α : Type} : Local (M.fail (α := α)) := by
  intro s b s' h; cases h

theorem Local.bind {α β : Type} {m : M α} {f : α → M β} (hm : Local m) (hf : ∀ a, Local (f a)) : Local (m.bind f) := by
  intro s b s2 h
  unfold M.bind at h
  cases hs : m s with
  | none => rw [hs] at h; cases h
  | some p =>
    obtain ⟨a, s1⟩ := p
    rw [hs] at h
    simp only at h
    obtain ⟨e1, l1, p1, k1⟩ := hm s a s1 hs
    obtain ⟨e2, l2, p2, k2⟩ := hf a s1 b s2 h
    have q1 : s1.h.get = patch e1 s.h.get := funext p1
    refine ⟨e2 ++ e1, by rw [l2, l1, List.append_assoc], fun n => by rw [p2 n, q1, patch_append], fun t ht hag => ?_⟩
    obtain ⟨t1, r1, n1, g1, w1⟩ := k1 t ht (fun x hx => hag x (List.mem_append_right _ hx))
    have q1' : t1.h.get = patch e1 t.h.get := funext w1
    obtain ⟨t2, r2, n2, g2, w2⟩ := k2 t1 n1 (fun x hx => by
      rw [q1, q1']
      exact agree_patch (hag x (List.mem_append_left _ hx)) e1)
    refine ⟨t2, ?_, n2, by rw [g2, g1, List.append_assoc], fun n => by rw [w2 n, q1', patch_append]⟩
    unfold M.bind
    rw [r1]
    exact r2

theorem Local.bind' {α β : Type} {m : M α} {f : α → M β} (hm : Local m) (hf : ∀ a s s', m s = some (a, s') → Local (f a)) : Local (m.bind f) := by
  intro s b s2 h
  unfold M.bind at h
  cases hs : m s with
  | none => rw [hs] at h; cases h
  | some p =>
    obtain ⟨a, s1⟩ := p
    have hf' : Local ((M.bind m fun _ => f a)) := Local.bind hm (fun _ => hf a s s1 hs)
    have h2 : (M.bind m fun _ => f a) s = some (b, s2) := by
      unfold M.bind; rw [hs]; rw [hs] at h; exact h
    obtain ⟨ext, l, p, k⟩ := hf' s b s2 h2
    refine ⟨ext, l, p, fun t ht hag => ?_⟩
    obtain ⟨t', r, x1, x2, x3⟩ := k t ht hag
    obtain ⟨e1, l1, p1, k1⟩ := hm s a s1 hs
    refine ⟨t', ?_, x1, x2, x3⟩
    -- m t gives a as well
    have : ∃ t1, m t = some (a, t1) := by
      obtain ⟨e2, l2, p2, k2⟩ := hf a s s1 hs s1 b s2 (by unfold M.bind at h2; rw [hs] at h2; exact h2)
      have q1 : s1.h.get = patch e1 s.h.get := funext p1
      have : ext = e2 ++ e1 := by
        have hl : ext ++ s.log = (e2 ++ e1) ++ s.log := by rw [← l, l2, l1, List.append_assoc]
        exact List.append_cancel_right hl
      subst this
      obtain ⟨t1, r1, _⟩ := k1 t ht (fun x hx => hag x (List.mem_append_right _ hx))
      exact ⟨t1, r1⟩
    obtain ⟨t1, r1⟩ := this
    unfold M.bind at r ⊢
    rw [r1] at r ⊢
    exact r

/-! ### The primitives -/
/-- n names. -/
def slots : List Value → Nat → Nat → Option (List Value)
  | _, 0, 0 => some []
  | [], _, _ => none
  | x :: c, 0, n + 1 => match slots c 0 n with
    | some l => some (x :: l)
    | none => none
  | _ :: c, lo + 1, n => slots c lo n

theorem slots_spec : ∀ (c : List Value) (lo n : Nat) (l : List Value), slots c lo n = some l → l.length = n ∧ lo + n ≤ c.length ∧ ∀ i, i < n → l[i]? = c[lo + i]?
  | c, 0, 0, l, h => by
    unfold slots at h
    cases c <;> (cases h; exact ⟨rfl, by simp, fun i hi => by omega⟩)
  | [], 0, n + 1, l, h => by cases h
  | [], lo + 1, n, l, h => by unfold slots at h; cases h
  | x :: c, 0, n + 1, l, h => by
    unfold slots at h
    cases hs : slots c 0 n with
    | none => rw [hs] at h; cases h
    | some k =>
      rw [hs] at h
      cases h
      obtain ⟨h1, h2, h3⟩ := slots_spec c 0 n k hs
      refine ⟨by simp [h1], by simp; omega, fun i hi => ?_⟩
      cases i with
      | zero => rfl
      | succ i =>
        have h4 := h3 i (by omega)
        simp only [Nat.zero_add] at h4 ⊢
        rw [List.getElem?_cons_succ, List.getElem?_cons_succ]
        exact h4
  | x :: c, lo + 1, n, l, h => by
    unfold slots at h
    obtain ⟨h1, h2, h3⟩ := slots_spec c lo n l h
    refine ⟨h1, by simp only [List.length_cons]; omega, fun i hi => ?_⟩
    rw [h3 i hi, show lo + 1 + i = (lo + i) + 1 by omega, List.getElem?_cons_succ]

theorem slots_some : ∀ (c : List Value) (lo n : Nat), lo + n ≤ c.length → ∃ l, slots c lo n = some l
  | c, 0, 0, _ => ⟨[], by unfold slots; cases c <;> rfl⟩
  | [], 0, n + 1, h => by simp at h
  | [], lo + 1, n, h => by simp at h
  | x :: c, 0, n + 1, h => by
    obtain ⟨l, hl⟩ := slots_some c 0 n (by simp at h; omega)
    exact ⟨x :: l, by unfold slots; rw [hl]⟩
  | x :: c, lo + 1, n, h => by
    obtain ⟨l, hl⟩ := slots_some c lo n (by simp at h; omega)
    exact ⟨l, by unfold slots; exact hl⟩

theorem slots_agree {c c' : List Value} {lo n : Nat} {l : List Value} (hl : c.length = c'.length) (h : ∀ i, lo ≤ i → i < lo + n → c[i]? = c'[i]?) (hs : slots c lo n = some l) :
    slots c' lo n = some l := by
  obtain ⟨h1, h2, h3⟩ := slots_spec c lo n l hs
  obtain ⟨l', hl'⟩ := slots_some c' lo n (by omega)
  obtain ⟨k1, k2, k3⟩ := slots_spec c' lo n l' hl'
  have : l = l' := by
    apply List.ext_getElem?
    intro i
    by_cases hi : i < n
    · rw [h3 i hi, k3 i hi]; exact h _ (by omega) (by omega)
    · rw [List.getElem?_eq_none (by omega), List.getElem?_eq_none (by omega)]
  rw [hl', this]

/-- The cells of a block from lo on. -/
def mRead (n lo len : Nat) : M (List Value) := fun
  | ⟨h, next, log⟩ => match h.get n with
    | some (.cells c _) =>
      match slots c lo len with
      | some l => some (l, ⟨h, next, .rd n lo len :: log⟩)
      | none => none
    | _ => none

/-- A block's cells from lo on become others. -/
def mWrite (n lo : Nat) (vs : List Value) : M Unit := fun
  | ⟨h, next, log⟩ => match h.get n with
    | some (.cells c e) =>
      cond (Nat.ble (Nat.add lo vs.length) c.length) (some ((), ⟨h.set n (.cells (over c lo vs) e), next, .wr n lo vs :: log⟩)) none
    | _ => none

/-- A new name. -/
def mNew (o : AObj) : M Nat := fun
  | ⟨h, next, log⟩ => match h.get next with
    | none => some (next, ⟨h.set next o, Nat.succ next, .put next o :: .rdo next :: log⟩)
    | some _ => none

/-- What a name stands for, whole. -/
def mObj (n : Nat) : M AObj := fun
  | ⟨h, next, log⟩ => match h.get n with
    | some o => some (o, ⟨h, next, .rdo n :: log⟩)
    | none => none

/-- A name that is there stands for something else. -/
def mPut (n : Nat) (o : AObj) : M Unit := fun
  | ⟨h, next, log⟩ => match h.get n with
    | some _ => some ((), ⟨h.set n o, next, .put n o :: .rdo n :: log⟩)
    | none => none

theorem mRead_eq (n lo len : Nat) (s : HS) : mRead n lo len s =
    match s.h.get n with
    | some (.cells c _) =>
      match slots c lo len with
      | some l => some (l, { s with log := .rd n lo len :: s.log })
      | none => none
    | _ => none := by cases s; rfl
theorem mWrite_eq (n lo : Nat) (vs : List Value) (s : HS) : mWrite n lo vs s =
    match s.h.get n with
    | some (.cells c e) =>
      cond (Nat.ble (lo + vs.length) c.length) (some ((), { s with h := s.h.set n (.cells (over c lo vs) e), log := .wr n lo vs :: s.log })) none
    | _ => none := by cases s; rfl
theorem mNew_eq (o : AObj) (s : HS) : mNew o s =
    match s.h.get s.next with
    | none => some (s.next, { h := s.h.set s.next o, next := Nat.succ s.next, log := .put s.next o :: .rdo s.next :: s.log })
    | some _ => none := by cases s; rfl
theorem mObj_eq (n : Nat) (s : HS) : mObj n s =
    match s.h.get n with
    | some o => some (o, { s with log := .rdo n :: s.log })
    | none => none := by cases s; rfl
theorem mPut_eq (n : Nat) (o : AObj) (s : HS) : mPut n o s =
    match s.h.get n with
    | some _ => some ((), { s with h := s.h.set n o, log := .put n o :: .rdo n :: s.log })
    | none => none := by cases s; rfl

theorem Local.read (n lo len : Nat) : Local (mRead n lo len) := by
  intro s a s' h
  rw [mRead_eq] at h
  split at h
  · rename_i c e hg
    split at h
    · rename_i l hl
      cases h
      refine ⟨[.rd n lo len], rfl, fun _ => rfl, fun t ht hag => ?_⟩
      have ha : agreeC (s.h.get n) (t.h.get n) lo len := hag (.rd n lo len) (by simp)
      rw [hg] at ha
      rcases ha with ha | ⟨c1, c2, e2, h1, h2, h3, h4⟩
      · refine ⟨{ t with log := .rd n lo len :: t.log }, ?_, ht, rfl, fun _ => rfl⟩
        rw [mRead_eq]; rw [← ha]; simp only [hl]
      · cases h1
        refine ⟨{ t with log := .rd n lo len :: t.log }, ?_, ht, rfl, fun _ => rfl⟩
        rw [mRead_eq]; rw [h2]; simp only [slots_agree h3 h4 hl]
    · cases h
  · cases h

theorem Local.write (n lo : Nat) (vs : List Value) : Local (mWrite n lo vs) := by
  intro s a s' h
  rw [mWrite_eq] at h
  split at h
  · rename_i c e hg
    cases hb : Nat.ble (lo + vs.length) c.length with
    | false => rw [hb] at h; cases h
    | true =>
      rw [hb] at h
      cases h
      refine ⟨[.wr n lo vs], rfl, fun m => ?_, fun t ht hag => ?_⟩
      · simp only [patch, upd, Tri.get_set]
        split
        · rename_i hm; subst hm; rw [hg]; rfl
        · rfl
      · have ha : agreeC (s.h.get n) (t.h.get n) 0 0 := hag (.wr n lo vs) (by simp)
        rw [hg] at ha
        have : ∃ c', t.h.get n = some (.cells c' e) ∧ c.length = c'.length := by
          rcases ha with ha | ⟨c1, c2, e2, h1, h2, h3, h4⟩
          · exact ⟨c, ha.symm, rfl⟩
          · cases h1; exact ⟨c2, h2, h3⟩
        obtain ⟨c', hc', hlen⟩ := this
        refine ⟨{ t with h := t.h.set n (.cells (over c' lo vs) e), log := .wr n lo vs :: t.log }, ?_, ht, rfl, fun m => ?_⟩
        · rw [mWrite_eq]; rw [hc']; simp only [← hlen, hb, cond_true]
        · simp only [patch, upd, Tri.get_set]
          split
          · rename_i hm; subst hm; rw [hc']; rfl
          · rfl
  · cases h

theorem Local.new (o : AObj) : Local (mNew o) := by
  intro s a s' h
  rw [mNew_eq] at h
  split at h
  · rename_i hg
    cases h
    refine ⟨[.put s.next o, .rdo s.next], rfl, fun m => ?_, fun t ht hag => ?_⟩
    · simp only [patch, upd, Tri.get_set]
    · have ha : s.h.get s.next = t.h.get s.next := hag (.rdo s.next) (by simp)
      rw [hg] at ha
      refine ⟨{ h := t.h.set t.next o, next := Nat.succ t.next, log := .put t.next o :: .rdo t.next :: t.log }, ?_, by simp [ht], by simp [ht], fun m => ?_⟩
      · rw [mNew_eq]; rw [ht, ← ha]
      · simp only [patch, upd, Tri.get_set, ht]
  · cases h

theorem Local.obj (n : Nat) : Local (mObj n) := by
  intro s a s' h
  rw [mObj_eq] at h
  split at h
  · rename_i o hg
    cases h
    refine ⟨[.rdo n], rfl, fun _ => rfl, fun t ht hag => ?_⟩
    have ha : s.h.get n = t.h.get n := hag (.rdo n) (by simp)
    refine ⟨{ t with log := .rdo n :: t.log }, ?_, ht, rfl, fun _ => rfl⟩
    rw [mObj_eq]; rw [← ha, hg]
  · cases h

theorem Local.put (n : Nat) (o : AObj) : Local (mPut n o) := by
  intro s a s' h
  rw [mPut_eq] at h
  split at h
  · rename_i o' hg
    cases h
    refine ⟨[.put n o, .rdo n], rfl, fun m => ?_, fun t ht hag => ?_⟩
    · simp only [patch, upd, Tri.get_set]
    · have ha : s.h.get n = t.h.get n := hag (.rdo n) (by simp)
      refine ⟨{ t with h := t.h.set n o, log := .put n o :: .rdo n :: t.log }, ?_, ht, rfl, fun m => ?_⟩
      · rw [mPut_eq]; rw [← ha, hg]
      · simp only [patch, upd, Tri.get_set]
  · cases h

end Go.Proofs.YtkiakphfgdkdiaaGreat
