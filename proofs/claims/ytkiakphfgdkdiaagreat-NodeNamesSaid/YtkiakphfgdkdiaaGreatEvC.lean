/-
  An evaluator for closed calls, part C: what the evaluator's values and heap say of a world.
-/
import Derived.Test.YtkiakphfgdkdiaaGreatEvB
namespace Go.Proofs.YtkiakphfgdkdiaaGreat
open Go Go.RowKit
set_option linter.unusedVariables false

theorem pureRun_run {α : Type} {P : Program} : ∀ (s : Sem α) (a : α), pureRun P s = some a → ∀ w, s.run P w = .ok a w := by
  intro s
  induction s with
  | pure b => intro a h w; cases h; rfl
  | program k ih => intro a h w; exact ih P a h w
  | _ => intro a h; cases h

/-- Where a name's block lies: its number, the first cell, how many cells it has, how many of them a slice's capacity counts as one. -/
structure Loc where
  b : Nat
  s : Nat
  z : Nat
  u : Nat
abbrev Ren := Nat → Option Loc
def Ren.le (σ τ : Ren) : Prop := ∀ n l, σ n = some l → τ n = some l
theorem Ren.le_refl (σ : Ren) : σ.le σ := fun _ _ h => h
theorem Ren.le_trans {σ τ υ : Ren} (h : σ.le τ) (k : τ.le υ) : σ.le υ := fun _ _ e => k _ _ (h _ _ e)

/-- A value of the evaluator's, and the value that it stands for. -/
inductive VR (σ : Ren) : Value → Value → Prop
  | bool (b : Bool) : VR σ (.bool b) (.bool b)
  | int (k : IntKind) (n : Int) : VR σ (.int k n) (.int k n)
  | str (s : ByteArray) : VR σ (.string s) (.string s)
  | nilp : VR σ (.pointer none) (.pointer none)
  | ptr (n off : Nat) (l : Loc) (h : σ n = some l) : VR σ (.pointer (some ⟨n, off, none⟩)) (.pointer (some ⟨l.b, l.s + off, none⟩))
  | nils (len cap : Nat) : VR σ (.slice none len cap) (.slice none len cap)
  | sl (n off len cap : Nat) (l : Loc) (h : σ n = some l) (hc : cap ≠ SENT) : VR σ (.slice (some ⟨n, off, none⟩) len cap) (.slice (some ⟨l.b, l.s + off, none⟩) len cap)
  | opn (n off len cap : Nat) (l : Loc) (h : σ n = some l) (hl : len ≤ cap) (hz : l.s + off + cap * l.u = l.z) : VR σ (.slice (some ⟨n, off, none⟩) len SENT) (.slice (some ⟨l.b, l.s + off, none⟩) len cap)
  | emp (a : Addr) (cap : Nat) : VR σ (.slice (some ⟨0, 0, some 0⟩) 0 SENT) (.slice (some a) 0 cap)
  | nilm : VR σ (.map none) (.map none)
  | mp (r : Nat) (l : Loc) (h : σ r = some l) : VR σ (.map (some r)) (.map (some l.b))
  | nilf : VR σ .nilFunc .nilFunc
  | nili : VR σ .nilIface .nilIface
  | fn (f : FuncId) (xs ys xs' ys' : Array Value) (h1 : xs.toList.length = xs'.toList.length) (h2 : ∀ (i : Nat) (x y : Value), xs.toList[i]? = some x → xs'.toList[i]? = some y → VR σ x y)
      (h3 : ys.toList.length = ys'.toList.length) (h4 : ∀ (i : Nat) (x y : Value), ys.toList[i]? = some x → ys'.toList[i]? = some y → VR σ x y) : VR σ (.func (.func f) xs ys) (.func (.func f) xs' ys')
  | yl (n : Nat) (l : Loc) (h : σ n = some l) : VR σ (.func (.yield n) #[] #[]) (.func (.yield l.b) #[] #[])
  | agg (xs ys : Array Value) (h1 : xs.toList.length = ys.toList.length) (h2 : ∀ (i : Nat) (x y : Value), xs.toList[i]? = some x → ys.toList[i]? = some y → VR σ x y) : VR σ (.agg xs) (.agg ys)
  | tup (xs ys : Array Value) (h1 : xs.toList.length = ys.toList.length) (h2 : ∀ (i : Nat) (x y : Value), xs.toList[i]? = some x → ys.toList[i]? = some y → VR σ x y) : VR σ (.tuple xs) (.tuple ys)

theorem VR.mono {σ τ : Ren} (h : σ.le τ) {a b : Value} (r : VR σ a b) : VR τ a b := by
  induction r with
  | bool b => exact .bool b
  | int k n => exact .int k n
  | str s => exact .str s
  | nilp => exact .nilp
  | ptr n off l e => exact .ptr n off l (h _ _ e)
  | nils len cap => exact .nils len cap
  | sl n off len cap l e hc => exact .sl n off len cap l (h _ _ e) hc
  | opn n off len cap l e hl hz => exact .opn n off len cap l (h _ _ e) hl hz
  | emp a cap => exact .emp a cap
  | nilm => exact .nilm
  | mp r l e => exact .mp r l (h _ _ e)
  | nilf => exact .nilf
  | nili => exact .nili
  | fn f xs ys xs' ys' h1 _ h3 _ i2 i4 => exact .fn f xs ys xs' ys' h1 i2 h3 i4
  | yl n l e => exact .yl n l (h _ _ e)
  | agg xs ys h1 _ i2 => exact .agg xs ys h1 i2
  | tup xs ys h1 _ i2 => exact .tup xs ys h1 i2

/-- Lists of values. -/
def LR (σ : Ren) (xs ys : List Value) : Prop := xs.length = ys.length ∧ ∀ (i : Nat) (x y : Value), xs[i]? = some x → ys[i]? = some y → VR σ x y
theorem LR.mono {σ τ : Ren} (h : σ.le τ) {xs ys : List Value} (r : LR σ xs ys) : LR τ xs ys := ⟨r.1, fun i x y hx hy => (r.2 i x y hx hy).mono h⟩
theorem LR.nil (σ : Ren) : LR σ [] [] := ⟨rfl, fun i x y h => by simp at h⟩
theorem LR.cons {σ : Ren} {x y : Value} {xs ys : List Value} (h : VR σ x y) (r : LR σ xs ys) : LR σ (x :: xs) (y :: ys) :=
  ⟨by simp [r.1], fun i a b ha hb => by
    cases i with
    | zero => simp at ha hb; subst ha; subst hb; exact h
    | succ i => simp at ha hb; exact r.2 i a b ha hb⟩
theorem LR.head {σ : Ren} {x y : Value} {xs ys : List Value} (r : LR σ (x :: xs) (y :: ys)) : VR σ x y := r.2 0 x y rfl rfl
theorem LR.tail {σ : Ren} {x y : Value} {xs ys : List Value} (r : LR σ (x :: xs) (y :: ys)) : LR σ xs ys :=
  ⟨by have := r.1; simpa using this, fun i a b ha hb => r.2 (i + 1) a b (by simpa using ha) (by simpa using hb)⟩
theorem LR.cons_inv {σ : Ren} {x : Value} {xs zs : List Value} (r : LR σ (x :: xs) zs) : ∃ y ys, zs = y :: ys ∧ VR σ x y ∧ LR σ xs ys := by
  cases zs with
  | nil => have := r.1; simp at this
  | cons y ys => exact ⟨y, ys, rfl, r.head, r.tail⟩
theorem LR.nil_inv {σ : Ren} {zs : List Value} (r : LR σ [] zs) : zs = [] := by
  cases zs with
  | nil => rfl
  | cons y ys => have := r.1; simp at this
theorem LR.append {σ : Ren} {xs ys xs' ys' : List Value} (h : LR σ xs xs') (k : LR σ ys ys') : LR σ (xs ++ ys) (xs' ++ ys') := by
  induction xs generalizing xs' with
  | nil => rw [h.nil_inv]; exact k
  | cons x xs ih =>
    obtain ⟨y, zs, rfl, h1, h2⟩ := h.cons_inv
    exact .cons h1 (ih h2)
theorem LR.get {σ : Ren} {xs ys : List Value} (h : LR σ xs ys) {i : Nat} {x : Value} (hx : xs[i]? = some x) : ∃ y, ys[i]? = some y ∧ VR σ x y := by
  have hi : i < ys.length := by
    rw [← h.1]
    exact (List.getElem?_eq_some_iff.1 hx).1
  exact ⟨ys[i], List.getElem?_eq_getElem hi, h.2 i x _ hx (List.getElem?_eq_getElem hi)⟩

theorem plain_both (σ : Ren) : ∀ d, (∀ v, plainD d v = true → VR σ v v ∧ ∀ v', VR σ v v' → v' = v) ∧
    (∀ l, plainL d l = true → ∀ x ∈ l, plainD d x = true) := by
  have lists : ∀ d l, plainL d l = true → ∀ x ∈ l, plainD d x = true := by
    intro d l
    induction l with
    | nil => intro _ x hx; cases hx
    | cons v l ih =>
      intro h x hx
      unfold plainL plainF at h
      cases hv : plainD d v with
      | false => rw [hv] at h; cases h
      | true =>
        rw [hv] at h
        rcases List.mem_cons.1 hx with rfl | hx
        · exact hv
        · exact ih h x hx
  intro d
  refine ⟨?_, lists d⟩
  induction d with
  | zero => intro v h; unfold plainD at h; cases h
  | succ d ih =>
    have many : ∀ cs : Array Value, plainL d cs.toList = true → (∀ (i : Nat) (x y : Value), cs.toList[i]? = some x → cs.toList[i]? = some y → VR σ x y) ∧
        ∀ ds : Array Value, cs.toList.length = ds.toList.length → (∀ (i : Nat) (x y : Value), cs.toList[i]? = some x → ds.toList[i]? = some y → VR σ x y) → ds = cs := by
      intro cs h
      have hm := lists d cs.toList h
      refine ⟨fun i x y hx hy => ?_, fun ds hl hr => ?_⟩
      · rw [hx] at hy; cases hy
        exact (ih x (hm x (List.mem_of_getElem? hx))).1
      · apply Array.ext'
        apply List.ext_getElem?
        intro i
        by_cases hi : i < cs.toList.length
        · have hx := List.getElem?_eq_getElem hi
          have hy := List.getElem?_eq_getElem (l := ds.toList) (i := i) (by omega)
          have := (ih _ (hm _ (List.mem_of_getElem? hx))).2 _ (hr i _ _ hx hy)
          rw [hx, hy, this]
        · rw [List.getElem?_eq_none (by omega), List.getElem?_eq_none (by omega)]
    intro v h
    unfold plainD at h
    split at h
    case h_1 => exact ⟨.bool _, fun v' r => by cases r; rfl⟩
    case h_2 => exact ⟨.int _ _, fun v' r => by cases r; rfl⟩
    case h_3 => exact ⟨.str _, fun v' r => by cases r; rfl⟩
    case h_4 => exact ⟨.nilp, fun v' r => by cases r; rfl⟩
    case h_5 => exact ⟨.nilf, fun v' r => by cases r; rfl⟩
    case h_6 => exact ⟨.nilm, fun v' r => by cases r; rfl⟩
    case h_7 => exact ⟨.nils _ _, fun v' r => by cases r; rfl⟩
    case h_8 => exact ⟨.nili, fun v' r => by cases r; rfl⟩
    case h_9 cs =>
      obtain ⟨h1, h2⟩ := many ⟨cs⟩ h
      exact ⟨.agg _ _ rfl h1, fun v' r => by cases r with | agg _ ys hl hr => rw [h2 ys hl hr]⟩
    case h_10 cs =>
      obtain ⟨h1, h2⟩ := many ⟨cs⟩ h
      exact ⟨.tup _ _ rfl h1, fun v' r => by cases r with | tup _ ys hl hr => rw [h2 ys hl hr]⟩
    case h_11 f =>
      refine ⟨.fn f _ _ _ _ rfl (fun i x y hx => by simp at hx) rfl (fun i x y hx => by simp at hx), fun v' r => ?_⟩
      cases r with
      | fn _ _ _ xs' ys' h1 _ h3 _ =>
        have e1 : xs' = #[] := by apply Array.ext'; exact List.length_eq_zero_iff.1 (by simpa using h1.symm)
        have e2 : ys' = #[] := by apply Array.ext'; exact List.length_eq_zero_iff.1 (by simpa using h3.symm)
        rw [e1, e2]
    case h_12 => cases h

theorem plain_self (σ : Ren) {d : Nat} {v : Value} (h : plainD d v = true) : VR σ v v := ((plain_both σ d).1 v h).1
theorem plain_eq {σ : Ren} {d : Nat} {v v' : Value} (h : plainD d v = true) (r : VR σ v v') : v' = v := ((plain_both σ d).1 v h).2 v' r
theorem undef_self (σ : Ren) : VR σ undef undef := .tup _ _ rfl (fun i x y hx => by simp at hx)

/-! ### Frames -/
def tmpOf (T : Tri Value) (t : Nat) : Value := match T.get t with
  | some v => v
  | none => undef
def TR (σ : Ren) (sz : Nat) (T : Tri Value) (tmps : Array Value) : Prop := tmps.size = sz ∧ ∀ i, VR σ (tmpOf T i) (tmps.getD i undef)
theorem TR.mono {σ τ : Ren} (h : σ.le τ) {sz : Nat} {T : Tri Value} {tmps : Array Value} (r : TR σ sz T tmps) : TR τ sz T tmps := ⟨r.1, fun i => (r.2 i).mono h⟩
theorem TR.set {σ : Ren} {sz : Nat} {T : Tri Value} {tmps : Array Value} (r : TR σ sz T tmps) {d : Nat} (hd : d < sz) {v v' : Value} (hv : VR σ v v') : TR σ sz (T.set d v) (tmps.setIfInBounds d v') := by
  refine ⟨by simp [r.1], fun i => ?_⟩
  have h0 := r.2 i
  unfold tmpOf at *
  rw [Tri.get_set]
  by_cases hi : i = d
  · subst hi
    have : (tmps.setIfInBounds i v').getD i undef = v' := by
      have h1 : i < tmps.size := by rw [r.1]; exact hd
      simp [Array.getD, h1]
    rw [this]; simp only [if_true]; exact hv
  · have : (tmps.setIfInBounds d v').getD i undef = tmps.getD i undef := by
      simp only [Array.getD_eq_getD_getElem?, Array.getElem?_setIfInBounds_ne (Ne.symm hi)]
    rw [this]; simp only [if_neg hi]; exact h0

/-- The marks among the deferred calls. -/
def DR (σ : Ren) : List Nat → List Deferred → Prop
  | [], [] => True
  | d :: ds, x :: xs => (∃ l, σ d = some l ∧ x = { target := .collected l.b, args := #[] }) ∧ DR σ ds xs
  | _, _ => False
theorem DR.mono {σ τ : Ren} (h : σ.le τ) : ∀ {ds : List Nat} {xs : List Deferred}, DR σ ds xs → DR τ ds xs
  | [], [], _ => trivial
  | _ :: _, _ :: _, ⟨⟨l, e, hx⟩, r⟩ => ⟨⟨l, h _ _ e, hx⟩, DR.mono h r⟩
  | [], _ :: _, r => r.elim
  | _ :: _, [], r => r.elim

/-- A frame's. -/
structure FrR (σ : Ren) (fr : Fr) (a : Act) : Prop where
  tmps : TR σ fr.sz fr.T a.tmps
  defers : DR σ fr.marks a.defers
theorem FrR.mono {σ τ : Ren} (h : σ.le τ) {fr : Fr} {a : Act} (r : FrR σ fr a) : FrR τ fr a := ⟨r.tmps.mono h, r.defers.mono h⟩

theorem FrR.put {σ : Ren} {fr : Fr} {a : Act} (r : FrR σ fr a) (d : Option Tmp) {v v' : Value} (hv : VR σ v v') : FrR σ (fr.put d v) (a.put d v') := by
  cases d with
  | none => exact r
  | some d =>
    obtain ⟨sz, T, marks, round⟩ := fr
    show FrR σ (cond (Nat.blt d sz) _ _) { a with tmps := a.tmps.setIfInBounds d v' }
    cases hb : Nat.blt d sz with
    | true => exact ⟨r.tmps.set (Nat.le_of_ble_eq_true hb) hv, r.defers⟩
    | false =>
      have h1 : ¬ d < sz := fun h => by
        have : Nat.blt d sz = true := Nat.ble_eq ▸ h
        rw [hb] at this; cases this
      have h2 : a.tmps.size = sz := r.tmps.1
      have h3 : a.tmps.size ≤ d := h2.symm ▸ Nat.not_lt.1 h1
      rw [show a.tmps.setIfInBounds d v' = a.tmps from Array.setIfInBounds_eq_of_size_le h3]
      exact r
theorem Fr.put_round (fr : Fr) (d : Option Tmp) (v : Value) : (fr.put d v).round = fr.round := by
  cases d with
  | none => rfl
  | some d => obtain ⟨sz, T, marks, round⟩ := fr; show (cond (Nat.blt d sz) _ _ : Fr).round = _; cases Nat.blt d sz <;> rfl

theorem FrR.tmp {σ : Ren} {fr : Fr} {a : Act} (r : FrR σ fr a) (t : Nat) : VR σ (fr.tmp t) (a.tmps.getD t undef) := r.tmps.2 t
theorem FrR.raw {σ : Ren} {fr : Fr} {a : Act} (r : FrR σ fr a) {x : Operand} (h : ∀ g, x ≠ .global g) (hc : ∀ v, x = .const v → plainD 8 v = true) : VR σ (fr.raw x) (a.eval x) := by
  cases x with
  | tmp t => exact r.tmp t
  | const v => exact plain_self σ (hc v rfl)
  | global g => exact absurd rfl (h g)
  | func f => exact .fn f _ _ _ _ rfl (fun i x y hx => by simp at hx) rfl (fun i x y hx => by simp at hx)
theorem FrR.val {σ : Ren} {fr : Fr} {a : Act} (r : FrR σ fr a) {x : Operand} {v : Value} (h : fr.val x = some v) : VR σ v (a.eval x) := by
  cases x with
  | tmp t => cases h; exact r.tmp t
  | const u =>
    have h : cond (plainD 8 u) (some u) none = some v := h
    cases hp : plainD 8 u with
    | true => rw [hp] at h; cases h; exact plain_self σ hp
    | false => rw [hp] at h; cases h
  | global g => cases h
  | func f => cases h; exact .fn f _ _ _ _ rfl (fun i x y hx => by simp at hx) rfl (fun i x y hx => by simp at hx)
theorem FrR.vals {σ : Ren} {fr : Fr} {a : Act} (r : FrR σ fr a) : ∀ {xs : List Operand} {vs : List Value}, fr.vals xs = some vs → LR σ vs (xs.map a.eval)
  | [], vs, h => by cases h; exact .nil σ
  | x :: xs, vs, h => by
    unfold Fr.vals at h
    cases hv : fr.val x with
    | none => rw [hv] at h; cases h
    | some v =>
      rw [hv] at h
      cases hs : fr.vals xs with
      | none => rw [hs] at h; cases h
      | some us => rw [hs] at h; cases h; exact .cons (r.val hv) (r.vals hs)
theorem FrR.plain_eval {σ : Ren} {fr : Fr} {a : Act} (r : FrR σ fr a) {x : Operand} (h : plainD 8 (fr.raw x) = true) : a.eval x = fr.raw x := by
  cases x with
  | tmp t => exact plain_eq h (r.tmp t)
  | const v => rfl
  | global g => unfold Fr.raw plainD at h; cases h
  | func f => rfl

/-! ### Blocks and worlds -/
def unitOf (P : Program) (e : TypeId) : Option Nat := (P.info? e).map (·.size)

/-- What a name stands for, and the block that is it. -/
def OR (P : Program) (σ : Ren) (l : Loc) : AObj → Obj → Prop
  | .cells c e, .cells c' _ fz => c'.size = l.z ∧ l.s + c.length ≤ l.z ∧ (∀ (i : Nat) (v : Value), c[i]? = some v → ∃ v', c'[l.s + i]? = some v' ∧ VR σ v v') ∧ (∀ i, i < c'.size → ¬ (fz.1 ≤ i ∧ i < fz.2)) ∧ (∀ k, unitOf P e = some k → l.u = k)
  | .map es clock, .map es' clock' => clock = clock' ∧ es.length = es'.size ∧ ∀ (i : Nat) (a b : MapEntry), es[i]? = some a → es'.toList[i]? = some b → VR σ a.key b.key ∧ VR σ a.val b.val ∧ a.born = b.born
  | .iter m since seen stepped, .mapIter m' since' seen' stepped' => l.s = 0 ∧ since = since' ∧ seen = seen'.toList ∧ stepped = stepped' ∧ ((m = none ∧ m' = none) ∨ ∃ r lr, m = some r ∧ σ r = some lr ∧ m' = some lr.b)
  | .loop st pend sz T params assign body d, .loop r => r.state = st ∧ r.pending = pend ∧ TR σ sz T r.tmps ∧ r.params.toList = params ∧ r.assign = assign ∧ r.body = body ∧ ∃ ld, σ d = some ld ∧ r.defers = ld.b
  | .marks, .deferred (some []) => True
  | _, _ => False

theorem OR.mono {P : Program} {σ τ : Ren} (h : σ.le τ) {l : Loc} {o : AObj} {o' : Obj} (r : OR P σ l o o') : OR P τ l o o' := by
  cases o with
  | cells c e =>
    cases o' with
    | cells c' e' fz => exact ⟨r.1, r.2.1, fun i v hv => let ⟨v', h1, h2⟩ := r.2.2.1 i v hv; ⟨v', h1, h2.mono h⟩, r.2.2.2⟩
    | _ => exact r.elim
  | map es clock =>
    cases o' with
    | map es' clock' => exact ⟨r.1, r.2.1, fun i a b ha hb => let ⟨h1, h2, h3⟩ := r.2.2 i a b ha hb; ⟨h1.mono h, h2.mono h, h3⟩⟩
    | _ => exact r.elim
  | iter m since seen stepped =>
    cases o' with
    | mapIter m' a b c => exact ⟨r.1, r.2.1, r.2.2.1, r.2.2.2.1, r.2.2.2.2.imp id fun ⟨x, lr, h1, h2, h3⟩ => ⟨x, lr, h1, h _ _ h2, h3⟩⟩
    | _ => exact r.elim
  | loop st pend sz T params assign body d =>
    cases o' with
    | loop q => exact ⟨r.1, r.2.1, r.2.2.1.mono h, r.2.2.2.1, r.2.2.2.2.1, r.2.2.2.2.2.1, let ⟨ld, h1, h2⟩ := r.2.2.2.2.2.2; ⟨ld, h _ _ h1, h2⟩⟩
    | _ => exact r.elim
  | marks =>
    cases o' with
    | deferred c => cases c with
      | none => exact r.elim
      | some l => cases l with
        | nil => trivial
        | cons _ _ => exact r.elim
    | _ => exact r.elim
  | dead => cases o' <;> exact r.elim

def alive (f : HF) (n : Nat) : Prop := ∃ o, f n = some o ∧ o ≠ .dead

/-- The evaluator's heap, and a world. -/
structure WR (P : Program) (N0 : Nat) (w0 : World) (σ : Ren) (f : HF) (w : World) : Prop where
  below : Below N0 w0 w
  base : N0 ≤ w.heap.size
  dom : ∀ n l, σ n = some l → ∃ o, f n = some o
  live : ∀ n o, f n = some o → o = .dead ∨ ∃ l o', σ n = some l ∧ N0 ≤ l.b ∧ w.heap[l.b]? = some o' ∧ OR P σ l o o'
  inj : ∀ n m l k, σ n = some l → σ m = some k → alive f n → alive f m → l.b = k.b → n = m

theorem WR.drew {P : Program} {N0 : Nat} {w0 : World} {σ : Ren} {f : HF} {w : World} (h : WR P N0 w0 σ f w) : WR P N0 w0 σ f { w with drawn := w.drawn + 1 } :=
  ⟨⟨h.below.os, h.below.tape, h.below.output, h.below.size, h.below.block⟩, h.base, h.dom, h.live, h.inj⟩
theorem WR.congr {P : Program} {N0 : Nat} {w0 : World} {σ : Ren} {f g : HF} {w : World} (h : WR P N0 w0 σ f w) (e : ∀ n, g n = f n) : WR P N0 w0 σ g w := by
  have : g = f := funext e
  rw [this]; exact h

/-- A live name's block. -/
theorem WR.at {P : Program} {N0 : Nat} {w0 : World} {σ : Ren} {f : HF} {w : World} (h : WR P N0 w0 σ f w) {n : Nat} {o : AObj} {l : Loc} (hn : f n = some o) (ho : o ≠ .dead) (hl : σ n = some l) :
    N0 ≤ l.b ∧ ∃ o', w.heap[l.b]? = some o' ∧ OR P σ l o o' := by
  rcases h.live n o hn with e | ⟨k, o', h1, h2, h3, h4⟩
  · exact absurd e ho
  · rw [hl] at h1; cases h1
    exact ⟨h2, o', h3, h4⟩

/-- A name that is new, for a block that is new. -/
theorem WR.new {P : Program} {N0 : Nat} {w0 : World} {σ : Ren} {f : HF} {w : World} (h : WR P N0 w0 σ f w) {n : Nat} (hn : f n = none) (o : AObj) (o' : Obj) (z u : Nat)
    (ho : OR P (fun m => if m = n then some ⟨w.heap.size, 0, z, u⟩ else σ m) ⟨w.heap.size, 0, z, u⟩ o o') :
    σ.le (fun m => if m = n then some ⟨w.heap.size, 0, z, u⟩ else σ m) ∧
    WR P N0 w0 (fun m => if m = n then some ⟨w.heap.size, 0, z, u⟩ else σ m) (fun m => if m = n then some o else f m) { w with heap := w.heap.push o' } := by
  have hσ : σ n = none := by
    cases e : σ n with
    | none => rfl
    | some l => obtain ⟨o, ho⟩ := h.dom n l e; rw [hn] at ho; cases ho
  have hle : σ.le (fun m => if m = n then some ⟨w.heap.size, 0, z, u⟩ else σ m) := fun m l e => by
    try simp only
    rw [if_neg (fun hm => by subst hm; rw [hσ] at e; cases e)]; exact e
  have old : ∀ m l o, σ m = some l → f m = some o → o ≠ .dead → l.b < w.heap.size := fun m l o e1 e2 e3 => by
    obtain ⟨_, o', h3, _⟩ := h.at e2 e3 e1
    exact (Array.getElem?_eq_some_iff.1 h3).1
  refine ⟨hle, ?_, ?_, ?_, ?_, ?_⟩
  · exact h.below.trans ⟨rfl, rfl, rfl, by simp, fun k hk => by simp only [Array.getElem?_push]; rw [if_neg (by have := h.base; omega)]⟩
  · simp; have := h.base; omega
  · intro m l e
    try simp only at e ⊢
    by_cases hm : m = n
    · exact ⟨o, by rw [if_pos hm]⟩
    · rw [if_neg hm] at e ⊢; exact h.dom m l e
  · intro m q e
    try simp only at e
    by_cases hm : m = n
    · rw [if_pos hm] at e; cases e
      exact .inr ⟨⟨w.heap.size, 0, z, u⟩, o', by simp [hm], h.base, by simp, ho⟩
    · rw [if_neg hm] at e
      rcases h.live m q e with e1 | ⟨l, q', h1, h2, h3, h4⟩
      · exact .inl e1
      · refine .inr ⟨l, q', (if_neg hm).trans h1, h2, ?_, h4.mono hle⟩
        have : l.b < w.heap.size := (Array.getElem?_eq_some_iff.1 h3).1
        simp only [Array.getElem?_push]; rw [if_neg (by omega)]; exact h3
  · intro m k l l' e1 e2 ⟨o1, a1, d1⟩ ⟨o2, a2, d2⟩ hb
    try simp only at e1 e2 a1 a2
    by_cases hm : m = n
    · by_cases hk : k = n
      · rw [hm, hk]
      · rw [if_pos hm] at e1; rw [if_neg hk] at e2 a2
        cases e1
        have := old k l' o2 e2 a2 d2
        simp only at hb; omega
    · by_cases hk : k = n
      · rw [if_neg hm] at e1 a1; rw [if_pos hk] at e2
        cases e2
        have := old m l o1 e1 a1 d1
        simp only at hb; omega
      · rw [if_neg hm] at e1 a1; rw [if_neg hk] at e2 a2
        exact h.inj m k l l' e1 e2 ⟨o1, a1, d1⟩ ⟨o2, a2, d2⟩ hb

/-- A name stands for something else, in its block. -/
theorem WR.set {P : Program} {N0 : Nat} {w0 : World} {σ : Ren} {f : HF} {w w' : World} (h : WR P N0 w0 σ f w) {n : Nat} {l : Loc} {o p : AObj} {p' : Obj} (hn : f n = some o) (ho : o ≠ .dead) (hl : σ n = some l)
    (hos : w'.os = w.os) (htape : w'.tape = w.tape) (hout : w'.output = w.output) (hsize : w'.heap.size = w.heap.size) (hoth : ∀ k, k ≠ l.b → w'.heap[k]? = w.heap[k]?) (hat : w'.heap[l.b]? = some p') (hp : OR P σ l p p') (hpd : p ≠ .dead) :
    WR P N0 w0 σ (fun m => if m = n then some p else f m) w' := by
  obtain ⟨hN, _⟩ := h.at hn ho hl
  refine ⟨h.below.trans ⟨hos, htape, hout, by omega, fun k hk => hoth k (by omega)⟩, by rw [hsize]; exact h.base, ?_, ?_, ?_⟩
  · intro m k e
    by_cases hm : m = n
    · exact ⟨p, by simp [hm]⟩
    · obtain ⟨q, hq⟩ := h.dom m k e; exact ⟨q, (if_neg hm).trans hq⟩
  · intro m q e
    try simp only at e
    by_cases hm : m = n
    · rw [if_pos hm] at e; cases e
      exact .inr ⟨l, p', by rw [hm]; exact hl, hN, hat, hp⟩
    · rw [if_neg hm] at e
      rcases h.live m q e with e1 | ⟨k, q', h1, h2, h3, h4⟩
      · exact .inl e1
      · by_cases hd : q = .dead
        · exact .inl hd
        · refine .inr ⟨k, q', h1, h2, ?_, h4⟩
          rw [hoth k.b (fun hb => hm (h.inj m n k l h1 hl ⟨q, e, hd⟩ ⟨o, hn, ho⟩ hb))]
          exact h3
  · intro m k a b e1 e2 ⟨o1, a1, d1⟩ ⟨o2, a2, d2⟩ hb
    have liv : ∀ j q, (if j = n then some p else f j) = some q → q ≠ .dead → alive f j := fun j q e hd => by
      by_cases hj : j = n
      · rw [hj]; exact ⟨o, hn, ho⟩
      · rw [if_neg hj] at e; exact ⟨q, e, hd⟩
    exact h.inj m k a b e1 e2 (liv m o1 a1 d1) (liv k o2 a2 d2) hb

/-- A name is no more. -/
theorem WR.kill {P : Program} {N0 : Nat} {w0 : World} {σ : Ren} {f : HF} {w : World} (h : WR P N0 w0 σ f w) {n : Nat} {o : AObj} (hn : f n = some o) :
    WR P N0 w0 σ (fun m => if m = n then some .dead else f m) w := by
  refine ⟨h.below, h.base, ?_, ?_, ?_⟩
  · intro m k e
    by_cases hm : m = n
    · exact ⟨.dead, by simp [hm]⟩
    · obtain ⟨q, hq⟩ := h.dom m k e; exact ⟨q, (if_neg hm).trans hq⟩
  · intro m q e
    try simp only at e
    by_cases hm : m = n
    · rw [if_pos hm] at e; cases e; exact .inl rfl
    · rw [if_neg hm] at e; exact h.live m q e
  · intro m k a b e1 e2 ⟨o1, a1, d1⟩ ⟨o2, a2, d2⟩ hb
    have liv : ∀ j q, (if j = n then some AObj.dead else f j) = some q → q ≠ .dead → alive f j := fun j q e hd => by
      by_cases hj : j = n
      · rw [if_pos hj] at e; cases e; exact absurd rfl hd
      · rw [if_neg hj] at e; exact ⟨q, e, hd⟩
    exact h.inj m k a b e1 e2 (liv m o1 a1 d1) (liv k o2 a2 d2) hb

end Go.Proofs.YtkiakphfgdkdiaaGreat
