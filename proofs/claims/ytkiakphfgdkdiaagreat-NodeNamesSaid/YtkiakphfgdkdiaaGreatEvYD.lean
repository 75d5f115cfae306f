/-
  The form that the kernel bears says no more than the evaluator: operations in turn, drawn regions, code.
-/
import Derived.Test.YtkiakphfgdkdiaaGreatEvYC
namespace Go.Proofs.YtkiakphfgdkdiaaGreat
open Go Go.RowKit
set_option linter.unusedVariables false

section
variable {P : Program} {pf : List (FuncId × Value)} {R : RunF} {R' : Run} {fs : Fs} {T : Tri Value} {r : Value × HS} {hor : Nat} {h : H} {n : Nat} {l : L} {ops : Array Oper}

theorem noneK_some {l : List Value} {x : Ans} (h : noneK l x = some r) : l = [] ∧ x = some r := by
  cases l with
  | nil => exact ⟨rfl, h⟩
  | cons => cases h

theorem op_ref (hN : NoGo P) (hR : ∀ c fr, Fine (R' c fr)) (hRR : RunRef R R') {o : Oper} {k : Kt} (hk : opTab pf o.op P R o fs T h n l hor k = some r) (hb : BdH h n) (hh : hor ≤ n) :
    Ref (evOp P pf R' (frOf fs T) o) h n l hor (fun v h' n' l' => k (putF fs o.dst v T) h' n' l' = some r) := by
  have hf : Fine (evOp P pf R' (frOf fs T) o) := fine_evOp hR (fun fv args => fine_callVal hR fv args) _ _
  cases hop : o.op
  case call c =>
    rw [hop] at hk
    have hk : opCall pf c P R o fs T h n l hor k = some r := hk
    unfold opCall at hk
    cases hc : c.callee with
    | value f =>
      rw [hc] at hk
      obtain ⟨fv, h1, h2⟩ := valK_some (fs := fs) hk
      obtain ⟨args, h3, h4⟩ := valsK_some (fs := fs) h2
      obtain ⟨fn, a, cp, rfl, h5⟩ := funcK_some h4
      unfold evOp
      rw [hop]
      dsimp only
      rw [hc, h3]
      dsimp only
      rw [h1]
      cases fn with
      | func g => exact call_ref hN hR hRR h5 hb hh
      | yield b =>
        obtain ⟨rfl, h6⟩ := noneK_some h5
        obtain ⟨rfl, h7⟩ := noneK_some h6
        exact yield_ref hR hRR h7 hb hh
      | _ => cases h5
    | invoke f m => rw [hc] at hk; cases hk
    | builtin b =>
      rw [hc] at hk
      exact OpRef.ref hf hb (fall_ref (by unfold isCallV; rw [hop]; dsimp only; rw [hc]) hk)
  case move x => rw [hop] at hk; exact OpRef.ref hf hb (move_ref (R := R) (.inl hop) hk)
  case assign x => rw [hop] at hk; exact OpRef.ref hf hb (move_ref (R := R) (.inr hop) hk)
  case pick c a b => rw [hop] at hk; exact OpRef.ref hf hb (pick_ref (R := R) hop hk)
  case alloc t => rw [hop] at hk; exact OpRef.ref hf hb (alloc_ref (R := R) hop hk)
  case box t x => rw [hop] at hk; exact OpRef.ref hf hb (box_ref (R := R) hop hk)
  case load t a => rw [hop] at hk; exact OpRef.ref hf hb (load_ref (R := R) hop hk)
  case store t a x => rw [hop] at hk; exact OpRef.ref hf hb (store_ref (R := R) hop hk)
  case binOp op t x y yt => rw [hop] at hk; exact OpRef.ref hf hb (bin_ref (R := R) hop hk)
  case fieldAddr t x f => rw [hop] at hk; exact OpRef.ref hf hb (field_ref (R := R) hop hk)
  case indexAddr t x i => rw [hop] at hk; exact OpRef.ref hf hb (indexAddr_ref (R := R) hop hk)
  case extract x i => rw [hop] at hk; exact OpRef.ref hf hb (extract_ref (R := R) hop hk)
  all_goals
    have hc : isCallV o = false := by unfold isCallV; rw [hop]
    rw [hop] at hk
    first
    | exact OpRef.ref hf hb (fall_ref hc hk)
    | (cases hk; done)

theorem opAt_ref (hN : NoGo P) (hR : ∀ c fr, Fine (R' c fr)) (hRR : RunRef R R') {o : Oper} {i : Nat} {k : Kt} (hi : ops[i]? = some o) (hk : opAtF P pf R ops o fs T h n l hor k = some r) (hb : BdH h n) (hh : hor ≤ n) :
    Ref (evOpAt P pf R' ops (frOf fs T) i) h n l hor (fun fr' h' n' l' => ∃ T', fr' = frOf fs T' ∧ k T' h' n' l' = some r) := by
  have hC : ∀ fv args, Fine (callValM P pf R' fv args) := fun fv args => fine_callVal hR fv args
  have go : opTab pf o.op P R o fs T h n l hor k = some r → Ref ((evOp P pf R' (frOf fs T) o).bind fun v => .pure ((frOf fs T).put o.dst v)) h n l hor (fun fr' h' n' l' => ∃ T', fr' = frOf fs T' ∧ k T' h' n' l' = some r) := by
    intro hk
    refine Ref.bind (op_ref hN hR hRR hk hb hh) (fun _ => Fine.pure _) ?_
    intro v h' n' l' hb' _ _ hq
    exact Ref.pure hb' ⟨_, (putF_eq _ _).symm, hq⟩
  unfold evOpAt
  rw [hi]
  dsimp only
  unfold opAtF at hk
  cases hg : o.guard with
  | none =>
    rw [hg] at hk
    have hw : wantedF ops (frOf fs T) o = true := by unfold wantedF; rw [hg]
    rw [hw]
    exact go hk
  | some gd =>
    rw [hg] at hk
    have hw : wantedF ops ⟨fs.sz, T, [], none⟩ o = wantedF ops (frOf fs T) o := by unfold wantedF; rfl
    have hk : Bool.rec (motive := fun _ => Ans) (k (putF fs o.dst undef T) h n l) (opTab pf o.op P R o fs T h n l hor k) (wantedF ops ⟨fs.sz, T, [], none⟩ o) = some r := hk
    rw [hw] at hk
    cases hc : wantedF ops (frOf fs T) o with
    | true => rw [hc] at hk; exact go hk
    | false => rw [hc] at hk; exact Ref.pure hb ⟨_, (putF_eq _ _).symm, hk⟩

theorem at_pre {pre l0 : List Oper} {o : Oper} (h : ops.toList = pre ++ o :: l0) : ops[pre.length]? = some o := by
  rw [← Array.getElem?_toList, h]
  simp

theorem ops_ref (hN : NoGo P) (hR : ∀ c fr, Fine (R' c fr)) (hRR : RunRef R R') {k : Kt} : ∀ (l0 pre : List Oper) {T : Tri Value} {h : H} {n : Nat} {l : L}, ops.toList = pre ++ l0 → opsF P pf R ops fs hor k l0 T h n l = some r → BdH h n → hor ≤ n →
    Ref (evOps P pf R' ops (List.range' pre.length l0.length) (frOf fs T)) h n l hor (fun fr' h' n' l' => ∃ T', fr' = frOf fs T' ∧ k T' h' n' l' = some r)
  | [], pre, T, h, n, l, hp, hk, hb, hh => Ref.pure hb ⟨T, rfl, hk⟩
  | o :: l0, pre, T, h, n, l, hp, hk, hb, hh => by
    have hk : opAtF P pf R ops o fs T h n l hor (opsF P pf R ops fs hor k l0) = some r := hk
    show Ref ((evOpAt P pf R' ops (frOf fs T) pre.length).bind fun fr => evOps P pf R' ops (List.range' (pre.length + 1) l0.length) fr) h n l hor _
    refine Ref.bind (opAt_ref hN hR hRR (at_pre hp) hk hb hh) (fun _ => fine_evOps hR _ _) ?_
    rintro _ h' n' l' hb' hn' _ ⟨T', rfl, hq⟩
    have := ops_ref hN hR hRR l0 (pre ++ [o]) (by rw [hp]; simp) hq hb' (Nat.le_trans hh hn')
    simpa using this

/-! ### A region that draws its order -/
structure RecOk (c0 : Nat) (x : RecF) (X : Rec) : Prop where
  i : x.i = X.i
  old : c0 ≤ x.lo
  bd : ∀ a ∈ X.ext, a.name < x.hi
  gr : ∀ a ∈ X.ext, a.name < x.lo → ∃ y ∈ x.l, Dom y a

inductive RecsR (c0 : Nat) : List RecF → List Rec → Prop where
  | nil : RecsR c0 [] []
  | skip {X : Rec} {xs : List RecF} {Xs : List Rec} : X.ext = [] → RecsR c0 xs Xs → RecsR c0 xs (X :: Xs)
  | cons {x : RecF} {X : Rec} {xs : List RecF} {Xs : List Rec} : RecOk c0 x X → RecsR c0 xs Xs → RecsR c0 (x :: xs) (X :: Xs)

theorem RecsR.find {c0 : Nat} {xs : List RecF} {Xs : List Rec} (hr : RecsR c0 xs Xs) : ∀ X ∈ Xs, ∀ a ∈ X.ext, ∃ x ∈ xs, RecOk c0 x X := by
  induction hr with
  | nil => intro X hX; cases hX
  | skip he _ ih =>
    intro X hX a ha
    rcases List.mem_cons.1 hX with rfl | hX
    · rw [he] at ha; cases ha
    · exact ih X hX a ha
  | cons hx _ ih =>
    intro X hX a ha
    rcases List.mem_cons.1 hX with rfl | hX
    · exact ⟨_, List.mem_cons_self, hx⟩
    · obtain ⟨x, hx', h2⟩ := ih X hX a ha
      exact ⟨x, List.mem_cons_of_mem _ hx', h2⟩

def isRd : Ac → Bool
  | .rd .. | .rdo _ => true
  | _ => false
theorem writesAny_false : ∀ {l : L}, writesAny l = false → ∀ x ∈ l, isRd x = true
  | [], _, x, hx => by cases hx
  | y :: l, h, x, hx => by
    rcases List.mem_cons.1 hx with rfl | hx
    · cases x <;> first | rfl | (unfold writesAny at h; cases h)
    · refine writesAny_false ?_ x hx
      cases y <;> unfold writesAny at h <;> first | exact h | (cases h; done)
theorem rd_clash {x y : Ac} (hx : isRd x = true) (hy : isRd y = true) : clash x y = false := by
  cases x <;> cases y <;> first | rfl | (cases hx; done) | (cases hy; done)

theorem apartF_ok {c0 : Nat} {x y : RecF} {X Y : Rec} (hx : RecOk c0 x X) (hy : RecOk c0 y Y) (h : apartF c0 x y = true) : clashes X.ext Y.ext = false := by
  cases hcl : clashes X.ext Y.ext with
  | false => rfl
  | true =>
    exfalso
    have : ∃ a ∈ X.ext, ∃ b ∈ Y.ext, clash a b = true := by
      by_cases hno : ∀ a ∈ X.ext, ∀ b ∈ Y.ext, clash a b = false
      · exfalso
        have : ∀ l : L, (∀ a ∈ l, ∀ b ∈ Y.ext, clash a b = false) → clashes l Y.ext = false := by
          intro l
          induction l with
          | nil => intro _; rfl
          | cons a l ih =>
            intro hl
            unfold clashes
            have : Y.ext.any (clash a) = false := by
              rw [List.any_eq_false]
              intro b hb
              rw [hl a List.mem_cons_self b hb]
              exact Bool.false_ne_true
            rw [this]
            exact ih fun a' ha' => hl a' (List.mem_cons_of_mem _ ha')
        rw [this _ hno] at hcl
        cases hcl
      · simp only [Classical.not_forall, Bool.not_eq_false] at hno
        obtain ⟨a, ha, b, hb, hc⟩ := hno
        exact ⟨a, ha, b, hb, hc⟩
    obtain ⟨a, ha, b, hb, hc⟩ := this
    have hn : b.name = a.name := clash_name hc
    unfold apartF at h
    cases hle : Nat.ble x.hi y.lo with
    | false => rw [hle] at h; cases h
    | true =>
      rw [hle] at h
      dsimp only at h
      have hle := Nat.le_of_ble_eq_true hle
      have ha1 := hx.bd a ha
      obtain ⟨b', hb', hd⟩ := hy.gr b hb (by omega)
      have hbn : b'.name = a.name := hd.1.trans hn
      have hc1 : clash b' a = true := hd.2 a (by rw [clash_symm]; exact hc)
      have old : a.name < x.lo → ∃ a' ∈ x.l, clash a' b' = true := by
        intro hlt
        obtain ⟨a', ha', hd'⟩ := hx.gr a ha hlt
        exact ⟨a', ha', hd'.2 b' (by rw [clash_symm]; exact hc1)⟩
      cases hw : (writesAny x.l || writesAny y.l) with
      | true =>
        rw [hw] at h
        dsimp only at h
        rw [Bool.and_eq_true] at h
        obtain ⟨h1, h2⟩ := h
        have h3 := List.all_eq_true.1 h2 b' hb'
        rw [Bool.or_eq_true, Nat.blt_eq] at h3
        rcases h3 with h3 | h3
        · obtain ⟨a', ha', hc'⟩ := old (by omega)
          have h4 : clashes x.l y.l = false := by
            cases e : clashes x.l y.l with
            | false => rfl
            | true => rw [e] at h1; cases h1
          rw [clashes_false h4 a' ha' b' hb'] at hc'
          cases hc'
        · have := Nat.le_of_ble_eq_true h3; omega
      | false =>
        rw [hw] at h
        dsimp only at h
        rw [Bool.or_eq_false_iff] at hw
        have h3 := List.all_eq_true.1 h b' hb'
        rw [Bool.or_eq_true, Bool.or_eq_true, Nat.blt_eq, Nat.blt_eq] at h3
        have h5 := hx.old
        have : a.name < x.lo := by
          rcases h3 with (h3 | h3) | h3
          · omega
          · omega
          · have := Nat.le_of_ble_eq_true h3; omega
        obtain ⟨a', ha', hc'⟩ := old this
        rw [rd_clash (writesAny_false hw.1 a' ha') (writesAny_false hw.2 b' hb')] at hc'
        cases hc'

theorem clashes_nil : ∀ l : L, clashes l [] = false
  | [] => rfl
  | x :: l => by unfold clashes; exact clashes_nil l

theorem against_ok {c0 : Nat} {x : RecF} {X : Rec} (hx : RecOk c0 x X) {xs : List RecF} {Xs : List Rec} (hr : RecsR c0 xs Xs) (h : againstF ops c0 x xs = true) : againstAll (masks ops) X Xs = true := by
  induction hr with
  | nil => rfl
  | skip he _ ih =>
    unfold againstAll apartRec
    rw [he, clashes_nil]
    simp only [Bool.not_false, Bool.or_true]
    exact ih h
  | @cons y Y ys Ys hy _ ih =>
    unfold againstF at h
    cases hc : apartF c0 x y || orderedIn (masks ops) x.i y.i with
    | false => rw [hc] at h; cases h
    | true =>
      rw [hc] at h
      have : (orderedIn (masks ops) X.i Y.i || apartRec X Y) = true := by
        rw [Bool.or_eq_true] at hc ⊢
        rcases hc with hc | hc
        · right
          unfold apartRec
          rw [apartF_ok hx hy hc]
          rfl
        · left
          rw [← hx.i, ← hy.i]
          exact hc
      unfold againstAll
      rw [this]
      exact ih h
theorem against_nil {X : Rec} (he : X.ext = []) : ∀ Xs, againstAll (masks ops) X Xs = true
  | [] => rfl
  | Y :: Ys => by
    unfold againstAll apartRec
    rw [he]
    have : clashes [] Y.ext = false := rfl
    rw [this]
    simp only [Bool.not_false, Bool.or_true]
    exact against_nil he Ys
theorem allApart_ok {c0 : Nat} {xs : List RecF} {Xs : List Rec} (hr : RecsR c0 xs Xs) (h : allApartF ops c0 xs = true) : allApart (masks ops) Xs = true := by
  induction hr with
  | nil => rfl
  | skip he _ ih =>
    unfold allApart
    rw [against_nil he]
    exact ih h
  | @cons x X ys Ys hx hr ih =>
    unfold allApartF at h
    cases hc : againstF ops c0 x ys with
    | false => rw [hc] at h; cases h
    | true =>
      rw [hc] at h
      unfold allApart
      rw [against_ok hx hr hc]
      exact ih h

theorem addRec_eq (i lo hi : Nat) (l : L) (recs : List RecF) : (l = [] ∧ lo = hi ∧ addRec i lo hi l recs = recs) ∨ addRec i lo hi l recs = { i, lo, hi, l } :: recs := by
  cases l with
  | cons => exact .inr rfl
  | nil =>
    show _ ∨ Bool.rec (motive := fun _ => List RecF) _ _ (Nat.beq lo hi) = _
    cases hc : Nat.beq lo hi with
    | false => exact .inr rfl
    | true =>
      refine .inl ⟨rfl, Nat.eq_of_beq_eq_true hc, ?_⟩
      show Bool.rec (motive := fun _ => List RecF) _ _ (Nat.beq lo hi) = _
      rw [hc]

theorem draws_ref (hN : NoGo P) (hR : ∀ c fr, Fine (R' c fr)) (hRR : RunRef R R') {c0 : Nat} {k : List RecF → Kt} : ∀ (l0 pre : List Oper) {recs : List RecF} {T : Tri Value} {h : H} {n : Nat}, ops.toList = pre ++ l0 → drawOpsF P pf R ops fs k l0 pre.length recs T h n = some r → BdH h n → c0 ≤ n →
    ∃ T' h' n' rs xs ext, drawGo P pf R' ops (List.range' pre.length l0.length) (frOf fs T) ⟨h, n, []⟩ = some ((frOf fs T', rs), ⟨h', n', ext⟩) ∧ RecsR c0 xs rs ∧ k (xs.reverse ++ recs) T' h' n' [] = some r ∧ BdH h' n' ∧ n ≤ n' ∧ ∀ a ∈ ext, ∃ X ∈ rs, a ∈ X.ext
  | [], pre, recs, T, h, n, hp, hk, hb, hc => ⟨T, h, n, [], [], [], rfl, .nil, hk, hb, Nat.le_refl _, fun a ha => by cases ha⟩
  | o :: l0, pre, recs, T, h, n, hp, hk, hb, hc => by
    have hk : opAtF P pf R ops o fs T h n [] n (fun T h n1 l1 => drawOpsF P pf R ops fs k l0 (pre.length + 1) (addRec pre.length n n1 l1 recs) T h n1) = some r := hk
    obtain ⟨_, h1, n1, l1, e1, r1, g1, b1, le1, T1, rfl, hq⟩ := opAt_ref (fs := fs) hN hR hRR (at_pre hp) hk hb (Nat.le_refl _)
    have hq : drawOpsF P pf R ops fs k l0 (pre ++ [o]).length (addRec pre.length n n1 l1 recs) T1 h1 n1 = some r := by
      have : (pre ++ [o]).length = pre.length + 1 := by simp
      rw [this]
      exact hq
    obtain ⟨T2, h2, n2, rs, xs, e2, r2, rr, hq2, b2, le2, hx2⟩ := draws_ref hN hR hRR l0 (pre ++ [o]) (by rw [hp]; simp) hq b1 (Nat.le_trans hc le1)
    have hnames : ∀ a ∈ e1, a.name < n1 := by
      obtain ⟨ee, he, _, hbb⟩ := fine_evOpAt (pf := pf) (ops := ops) hR (frOf fs T) pre.length _ _ _ r1
      have : e1 = ee := by simpa using he
      subst this
      exact (hbb hb).2.2
    obtain ⟨ee, he, hL, _⟩ := fine_drawGo (pf := pf) (ops := ops) hR _ _ _ _ _ r2
    have : e2 = ee := by simpa using he
    subst this
    have hl : (pre ++ [o]).length = pre.length + 1 := by simp
    have run : drawGo P pf R' ops (List.range' pre.length (l0.length + 1)) (frOf fs T) ⟨h, n, []⟩ = some ((frOf fs T2, { i := pre.length, lo := n, hi := n1, ext := e1 } :: rs), ⟨h2, n2, e2 ++ e1⟩) := by
      show drawGo P pf R' ops (pre.length :: List.range' (pre.length + 1) l0.length) (frOf fs T) ⟨h, n, []⟩ = _
      rw [drawGo_eq]
      dsimp only
      rw [r1]
      dsimp only
      rw [List.append_nil]
      have := hL e1
      rw [hl] at this
      rw [this]
    have cov : ∀ a ∈ e2 ++ e1, ∃ X ∈ ({ i := pre.length, lo := n, hi := n1, ext := e1 } : Rec) :: rs, a ∈ X.ext := by
      intro a ha
      rcases List.mem_append.1 ha with ha | ha
      · obtain ⟨X, hX, h3⟩ := hx2 a ha
        exact ⟨X, List.mem_cons_of_mem _ hX, h3⟩
      · exact ⟨_, List.mem_cons_self, ha⟩
    rcases addRec_eq pre.length n n1 l1 recs with ⟨rfl, e, hadd⟩ | hadd
    · have hnil : e1 = [] := by
        cases e1 with
        | nil => rfl
        | cons a e1 =>
          obtain ⟨y, hy, _⟩ := g1.cov a List.mem_cons_self (by have := hnames a List.mem_cons_self; omega)
          cases hy
      rw [hadd] at hq2
      exact ⟨T2, h2, n2, _, xs, _, run, .skip hnil rr, hq2, b2, Nat.le_trans le1 le2, cov⟩
    · rw [hadd] at hq2
      refine ⟨T2, h2, n2, _, { i := pre.length, lo := n, hi := n1, l := l1 } :: xs, _, run, .cons ⟨rfl, hc, hnames, fun a ha hn => g1.cov a ha hn⟩ rr, ?_, b2, Nat.le_trans le1 le2, cov⟩
      simpa using hq2

theorem logsOf_mem {hor : Nat} : ∀ {recs : List RecF} {l : L} {y : Ac}, y ∈ logsOf hor recs l ↔ y ∈ l ∨ ∃ x ∈ recs, y ∈ x.l ∧ y.name < hor
  | [], l, y => by
    show y ∈ l ↔ _
    simp
  | x :: recs, l, y => by
    show y ∈ (x.l.filter fun a => Nat.blt a.name hor) ++ logsOf hor recs l ↔ _
    rw [List.mem_append, logsOf_mem, List.mem_filter, Nat.blt_eq]
    constructor
    · rintro (h | h | ⟨z, hz, h⟩)
      · exact .inr ⟨x, List.mem_cons_self, h⟩
      · exact .inl h
      · exact .inr ⟨z, List.mem_cons_of_mem _ hz, h⟩
    · rintro (h | ⟨z, hz, h⟩)
      · exact .inr (.inl h)
      · rcases List.mem_cons.1 hz with rfl | hz
        · exact .inl h
        · exact .inr (.inr ⟨z, hz, h⟩)

theorem draw_ref (hN : NoGo P) (hR : ∀ c fr, Fine (R' c fr)) (hRR : RunRef R R') {k : Kt} (hk : drawF P pf R ops fs T h n l hor k = some r) (hb : BdH h n) (hh : hor ≤ n) :
    Ref (drawM P pf R' ops (frOf fs T)) h n l hor (fun fr' h' n' l' => ∃ T', fr' = frOf fs T' ∧ k T' h' n' l' = some r) := by
  obtain ⟨ht, hk⟩ := iteK_some hk
  obtain ⟨T', h', n', rs, xs, ext, r1, rr, hq, b1, le1, cov⟩ := draws_ref (c0 := n) (k := fun recs T h n1 _ => Bool.rec (motive := fun _ => Ans) none (k T h n1 (logsOf hor recs l)) (allApartF ops n recs.reverse)) hN hR hRR ops.toList [] rfl hk hb (Nat.le_refl _)
  obtain ⟨ha, hq⟩ := iteK_some hq
  rw [List.append_nil] at ha hq
  rw [List.reverse_reverse] at ha
  have run : drawM P pf R' ops (frOf fs T) ⟨h, n, []⟩ = some (frOf fs T', ⟨h', n', ext⟩) := by
    unfold drawM
    rw [ht]
    show (match drawGo P pf R' ops (List.range ops.size) (frOf fs T) ⟨h, n, []⟩ with
      | none => none
      | some ((fr', recs), s') => cond (allApart (masks ops) recs) (some (fr', s')) none) = _
    rw [List.range_eq_range']
    have r1 : drawGo P pf R' ops (List.range' 0 ops.size) (frOf fs T) ⟨h, n, []⟩ = _ := r1
    rw [r1]
    dsimp only
    rw [allApart_ok rr ha]
    rfl
  refine ⟨_, h', n', _, ext, run, ⟨fun y hy => logsOf_mem.2 (.inl hy), fun a hae hn => ?_⟩, b1, le1, T', rfl, hq⟩
  obtain ⟨X, hX, haX⟩ := cov a hae
  obtain ⟨x, hx, hok⟩ := rr.find X hX a haX
  obtain ⟨y, hy, hd⟩ := hok.gr a haX (by have := hok.old; omega)
  exact ⟨y, logsOf_mem.2 (.inr ⟨x, List.mem_reverse.2 hx, hy, by rw [hd.1]; exact hn⟩), hd⟩

/-! ### Code -/
theorem raw_bool {fr : Fr} {x : Operand} {b : Bool} (h : fr.raw x = .bool b) : fr.val x = some (.bool b) := by
  cases x with
  | tmp t => exact congrArg some h
  | const v => have h : v = .bool b := h; subst h; rfl
  | global g => cases h
  | func f => cases h

theorem code_ref (hN : NoGo P) : ∀ fuel, RunRef (evF P pf fuel) (evCode P pf fuel)
  | 0 => fun c fs T h n l hor k r hk _ _ => by cases hk
  | fuel + 1 => fun c fs T h n l hor k r hk hb hh => by
    have hR : ∀ c fr, Fine (evCode P pf fuel c fr) := fine_code fuel
    have ih : RunRef (evF P pf fuel) (evCode P pf fuel) := code_ref hN fuel
    have hk : codeTab c P pf (evF P pf fuel) fs T h n l hor k = some r := hk
    show Ref (evStep P pf (evCode P pf fuel) c (frOf fs T)) h n l hor _
    unfold evStep
    cases c with
    | skip => exact Ref.pure hb ⟨.normal, fs, T, rfl, hk⟩
    | exit id => exact Ref.pure hb ⟨.exit id, fs, T, rfl, hk⟩
    | ret => exact Ref.pure hb ⟨.ret, fs, T, rfl, hk⟩
    | region id ops draw =>
      cases draw with
      | false =>
        have hk : opsF P pf (evF P pf fuel) ops fs hor (fun T h n l => k .normal fs T h n l) (Array.toList ops) T h n l = some r := hk
        dsimp only
        have := ops_ref hN hR ih ops.toList [] rfl hk hb hh
        rw [List.range_eq_range']
        refine Ref.bind this (by intro a; repeat' (first | exact Fine.fail | exact Fine.pure _ | exact Fine.obj _ | exact Fine.put _ _ | exact Fine.new _ | exact hR _ _ | exact fine_leave _ | exact fine_result _ _ | exact fine_loadM _ _ | exact fine_callM hR _ _ | refine Fine.bind ?_ (fun _ => ?_) | refine Fine.cond ?_ ?_ | split | dsimp only)) ?_
        rintro _ h1 n1 l1 hb1 _ _ ⟨T', rfl, hq⟩
        exact Ref.pure hb1 ⟨.normal, fs, T', rfl, hq⟩
      | true =>
        have hk : drawF P pf (evF P pf fuel) ops fs T h n l hor (fun T h n l => k .normal fs T h n l) = some r := hk
        dsimp only
        refine Ref.bind (draw_ref hN hR ih hk hb hh) (by intro a; repeat' (first | exact Fine.fail | exact Fine.pure _ | exact Fine.obj _ | exact Fine.put _ _ | exact Fine.new _ | exact hR _ _ | exact fine_leave _ | exact fine_result _ _ | exact fine_loadM _ _ | exact fine_callM hR _ _ | refine Fine.bind ?_ (fun _ => ?_) | refine Fine.cond ?_ ?_ | split | dsimp only)) ?_
        rintro _ h1 n1 l1 hb1 _ _ ⟨T', rfl, hq⟩
        exact Ref.pure hb1 ⟨.normal, fs, T', rfl, hq⟩
    | seq a b =>
      dsimp only
      refine Ref.bind (ih _ _ _ _ _ _ _ _ _ hk hb hh) (by intro a; repeat' (first | exact Fine.fail | exact Fine.pure _ | exact Fine.obj _ | exact Fine.put _ _ | exact Fine.new _ | exact hR _ _ | exact fine_leave _ | exact fine_result _ _ | exact fine_loadM _ _ | exact fine_callM hR _ _ | refine Fine.bind ?_ (fun _ => ?_) | refine Fine.cond ?_ ?_ | split | dsimp only)) ?_
      rintro _ h1 n1 l1 hb1 hn1 _ ⟨e, fs', T', rfl, hq⟩
      cases e with
      | normal => exact ih _ _ _ _ _ _ _ _ _ hq hb1 (Nat.le_trans hh hn1)
      | exit id => exact Ref.pure hb1 ⟨_, fs', T', rfl, hq⟩
      | ret => exact Ref.pure hb1 ⟨_, fs', T', rfl, hq⟩
    | cond x a b =>
      obtain ⟨t, h1, h2⟩ := boolK_some hk
      rw [rawF_eq (fs := fs)] at h1
      dsimp only
      rw [raw_bool h1]
      cases t with
      | true => exact ih _ _ _ _ _ _ _ _ _ h2 hb hh
      | false => exact ih _ _ _ _ _ _ _ _ _ h2 hb hh
    | block id b =>
      dsimp only
      refine Ref.bind (ih _ _ _ _ _ _ _ _ _ hk hb hh) (by intro a; repeat' (first | exact Fine.fail | exact Fine.pure _ | exact Fine.obj _ | exact Fine.put _ _ | exact Fine.new _ | exact hR _ _ | exact fine_leave _ | exact fine_result _ _ | exact fine_loadM _ _ | exact fine_callM hR _ _ | refine Fine.bind ?_ (fun _ => ?_) | refine Fine.cond ?_ ?_ | split | dsimp only)) ?_
      rintro _ h1 n1 l1 hb1 hn1 _ ⟨e, fs', T', rfl, hq⟩
      cases e with
      | normal => exact Ref.pure hb1 ⟨_, fs', T', rfl, hq⟩
      | ret => exact Ref.pure hb1 ⟨_, fs', T', rfl, hq⟩
      | exit j =>
        dsimp only at hq ⊢
        cases hj : Nat.beq j id with
        | true => rw [hj] at hq; exact Ref.pure hb1 ⟨_, fs', T', rfl, hq⟩
        | false => rw [hj] at hq; exact Ref.pure hb1 ⟨_, fs', T', rfl, hq⟩
    | loop b =>
      dsimp only
      refine Ref.bind (ih _ _ _ _ _ _ _ _ _ hk hb hh) (by intro a; repeat' (first | exact Fine.fail | exact Fine.pure _ | exact Fine.obj _ | exact Fine.put _ _ | exact Fine.new _ | exact hR _ _ | exact fine_leave _ | exact fine_result _ _ | exact fine_loadM _ _ | exact fine_callM hR _ _ | refine Fine.bind ?_ (fun _ => ?_) | refine Fine.cond ?_ ?_ | split | dsimp only)) ?_
      rintro _ h1 n1 l1 hb1 hn1 _ ⟨e, fs', T', rfl, hq⟩
      cases e with
      | normal => exact ih _ _ _ _ _ _ _ _ _ hq hb1 (Nat.le_trans hh hn1)
      | exit id => exact Ref.pure hb1 ⟨_, fs', T', rfl, hq⟩
      | ret => exact Ref.pure hb1 ⟨_, fs', T', rfl, hq⟩
    | rangeFunc g ps assign body => exact rangeFunc_ref hN hR ih hk hb hh
    | _ => cases hk

theorem evCallF_ok (hN : NoGo P) {fuel : Nat} {f : FuncId} {args : List Value} {v : Value} {s : HS} (hk : evCallF P pf fuel f args = some (v, s)) : ∃ s', evCall P pf fuel f args = some (v, s') := by
  have hb : BdH .nil 0 := fun m _ => rfl
  obtain ⟨v', h', n', l', ext, h1, _, _, _, hq⟩ := call_ref hN (fine_code fuel) (code_ref hN fuel) hk hb (Nat.le_refl 0)
  cases hq
  exact ⟨_, h1⟩

end
end Go.Proofs.YtkiakphfgdkdiaaGreat
