/-
  The form that the kernel bears says no more than the evaluator: calls and ranges.
-/
import Derived.Test.YtkiakphfgdkdiaaGreatEvYB
namespace Go.Proofs.YtkiakphfgdkdiaaGreat
open Go Go.RowKit
set_option linter.unusedVariables false

abbrev BdH (h : H) (n : Nat) : Prop := Bd ⟨h, n, []⟩
def NoGo (P : Program) : Prop := ∀ (f : Nat) fn, P.funcs[f]? = some fn → (fn.name == "runtime.NumGoroutine") = false

def Ref {α : Type} (m : M α) (h : H) (n : Nat) (l : L) (hor : Nat) (Q : α → H → Nat → L → Prop) : Prop :=
  ∃ a h' n' l' ext, m ⟨h, n, []⟩ = some (a, ⟨h', n', ext⟩) ∧ Grow hor l l' ext ∧ BdH h' n' ∧ n ≤ n' ∧ Q a h' n' l'

section
variable {α β : Type} {P : Program} {pf : List (FuncId × Value)} {R : RunF} {R' : Run} {fs : Fs} {T : Tri Value} {r : Value × HS} {hor : Nat} {h : H} {n : Nat} {l : L}

theorem Ref.of {m : M α} {a : α} {h' : H} {n' : Nat} {l' ext : L} {Q : α → H → Nat → L → Prop} (hm : Fine m) (hb : BdH h n) (h1 : m ⟨h, n, []⟩ = some (a, ⟨h', n', ext⟩)) (g : Grow hor l l' ext) (q : Q a h' n' l') : Ref m h n l hor Q := by
  obtain ⟨e, _, _, b⟩ := hm _ _ _ h1
  obtain ⟨b1, b2, _⟩ := b hb
  exact ⟨a, h', n', l', ext, h1, g, b1, b2, q⟩
theorem Ref.bind {m : M α} {f : α → M β} {Q : α → H → Nat → L → Prop} {Q2 : β → H → Nat → L → Prop} (hm : Ref m h n l hor Q) (hf : ∀ a, Fine (f a))
    (hk : ∀ a h' n' l', BdH h' n' → n ≤ n' → (∀ y ∈ l, y ∈ l') → Q a h' n' l' → Ref (f a) h' n' l' hor Q2) : Ref (m.bind f) h n l hor Q2 := by
  obtain ⟨a, h1, n1, l1, e1, r1, g1, b1, le1, q1⟩ := hm
  obtain ⟨b, h2, n2, l2, e2, r2, g2, b2, le2, q2⟩ := hk a h1 n1 l1 b1 le1 g1.sub q1
  exact ⟨b, h2, n2, l2, e2 ++ e1, bind_at r1 (hf a) r2, g1.trans g2, b2, Nat.le_trans le1 le2, q2⟩
theorem Ref.pure {a : α} {Q : α → H → Nat → L → Prop} (hb : BdH h n) (q : Q a h n l) : Ref (M.pure a) h n l hor Q :=
  ⟨a, h, n, l, [], rfl, Grow.nil _ _, hb, Nat.le_refl _, q⟩
theorem OpRef.ref {m : M Value} {d : Option Tmp} {k : Kt} (hm : Fine m) (hb : BdH h n) (ho : OpRef P m fs T d h n l hor k r) : Ref m h n l hor (fun v h' n' l' => k (putF fs d v T) h' n' l' = some r) := by
  obtain ⟨v, h', n', l', ext, h1, h2, h3⟩ := ho
  exact Ref.of hm hb h1 h3 h2

theorem obj_ref {b : Nat} {o : AObj} {l' : L} {Q : AObj → H → Nat → L → Prop} (hg : h.get b = some o) (hb : BdH h n) (hl : b < hor → Ac.put b .dead ∈ l') (hs : ∀ y ∈ l, y ∈ l') (q : Q o h n l') : Ref (mObj b) h n l hor Q := by
  refine Ref.of (ext := [.rdo b]) (Fine.obj b) hb (by rw [mObj_eq]; simp only [hg]) ⟨hs, fun x hx hn => ?_⟩ q
  rw [List.mem_singleton.1 hx] at hn ⊢
  exact ⟨_, hl hn, Dom.put (.rdo b) .dead⟩
theorem put_ref {b : Nat} {o o' : AObj} {Q : Unit → H → Nat → L → Prop} (hg : h.get b = some o) (hb : BdH h n) (hl : b < hor → Ac.put b .dead ∈ l) (q : Q () (h.set b o') n l) : Ref (mPut b o') h n l hor Q := by
  refine Ref.of (ext := [.put b o', .rdo b]) (Fine.put b o') hb (by rw [mPut_eq]; simp only [hg]) ⟨fun _ h => h, fun x hx hn => ?_⟩ q
  simp only [List.mem_cons, List.not_mem_nil, or_false] at hx
  rcases hx with rfl | rfl
  · exact ⟨_, hl hn, Dom.put (.put b o') .dead⟩
  · exact ⟨_, hl hn, Dom.put (.rdo b) .dead⟩

def RunRef (R : RunF) (R' : Run) : Prop := ∀ c fs T h n l hor k r, R c fs T h n l hor k = some r → BdH h n → hor ≤ n →
  Ref (R' c (frOf fs T)) h n l hor (fun p h' n' l' => ∃ e fs' T', p = (e, frOf fs' T') ∧ k e fs' T' h' n' l' = some r)

theorem layF_eq : ∀ (vs : List Value) (i : Nat) (T : Tri Value), layF vs i T = layTmps vs i T
  | [], _, _ => rfl
  | v :: vs, i, T => by
    show layF vs (i + 1) (setP (path i) v T) = layTmps vs (i + 1) (T.set i v)
    rw [setP_path, layF_eq vs]
theorem leave_ref : ∀ {ms : List Nat} {h : H} {l : L} {k : H → L → Ans}, leaveF hor ms h l k = some r → BdH h n → Ref (leaveM ms) h n l hor (fun _ h' n' l' => n = n' ∧ k h' l' = some r)
  | [], h, l, k, hk, hb => Ref.pure hb ⟨rfl, hk⟩
  | m :: ms, h, l, k, hk, hb => by
    obtain ⟨o, h1, h2⟩ := optK_some hk
    rw [getP_path] at h1
    cases o <;> try (cases h2; done)
    have h2 : leaveF hor ms (setP (path m) .dead h) (note hor m (.put m .dead) l) k = some r := h2
    rw [setP_path] at h2
    unfold leaveM
    refine Ref.bind (obj_ref (l' := note hor m (.put m .dead) l) (Q := fun o h' n' l' => o = .marks ∧ h = h' ∧ n = n' ∧ note hor m (.put m .dead) l = l') h1 hb note_mem note_sub ⟨rfl, rfl, rfl, rfl⟩) (by intro a; repeat' (first | exact Fine.fail | exact Fine.pure _ | exact Fine.obj _ | exact Fine.put _ _ | exact Fine.new _ | exact hb _ _ | exact fine_leave _ | exact fine_result _ _ | exact fine_loadM _ _ | exact fine_callM hb _ _ | refine Fine.bind ?_ (fun _ => ?_) | refine Fine.cond ?_ ?_ | split | dsimp only)) ?_
    rintro _ _ _ _ _ _ _ ⟨rfl, rfl, rfl, rfl⟩
    dsimp only
    refine Ref.bind (put_ref (Q := fun _ h' n' l' => h.set m .dead = h' ∧ n = n' ∧ note hor m (.put m .dead) l = l') h1 hb note_mem ⟨rfl, rfl, rfl⟩) (by intro a; repeat' (first | exact Fine.fail | exact Fine.pure _ | exact Fine.obj _ | exact Fine.put _ _ | exact Fine.new _ | exact hb _ _ | exact fine_leave _ | exact fine_result _ _ | exact fine_loadM _ _ | exact fine_callM hb _ _ | refine Fine.bind ?_ (fun _ => ?_) | refine Fine.cond ?_ ?_ | split | dsimp only)) ?_
    rintro _ _ _ _ hb2 _ _ ⟨rfl, rfl, rfl⟩
    exact leave_ref h2 hb2
theorem loadAt_ref {t : TypeId} {b off : Nat} {s : Option Nat} {kv : Value → L → Ans} (hb : BdH h n) (hs : shapeT P t = some s)
    (hk : Option.rec (motive := fun _ => Ans) (read1K hor b off h n l (fun v _ _ l => kv v l)) (fun sz => readK hor b off sz h n l (fun cs _ _ l => kv (.agg ⟨cs⟩) l)) s = some r) :
    Ref (loadM P t (.pointer (some ⟨b, off, none⟩))) h n l hor (fun v h' n' l' => h = h' ∧ n = n' ∧ kv v l' = some r) := by
  obtain ⟨s1, s2⟩ := shapeT_some hs
  cases s with
  | none =>
    obtain ⟨v, h6, h7⟩ := read1K_some hk
    refine Ref.of (ext := [.rd b off 1]) (fine_loadM _ _) hb ?_ (Grow.note fun x hx => by rw [List.mem_singleton.1 hx]; exact ⟨rfl, Dom.refl _⟩) ⟨rfl, rfl, h7⟩
    unfold loadM
    dsimp only
    rw [s2 rfl]
    exact bind_pure h6 rfl
  | some sz =>
    obtain ⟨g1, g2⟩ := s1 sz rfl
    obtain ⟨vs, h6, h7⟩ := readK_some hk
    refine Ref.of (ext := [.rd b off sz]) (fine_loadM _ _) hb ?_ (Grow.note fun x hx => by rw [List.mem_singleton.1 hx]; exact ⟨rfl, Dom.refl _⟩) ⟨rfl, rfl, h7⟩
    unfold loadM
    dsimp only
    rw [g1]
    dsimp only
    rw [g2]
    exact bind_pure h6 rfl
theorem res_ref : ∀ {rs : List ResultVar} {l : L} {k : List Value → L → Ans}, resK P T hor rs h n l k = some r → BdH h n → Ref (resultM P (frOf fs T) rs) h n l hor (fun vs h' n' l' => h = h' ∧ n = n' ∧ k vs l' = some r)
  | [], l, k, hk, hb => Ref.pure hb ⟨rfl, rfl, hk⟩
  | .tmp t :: rs, l, k, hk, hb => by
    have hk : resK P T hor rs h n l (fun vs l => k (tmpF t T :: vs) l) = some r := hk
    unfold resultM
    refine Ref.bind (res_ref hk hb) (by intro a; repeat' (first | exact Fine.fail | exact Fine.pure _ | exact Fine.obj _ | exact Fine.put _ _ | exact Fine.new _ | exact hb _ _ | exact fine_leave _ | exact fine_result _ _ | exact fine_loadM _ _ | exact fine_callM hb _ _ | refine Fine.bind ?_ (fun _ => ?_) | refine Fine.cond ?_ ?_ | split | dsimp only)) ?_
    rintro vs _ _ l1 hb1 _ _ ⟨rfl, rfl, hq⟩
    rw [tmpF_eq (fs := fs)] at hq
    exact Ref.pure hb1 ⟨rfl, rfl, hq⟩
  | .cell a t :: rs, l, k, hk, hb => by
    obtain ⟨b, off, e1, h2⟩ := ptrK_some hk
    obtain ⟨s, h3, h4⟩ := optK_some h2
    rw [tmpF_eq (fs := fs)] at e1
    unfold resultM
    rw [e1]
    refine Ref.bind (loadAt_ref (kv := fun v l => resK P T hor rs h n l (fun vs l => k (v :: vs) l)) hb h3 h4) (by intro a; repeat' (first | exact Fine.fail | exact Fine.pure _ | exact Fine.obj _ | exact Fine.put _ _ | exact Fine.new _ | exact hb _ _ | exact fine_leave _ | exact fine_result _ _ | exact fine_loadM _ _ | exact fine_callM hb _ _ | refine Fine.bind ?_ (fun _ => ?_) | refine Fine.cond ?_ ?_ | split | dsimp only)) ?_
    rintro v _ _ l1 hb1 _ _ ⟨rfl, rfl, hq⟩
    refine Ref.bind (res_ref hq hb1) (by intro a; repeat' (first | exact Fine.fail | exact Fine.pure _ | exact Fine.obj _ | exact Fine.put _ _ | exact Fine.new _ | exact hb _ _ | exact fine_leave _ | exact fine_result _ _ | exact fine_loadM _ _ | exact fine_callM hb _ _ | refine Fine.bind ?_ (fun _ => ?_) | refine Fine.cond ?_ ?_ | split | dsimp only)) ?_
    rintro vs _ _ l2 hb2 _ _ ⟨rfl, rfl, hq⟩
    exact Ref.pure hb2 ⟨rfl, rfl, hq⟩
theorem exitNo_some {e : Ex} {yes : Ans} (hk : exitNo e none yes = some r) : (∀ id, e ≠ .exit id) ∧ yes = some r := by
  cases e with
  | normal => exact ⟨fun id e => (by cases e), hk⟩
  | exit id => cases hk
  | ret => exact ⟨fun id e => (by cases e), hk⟩

theorem call_ref (hN : NoGo P) (hR : ∀ c fr, Fine (R' c fr)) (hRR : RunRef R R') {f : FuncId} {args : List Value} {k : Kv} (hk : callF P pf R f args h n l hor k = some r) (hb : BdH h n) (hh : hor ≤ n) :
    Ref (callM P pf R' f args) h n l hor (fun v h' n' l' => k v h' n' l' = some r) := by
  unfold callM
  unfold callF at hk
  cases hp : pinned pf f with
  | some v =>
    rw [hp] at hk
    cases args with
    | nil => exact Ref.pure hb hk
    | cons => cases hk
  | none =>
    rw [hp] at hk
    obtain ⟨fn, h1, h2⟩ := optK_some hk
    obtain ⟨c, h3, h4⟩ := optK_some h2
    unfold fnT at h1
    rw [triOf_get] at h1
    have h1 : P.funcs[f]? = some fn := by simpa using h1
    rw [forceK_eq, layF_eq] at h4
    dsimp only
    rw [h1]
    dsimp only
    rw [h3]
    dsimp only
    rw [hN f fn h1, cond_false]
    refine Ref.bind (hRR _ _ _ _ _ _ _ _ _ h4 hb hh) (by intro a; repeat' (first | exact Fine.fail | exact Fine.pure _ | exact Fine.obj _ | exact Fine.put _ _ | exact Fine.new _ | exact hR _ _ | exact fine_leave _ | exact fine_result _ _ | exact fine_loadM _ _ | exact fine_callM hR _ _ | refine Fine.bind ?_ (fun _ => ?_) | refine Fine.cond ?_ ?_ | split | dsimp only)) ?_
    rintro _ h1 n1 l1 hb1 hn1 hs1 ⟨e, fs', T', rfl, hq⟩
    obtain ⟨he, hq⟩ := exitNo_some hq
    cases e
    case exit id => exact absurd rfl (he id)
    all_goals
      dsimp only
      refine Ref.bind (leave_ref hq hb1) (by intro a; repeat' (first | exact Fine.fail | exact Fine.pure _ | exact Fine.obj _ | exact Fine.put _ _ | exact Fine.new _ | exact hR _ _ | exact fine_leave _ | exact fine_result _ _ | exact fine_loadM _ _ | exact fine_callM hR _ _ | refine Fine.bind ?_ (fun _ => ?_) | refine Fine.cond ?_ ?_ | split | dsimp only)) ?_
      rintro _ h2 _ l2 hb2 _ _ ⟨rfl, hq⟩
      refine Ref.bind (res_ref (fs := fs') hq hb2) (by intro a; repeat' (first | exact Fine.fail | exact Fine.pure _ | exact Fine.obj _ | exact Fine.put _ _ | exact Fine.new _ | exact hR _ _ | exact fine_leave _ | exact fine_result _ _ | exact fine_loadM _ _ | exact fine_callM hR _ _ | refine Fine.bind ?_ (fun _ => ?_) | refine Fine.cond ?_ ?_ | split | dsimp only)) ?_
      rintro vs _ _ l3 hb3 _ _ ⟨rfl, rfl, hq⟩
      cases vs with
      | nil => exact Ref.pure hb3 hq
      | cons v t => cases t <;> exact Ref.pure hb3 hq

theorem yield_ref (hR : ∀ c fr, Fine (R' c fr)) (hRR : RunRef R R') {b : Nat} {args : List Value} {k : Kv} (hk : yieldF R b args h n l hor k = some r) (hb : BdH h n) (hh : hor ≤ n) :
    Ref (yieldM R' b args) h n l hor (fun v h' n' l' => k v h' n' l' = some r) := by
  obtain ⟨st, pe, sz, Tl, ps, as, bo, d, h1, h2⟩ := loopK_some hk
  rw [getP_path] at h1
  obtain ⟨h3, h4⟩ := iteK_some h2
  unfold yieldM
  refine Ref.bind (obj_ref (l' := note hor b (.put b .dead) l) (Q := fun o h' n' l' => o = .loop st pe sz Tl ps as bo d ∧ h = h' ∧ n = n' ∧ note hor b (.put b .dead) l = l') h1 hb note_mem note_sub ⟨rfl, rfl, rfl, rfl⟩) (by intro a; repeat' (first | exact Fine.fail | exact Fine.pure _ | exact Fine.obj _ | exact Fine.put _ _ | exact Fine.new _ | exact hR _ _ | exact fine_leave _ | exact fine_result _ _ | exact fine_loadM _ _ | exact fine_callM hR _ _ | refine Fine.bind ?_ (fun _ => ?_) | refine Fine.cond ?_ ?_ | split | dsimp only)) ?_
  rintro _ _ _ _ _ _ _ ⟨rfl, rfl, rfl, rfl⟩
  dsimp only
  rw [h3, cond_true]
  refine Ref.bind (hRR _ _ _ _ _ _ _ _ _ h4 hb hh) (by intro a; repeat' (first | exact Fine.fail | exact Fine.pure _ | exact Fine.obj _ | exact Fine.put _ _ | exact Fine.new _ | exact hR _ _ | exact fine_leave _ | exact fine_result _ _ | exact fine_loadM _ _ | exact fine_callM hR _ _ | refine Fine.bind ?_ (fun _ => ?_) | refine Fine.cond ?_ ?_ | split | dsimp only)) ?_
  rintro _ h1 n1 l1 hb1 hn1 hs1 ⟨e, fs', T', rfl, hq⟩
  have hm1 : b < hor → Ac.put b .dead ∈ l1 := fun hlt => hs1 _ (note_mem hlt)
  cases e <;> try (cases hq; done)
  obtain ⟨st2, pe2, sz2, T2, ps2, as2, bo2, d2, g1, g2⟩ := loopK_some hq
  rw [getP_path] at g1
  cases st2 <;> try (cases g2; done)
  dsimp only
  refine Ref.bind (obj_ref (l' := l1) (Q := fun o h' n' l' => o = .loop .ready pe2 sz2 T2 ps2 as2 bo2 d2 ∧ h1 = h' ∧ n1 = n' ∧ l1 = l') g1 hb1 hm1 (fun _ h => h) ⟨rfl, rfl, rfl, rfl⟩) (by intro a; repeat' (first | exact Fine.fail | exact Fine.pure _ | exact Fine.obj _ | exact Fine.put _ _ | exact Fine.new _ | exact hR _ _ | exact fine_leave _ | exact fine_result _ _ | exact fine_loadM _ _ | exact fine_callM hR _ _ | refine Fine.bind ?_ (fun _ => ?_) | refine Fine.cond ?_ ?_ | split | dsimp only)) ?_
  rintro _ _ _ _ _ _ _ ⟨rfl, rfl, rfl, rfl⟩
  dsimp only
  refine Ref.bind (put_ref (Q := fun _ h' n' l' => h1.set b (.loop .busy pe2 sz2 T2 ps2 as2 bo2 d2) = h' ∧ n1 = n' ∧ l1 = l') g1 hb1 hm1 ⟨rfl, rfl, rfl⟩) (by intro a; repeat' (first | exact Fine.fail | exact Fine.pure _ | exact Fine.obj _ | exact Fine.put _ _ | exact Fine.new _ | exact hR _ _ | exact fine_leave _ | exact fine_result _ _ | exact fine_loadM _ _ | exact fine_callM hR _ _ | refine Fine.bind ?_ (fun _ => ?_) | refine Fine.cond ?_ ?_ | split | dsimp only)) ?_
  rintro _ _ _ _ hb2 _ _ ⟨rfl, rfl, rfl⟩
  rw [← setP_path] at hb2 ⊢
  refine Ref.bind (hRR _ _ _ _ _ _ _ _ _ g2 hb2 (Nat.le_trans hh hn1)) (by intro a; repeat' (first | exact Fine.fail | exact Fine.pure _ | exact Fine.obj _ | exact Fine.put _ _ | exact Fine.new _ | exact hR _ _ | exact fine_leave _ | exact fine_result _ _ | exact fine_loadM _ _ | exact fine_callM hR _ _ | refine Fine.bind ?_ (fun _ => ?_) | refine Fine.cond ?_ ?_ | split | dsimp only)) ?_
  rintro _ h3 n3 l3 hb3 hn3 hs3 ⟨e, fs3, T3, rfl, hq⟩
  have hm3 : b < hor → Ac.put b .dead ∈ l3 := fun hlt => hs3 _ (hm1 hlt)
  obtain ⟨st4, pe4, sz4, T4, ps4, as4, bo4, d4, k1, k2⟩ := loopK_some hq
  rw [getP_path] at k1
  dsimp only
  refine Ref.bind (obj_ref (l' := l3) (Q := fun o h' n' l' => o = .loop st4 pe4 sz4 T4 ps4 as4 bo4 d4 ∧ h3 = h' ∧ n3 = n' ∧ l3 = l') k1 hb3 hm3 (fun _ h => h) ⟨rfl, rfl, rfl, rfl⟩) (by intro a; repeat' (first | exact Fine.fail | exact Fine.pure _ | exact Fine.obj _ | exact Fine.put _ _ | exact Fine.new _ | exact hR _ _ | exact fine_leave _ | exact fine_result _ _ | exact fine_loadM _ _ | exact fine_callM hR _ _ | refine Fine.bind ?_ (fun _ => ?_) | refine Fine.cond ?_ ?_ | split | dsimp only)) ?_
  rintro _ _ _ _ _ _ _ ⟨rfl, rfl, rfl, rfl⟩
  dsimp only
  refine Ref.bind (put_ref (Q := fun _ h' n' l' => h3.set b (.loop (jumpState (Ex.jump e)) (Ex.jump e) sz4 T4 ps4 as4 bo4 d4) = h' ∧ n3 = n' ∧ l3 = l') k1 hb3 hm3 ⟨rfl, rfl, rfl⟩) (by intro a; repeat' (first | exact Fine.fail | exact Fine.pure _ | exact Fine.obj _ | exact Fine.put _ _ | exact Fine.new _ | exact hR _ _ | exact fine_leave _ | exact fine_result _ _ | exact fine_loadM _ _ | exact fine_callM hR _ _ | refine Fine.bind ?_ (fun _ => ?_) | refine Fine.cond ?_ ?_ | split | dsimp only)) ?_
  rintro _ _ _ _ hb5 _ _ ⟨rfl, rfl, rfl⟩
  rw [← setP_path] at hb5 ⊢
  cases e <;> exact Ref.pure hb5 k2

theorem rangeEnd_some {pe : Option Code} {k : Ex → Ans} (hk : rangeEndF pe k = some r) : (pe = none ∧ k .normal = some r) ∨ (∃ id, pe = some (.exit id) ∧ k (.exit id) = some r) ∨ (pe = some .ret ∧ k .ret = some r) := by
  cases pe with
  | none => exact .inl ⟨rfl, hk⟩
  | some c =>
    cases c <;> first
      | exact .inr (.inl ⟨_, rfl, hk⟩)
      | exact .inr (.inr ⟨rfl, hk⟩)
      | cases hk

theorem new_ref {o : AObj} {k : Nat → H → Nat → L → Ans} (hk : newK hor o h n l k = some r) (hb : BdH h n) : Ref (mNew o) h n l hor (fun b h' n' l' => n = b ∧ n + 1 = n' ∧ k n h' (n + 1) l' = some r) := by
  obtain ⟨h', e, h1, h2, h3⟩ := newK_some hk
  exact Ref.of (Fine.new o) hb h1 h3 ⟨rfl, rfl, h2⟩

theorem rangeFunc_ref (hN : NoGo P) (hR : ∀ c fr, Fine (R' c fr)) (hRR : RunRef R R') {g : Operand} {ps : Array Tmp} {assign body : Code} {k : Kc} (hk : rangeFF P pf R g ps assign body fs T h n l hor k = some r) (hb : BdH h n) (hh : hor ≤ n) :
    Ref (rangeFuncM P pf R' g ps assign body (frOf fs T)) h n l hor (fun p h' n' l' => ∃ e fs' T', p = (e, frOf fs' T') ∧ k e fs' T' h' n' l' = some r) := by
  obtain ⟨sz, marks, round⟩ := fs
  cases round with
  | some x => cases hk
  | none =>
    obtain ⟨fv, h1, h2⟩ := valK_some (fs := ⟨sz, marks, none⟩) hk
    obtain ⟨f, a, c, rfl, h3⟩ := funcK_some h2
    cases f <;> try (cases h3; done)
    rename_i f
    unfold rangeFuncM
    have hr : (frOf ⟨sz, marks, none⟩ T).round = none := rfl
    dsimp only [hr]
    show Ref (match (frOf ⟨sz, marks, none⟩ T).val g with | _ => _) h n l hor _
    rw [h1]
    dsimp only
    refine Ref.bind (new_ref h3 hb) (by intro a; repeat' (first | exact Fine.fail | exact Fine.pure _ | exact Fine.obj _ | exact Fine.put _ _ | exact Fine.new _ | exact hR _ _ | exact fine_leave _ | exact fine_result _ _ | exact fine_loadM _ _ | exact fine_callM hR _ _ | refine Fine.bind ?_ (fun _ => ?_) | refine Fine.cond ?_ ?_ | split | dsimp only)) ?_
    rintro _ h4 _ l4 hb4 hn4 hs4 ⟨rfl, rfl, hq⟩
    refine Ref.bind (new_ref hq hb4) (by intro a; repeat' (first | exact Fine.fail | exact Fine.pure _ | exact Fine.obj _ | exact Fine.put _ _ | exact Fine.new _ | exact hR _ _ | exact fine_leave _ | exact fine_result _ _ | exact fine_loadM _ _ | exact fine_callM hR _ _ | refine Fine.bind ?_ (fun _ => ?_) | refine Fine.cond ?_ ?_ | split | dsimp only)) ?_
    rintro _ h5 _ l5 hb5 hn5 hs5 ⟨rfl, rfl, hq⟩
    refine Ref.bind (call_ref hN hR hRR hq hb5 (by omega)) (by intro a; repeat' (first | exact Fine.fail | exact Fine.pure _ | exact Fine.obj _ | exact Fine.put _ _ | exact Fine.new _ | exact hR _ _ | exact fine_leave _ | exact fine_result _ _ | exact fine_loadM _ _ | exact fine_callM hR _ _ | refine Fine.bind ?_ (fun _ => ?_) | refine Fine.cond ?_ ?_ | split | dsimp only)) ?_
    rintro _ h6 n6 l6 hb6 hn6 hs6 hq
    obtain ⟨st, pe, sz2, T2, ps2, as2, bo2, d2, g1, g2⟩ := loopK_some hq
    rw [getP_path] at g1
    have far : ∀ {l : L}, n + 1 < hor → Ac.put (n + 1) .dead ∈ l := fun hlt => by omega
    refine Ref.bind (obj_ref (l' := l6) (Q := fun o h' n' l' => o = .loop st pe sz2 T2 ps2 as2 bo2 d2 ∧ h6 = h' ∧ n6 = n' ∧ l6 = l') g1 hb6 far (fun _ h => h) ⟨rfl, rfl, rfl, rfl⟩) (by intro a; repeat' (first | exact Fine.fail | exact Fine.pure _ | exact Fine.obj _ | exact Fine.put _ _ | exact Fine.new _ | exact hR _ _ | exact fine_leave _ | exact fine_result _ _ | exact fine_loadM _ _ | exact fine_callM hR _ _ | refine Fine.bind ?_ (fun _ => ?_) | refine Fine.cond ?_ ?_ | split | dsimp only)) ?_
    rintro _ _ _ _ _ _ _ ⟨rfl, rfl, rfl, rfl⟩
    dsimp only
    have fin : ∀ {pe : Option Code} {st : LoopState}, h6.get (n + 1) = some (.loop st pe sz2 T2 ps2 as2 bo2 d2) → rangeEndF pe (fun e => k e ⟨sz, n :: marks, none⟩ T (setP (path (n + 1)) (.loop .exhausted pe sz2 T2 ps2 as2 bo2 d2) h6) n6 l6) = some r →
        Ref (mPut (n + 1) (.loop .exhausted pe sz2 T2 ps2 as2 bo2 d2)) h6 n6 l6 hor (fun _ h' n' l' => (pe = none ∧ k .normal ⟨sz, n :: marks, none⟩ T h' n' l' = some r) ∨ (∃ id, pe = some (.exit id) ∧ k (.exit id) ⟨sz, n :: marks, none⟩ T h' n' l' = some r) ∨ (pe = some .ret ∧ k .ret ⟨sz, n :: marks, none⟩ T h' n' l' = some r)) := by
      intro pe st g h
      refine put_ref g hb6 far ?_
      have := rangeEnd_some h
      rw [setP_path] at this
      exact this
    cases st <;> try (cases g2; done)
    all_goals
      dsimp only
      refine Ref.bind (fin g1 g2) (by intro a; repeat' (first | exact Fine.fail | exact Fine.pure _ | exact Fine.obj _ | exact Fine.put _ _ | exact Fine.new _ | exact hR _ _ | exact fine_leave _ | exact fine_result _ _ | exact fine_loadM _ _ | exact fine_callM hR _ _ | refine Fine.bind ?_ (fun _ => ?_) | refine Fine.cond ?_ ?_ | split | dsimp only)) ?_
      rintro _ h7 n7 l7 hb7 _ _ (⟨rfl, hq⟩ | ⟨id, rfl, hq⟩ | ⟨rfl, hq⟩)
      · exact Ref.pure hb7 ⟨_, ⟨sz, n :: marks, none⟩, T, rfl, hq⟩
      · exact Ref.pure hb7 ⟨_, ⟨sz, n :: marks, none⟩, T, rfl, hq⟩
      · exact Ref.pure hb7 ⟨_, ⟨sz, n :: marks, none⟩, T, rfl, hq⟩

end
end Go.Proofs.YtkiakphfgdkdiaaGreat
