/-
  An evaluator for closed calls: a region that draws its order.
-/
import Derived.Test.YtkiakphfgdkdiaaGreatEvT
namespace Go.Proofs.YtkiakphfgdkdiaaGreat
open Go Go.RowKit
set_option linter.unusedVariables false

section
variable {P : Program} {pf : List (FuncId × Value)} {R : Run} {ops : Array Oper}

/-! ### Local -/
theorem local_evOp (hR : ∀ c fr, Local (R c fr)) (hC : ∀ fv args, Local (callValM P pf R fv args)) (fr : Fr) (o : Oper) : Local (evOp P pf R fr o) := by
  unfold evOp
  repeat' (first
    | exact Local.fail
    | exact Local.pure _
    | exact Local.new _
    | exact Local.ofO _
    | exact local_newVarM _ _
    | exact local_loadM _ _
    | exact local_storeM _ _ _
    | exact local_fieldAddrM _ _ _
    | exact local_indexAddrM _ _ _
    | exact local_indexM _ _ _
    | exact local_buildSliceM _ _ _
    | exact local_eqlM _ _ _ _ _ _
    | exact local_appendM _ _ _
    | exact local_clearM _ _
    | exact local_lenM _ _
    | exact local_capM _ _
    | exact local_sliceM _ _ _ _ _ _ _
    | exact local_convertM _ _ _ _ _
    | exact local_lookupM _ _ _ _
    | exact local_mapUpdateM _ _ _ _
    | exact local_rangeM _ _
    | exact local_nextM _ _
    | exact hC _ _
    | refine Local.bind ?_ (fun _ => ?_)
    | refine Local.cond ?_ ?_
    | split
    | dsimp only)

theorem local_leave : ∀ l, Local (leaveM l)
  | [] => Local.pure _
  | n :: l => by
    unfold leaveM
    refine Local.bind (Local.obj n) fun o => ?_
    cases o <;> first
      | exact Local.fail
      | exact Local.bind (Local.put _ _) fun _ => local_leave l
theorem local_result (fr : Fr) : ∀ l, Local (resultM P fr l)
  | [] => Local.pure _
  | .tmp t :: l => by unfold resultM; exact Local.bind (local_result fr l) fun _ => Local.pure _
  | .cell a t :: l => by unfold resultM; exact Local.bind (local_loadM _ _) fun _ => Local.bind (local_result fr l) fun _ => Local.pure _

theorem local_callM (hR : ∀ c fr, Local (R c fr)) (f : FuncId) (args : List Value) : Local (callM P pf R f args) := by
  unfold callM
  repeat' (first
    | exact Local.fail
    | exact Local.pure _
    | exact hR _ _
    | exact local_leave _
    | exact local_result _ _
    | refine Local.bind ?_ (fun _ => ?_)
    | refine Local.cond ?_ ?_
    | split
    | dsimp only)

theorem local_yieldM (hR : ∀ c fr, Local (R c fr)) (l : Nat) (args : List Value) : Local (yieldM R l args) := by
  unfold yieldM
  repeat' (first
    | exact Local.fail
    | exact Local.pure _
    | exact Local.obj _
    | exact Local.put _ _
    | exact hR _ _
    | refine Local.bind ?_ (fun _ => ?_)
    | refine Local.cond ?_ ?_
    | split
    | dsimp only)

theorem local_callVal (hR : ∀ c fr, Local (R c fr)) (fv : Value) (args : List Value) : Local (callValM P pf R fv args) := by
  unfold callValM
  split
  · exact local_callM hR _ _
  · exact local_yieldM hR _ _
  · exact Local.fail

theorem local_evVal (hR : ∀ c fr, Local (R c fr)) (fr : Fr) (i : Nat) : Local (evVal P pf R ops fr i) := by
  unfold evVal
  split
  · exact Local.fail
  · exact Local.cond (local_evOp hR (fun fv args => local_callVal hR fv args) _ _) (Local.pure _)
theorem local_evOpAt (hR : ∀ c fr, Local (R c fr)) (fr : Fr) (i : Nat) : Local (evOpAt P pf R ops fr i) := by
  rw [evOpAt_val]
  exact Local.bind (local_evVal hR fr i) fun _ => Local.pure _

theorem local_evOps (hR : ∀ c fr, Local (R c fr)) : ∀ (l : List Nat) (fr : Fr), Local (evOps P pf R ops l fr)
  | [], fr => Local.pure _
  | i :: l, fr => by unfold evOps; exact Local.bind (local_evOpAt hR fr i) fun fr' => local_evOps hR l fr'

theorem drawGo_eq (i : Nat) (l : List Nat) (fr : Fr) (s : HS) : drawGo P pf R ops (i :: l) fr s =
    match evOpAt P pf R ops fr i ⟨s.h, s.next, []⟩ with
    | none => none
    | some (fr', s1) => match drawGo P pf R ops l fr' ⟨s1.h, s1.next, s1.log ++ s.log⟩ with
      | none => none
      | some ((fr'', recs), s2) => some ((fr'', { i, lo := s.next, hi := s1.next, ext := s1.log } :: recs), s2) := by
  obtain ⟨hh, nn, ll⟩ := s
  rw [drawGo]
  dsimp only
  cases evOpAt P pf R ops fr i ⟨hh, nn, []⟩ with
  | none => rfl
  | some p =>
    obtain ⟨fr1, h1, n1, l1⟩ := p
    dsimp only
    cases drawGo P pf R ops l fr1 ⟨h1, n1, l1 ++ ll⟩ with
    | none => rfl
    | some p => obtain ⟨⟨fr2, recs⟩, s2⟩ := p; rfl

theorem local_drawGo (hR : ∀ c fr, Local (R c fr)) : ∀ (l : List Nat) (fr : Fr), Local (drawGo P pf R ops l fr)
  | [], fr => Local.pure _
  | i :: l, fr => by
    intro s a s' h
    rw [drawGo_eq] at h
    cases h1 : evOpAt P pf R ops fr i ⟨s.h, s.next, []⟩ with
    | none => rw [h1] at h; cases h
    | some p =>
      obtain ⟨fr1, s1⟩ := p
      rw [h1] at h
      dsimp only at h
      cases h2 : drawGo P pf R ops l fr1 ⟨s1.h, s1.next, s1.log ++ s.log⟩ with
      | none => rw [h2] at h; cases h
      | some p =>
        obtain ⟨⟨fr2, recs⟩, s2⟩ := p
        rw [h2] at h
        cases h
        obtain ⟨e1, l1, p1, k1⟩ := local_evOpAt hR fr i _ _ _ h1
        obtain ⟨e2, l2, p2, k2⟩ := local_drawGo hR l fr1 _ _ _ h2
        have l1 : s1.log = e1 := by simpa using l1
        have q1 : s1.h.get = patch e1 s.h.get := funext p1
        refine ⟨e2 ++ e1, by rw [l2, l1, List.append_assoc], fun n => by rw [p2 n, patch_append]; exact congrFun (congrArg (patch e2) q1) n, fun t ht hag => ?_⟩
        obtain ⟨t1, r1, n1, g1, w1⟩ := k1 ⟨t.h, t.next, []⟩ ht (fun x hx => hag x (List.mem_append_right _ hx))
        have g1 : t1.log = e1 := by simpa using g1
        have q1' : t1.h.get = patch e1 t.h.get := funext w1
        obtain ⟨t2, r2, n2, g2, w2⟩ := k2 ⟨t1.h, t1.next, t1.log ++ t.log⟩ n1 (fun x hx => by
          show agree s1.h.get t1.h.get x
          rw [q1, q1']
          exact agree_patch (hag x (List.mem_append_left _ hx)) e1)
        refine ⟨t2, ?_, n2, by rw [g2, g1, List.append_assoc], fun n => by rw [w2 n, patch_append]; exact congrFun (congrArg (patch e2) q1') n⟩
        rw [drawGo_eq, r1]
        dsimp only
        rw [r2]
        simp only [ht, n1, l1, g1]

theorem local_draw (hR : ∀ c fr, Local (R c fr)) (fr : Fr) : Local (drawM P pf R ops fr) := by
  unfold drawM
  refine Local.cond ?_ Local.fail
  intro s a s' h
  dsimp only at h
  cases h1 : drawGo P pf R ops (List.range ops.size) fr s with
  | none => rw [h1] at h; cases h
  | some p =>
    obtain ⟨⟨fr', recs⟩, s1⟩ := p
    rw [h1] at h
    dsimp only at h
    cases hc : allApart (masks ops) recs with
    | false => rw [hc] at h; cases h
    | true =>
      rw [hc] at h
      cases h
      obtain ⟨e, l, p, k⟩ := local_drawGo hR _ _ _ _ _ h1
      refine ⟨e, l, p, fun t ht hag => ?_⟩
      obtain ⟨t', r, x1, x2, x3⟩ := k t ht hag
      refine ⟨t', ?_, x1, x2, x3⟩
      dsimp only
      rw [r]
      dsimp only
      rw [hc]
      rfl

/-! ### One operation, told apart -/
/-- An operation from a frame and a heap on: its value, and what it does. -/
def RanV (P : Program) (pf : List (FuncId × Value)) (R : Run) (ops : Array Oper) (fr : Fr) (f : HF) (x : Rec) (v : Value) : Prop :=
  ∀ s : HS, s.h.get = f → s.next = x.lo → ∃ s', evVal P pf R ops fr x.i s = some (v, s') ∧ s'.next = x.hi ∧ s'.log = x.ext ++ s.log ∧ s'.h.get = patch x.ext f

theorem ranV_of (hR : ∀ c fr, Local (R c fr)) {fr : Fr} {s s' : HS} {i : Nat} {v : Value} (h : evVal P pf R ops fr i ⟨s.h, s.next, []⟩ = some (v, s')) :
    RanV P pf R ops fr s.h.get { i, lo := s.next, hi := s'.next, ext := s'.log } v ∧ s'.h.get = patch s'.log s.h.get := by
  obtain ⟨e, l, p, k⟩ := local_evVal hR fr i _ _ _ h
  have l : s'.log = e := by simpa using l
  subst l
  refine ⟨fun t ht hn => ?_, funext p⟩
  obtain ⟨t', r, x1, x2, x3⟩ := k t hn (fun x _ => by rw [ht]; exact agree_refl _ _)
  exact ⟨t', r, x1, x2, (funext x3).trans (by rw [ht])⟩

/-- Two operations that do not matter to one another. -/
structure Free (ops : Array Oper) (x y : Rec) : Prop where
  a : ∀ o, ops[y.i]? = some o → ∀ d, dstOf ops x.i = some d → d ∉ o.looksAt ops
  b : ∀ o, ops[x.i]? = some o → ∀ d, dstOf ops y.i = some d → d ∉ o.looksAt ops
  c : ∀ d, dstOf ops x.i = some d → dstOf ops y.i ≠ some d
  d : ∀ p ∈ x.ext, ∀ q ∈ y.ext, clash p q = false

theorem swap (hR : ∀ c fr, Local (R c fr)) {fr : Fr} {h0 : Tri AObj} {x y : Rec} {v u : Value} (hf : Free ops x y) (hx : RanV P pf R ops fr h0.get x v)
    (hy : RanV P pf R ops (fr.put (dstOf ops x.i) v) (patch x.ext h0.get) y u) :
    RanV P pf R ops fr h0.get y u ∧ RanV P pf R ops (fr.put (dstOf ops y.i) u) (patch y.ext h0.get) x v ∧
      (fr.put (dstOf ops x.i) v).put (dstOf ops y.i) u = (fr.put (dstOf ops y.i) u).put (dstOf ops x.i) v ∧ patch y.ext (patch x.ext h0.get) = patch x.ext (patch y.ext h0.get) := by
  have cy : evVal P pf R ops (fr.put (dstOf ops x.i) v) y.i = evVal P pf R ops fr y.i :=
    evVal_congr fun o ho t ht => Fr.tmp_put _ _ _ (fun e => hf.a o ho t e ht)
  have cx : evVal P pf R ops (fr.put (dstOf ops y.i) u) x.i = evVal P pf R ops fr x.i :=
    evVal_congr fun o ho t ht => Fr.tmp_put _ _ _ (fun e => hf.b o ho t e ht)
  have comm : patch y.ext (patch x.ext h0.get) = patch x.ext (patch y.ext h0.get) :=
    patch_comm (fun p hp q hq => by rw [clash_symm]; exact hf.d q hq p hp) h0.get
  refine ⟨?_, ?_, Fr.put_comm _ _ _ hf.c, comm⟩
  · intro s hs hn
    obtain ⟨sx, _, _, _, hxh⟩ := hx ⟨h0, x.lo, []⟩ rfl rfl
    obtain ⟨sy, r, n1, l1, p1⟩ := hy ⟨sx.h, y.lo, []⟩ hxh rfl
    rw [cy] at r
    obtain ⟨e, l, p, k⟩ := local_evVal hR fr y.i _ _ _ r
    have he : e = y.ext := by
      rw [l1] at l
      simpa using l.symm
    subst he
    obtain ⟨t', r', x1, x2, x3⟩ := k s hn (fun q hq => by
      show agree sx.h.get s.h.get q
      rw [hxh, hs]
      exact agree_patch_noclash _ (fun p hp => hf.d p hp q hq))
    exact ⟨t', r', x1.trans n1, x2, (funext x3).trans (by rw [hs])⟩
  · intro s hs hn
    obtain ⟨sx, r, n1, l1, p1⟩ := hx ⟨h0, x.lo, []⟩ rfl rfl
    obtain ⟨e, l, p, k⟩ := local_evVal hR fr x.i _ _ _ r
    have he : e = x.ext := by
      rw [l1] at l
      simpa using l.symm
    subst he
    obtain ⟨t', r', x1, x2, x3⟩ := k s hn (fun q hq => by
      show agree h0.get s.h.get q
      rw [hs]
      exact agree_symm (agree_patch_noclash _ (fun p hp => by rw [clash_symm]; exact hf.d q hq p hp)))
    rw [cx]
    exact ⟨t', r', x1.trans n1, x2, (funext x3).trans (by rw [hs])⟩

/-- Operations one behind the other. -/
def Chain (P : Program) (pf : List (FuncId × Value)) (R : Run) (ops : Array Oper) : List (Rec × Value) → Fr → HF → Fr → HF → Prop
  | [], fr, f, fr', f' => fr' = fr ∧ f' = f
  | x :: l, fr, f, fr', f' => (∃ h : Tri AObj, h.get = f) ∧ RanV P pf R ops fr f x.1 x.2 ∧ Chain P pf R ops l (fr.put (dstOf ops x.1.i) x.2) (patch x.1.ext f) fr' f'

theorem hoist (hR : ∀ c fr, Local (R c fr)) (x : Rec × Value) : ∀ (l k : List (Rec × Value)) (fr : Fr) (f : HF) (fr' : Fr) (f' : HF), (∀ y ∈ l, Free ops y.1 x.1) → Chain P pf R ops (l ++ x :: k) fr f fr' f' →
    Chain P pf R ops (x :: (l ++ k)) fr f fr' f'
  | [], k, fr, f, fr', f', _, h => h
  | y :: l, k, fr, f, fr', f', hf, h => by
    obtain ⟨⟨h0, rfl⟩, hy, hc⟩ := h
    obtain ⟨_, hx, hc2⟩ := hoist hR x l k _ _ _ _ (fun z hz => hf z (by simp [hz])) hc
    obtain ⟨s1, s2, s3, s4⟩ := swap hR (hf y (by simp)) hy hx
    obtain ⟨sx, _, _, _, hxh⟩ := s1 ⟨h0, x.1.lo, []⟩ rfl rfl
    refine ⟨⟨h0, rfl⟩, s1, ⟨sx.h, hxh⟩, s2, ?_⟩
    rw [← s3, ← s4]
    exact hc2

theorem chain_of (hR : ∀ c fr, Local (R c fr)) : ∀ {l : List Nat} {fr fr' : Fr} {s s' : HS} {recs : List Rec}, drawGo P pf R ops l fr s = some ((fr', recs), s') →
    ∃ xs : List (Rec × Value), xs.map (·.1) = recs ∧ recs.map (·.i) = l ∧ Chain P pf R ops xs fr s.h.get fr' s'.h.get
  | [], fr, fr', s, s', recs, h => by
    cases M.pure_some h
    exact ⟨[], rfl, rfl, rfl, rfl⟩
  | i :: l, fr, fr', s, s', recs, h => by
    rw [drawGo_eq] at h
    cases h1 : evOpAt P pf R ops fr i ⟨s.h, s.next, []⟩ with
    | none => rw [h1] at h; cases h
    | some p =>
      obtain ⟨fr1, s1⟩ := p
      rw [h1] at h
      dsimp only at h
      cases h2 : drawGo P pf R ops l fr1 ⟨s1.h, s1.next, s1.log ++ s.log⟩ with
      | none => rw [h2] at h; cases h
      | some p =>
        obtain ⟨⟨fr2, recs2⟩, s2⟩ := p
        rw [h2] at h
        cases h
        rw [evOpAt_val] at h1
        obtain ⟨v, s3, h3, h4⟩ := M.bind_some h1
        cases M.pure_some h4
        obtain ⟨r1, r2⟩ := ranV_of hR h3
        obtain ⟨xs, e1, e2, hc⟩ := chain_of hR h2
        refine ⟨({ i, lo := s.next, hi := s1.next, ext := s1.log }, v) :: xs, by simp [e1], by simp [e2], ⟨s.h, rfl⟩, r1, ?_⟩
        show Chain P pf R ops xs _ (patch s1.log s.h.get) _ _
        rw [← r2]
        exact hc

end
end Go.Proofs.YtkiakphfgdkdiaaGreat
