/-
  An evaluator for closed calls: maps.
-/
import Derived.Test.YtkiakphfgdkdiaaGreatEvL
namespace Go.Proofs.YtkiakphfgdkdiaaGreat
open Go Go.RowKit
set_option linter.unusedVariables false

section
variable {P : Program} {N0 : Nat} {w0 : World} {σ : Ren} {w : World}

theorem pureRun_bind {α β : Type} {x : Sem α} {f : α → Sem β} {b : β} (h : pureRun P (x >>= f) = some b) : ∃ a, pureRun P x = some a ∧ pureRun P (f a) = some b := by
  change pureRun P (x.bind f) = some b at h
  induction x with
  | pure a => exact ⟨a, rfl, h⟩
  | program k ih =>
    obtain ⟨a, h1, h2⟩ := ih P h
    exact ⟨a, h1, h2⟩
  | _ => cases h

/-- Entries, and what they stand for. -/
def ER (σ : Ren) (es : List MapEntry) (es' : List MapEntry) : Prop :=
  es.length = es'.length ∧ ∀ (i : Nat) (a b : MapEntry), es[i]? = some a → es'[i]? = some b → VR σ a.key b.key ∧ VR σ a.val b.val ∧ a.born = b.born

theorem findNow_same (kind : TypeDesc) (k : Value) : ∀ (l m : List MapEntry) (i : Nat), l.map (·.key) = m.map (·.key) → ∀ r, Instr.findNow kind k l i = some r →
    ∃ r', Instr.findNow kind k m i = some r' ∧ r.map (·.1) = r'.map (·.1) ∧ ∀ j v, r' = some (j, v) → i ≤ j ∧ ∃ e, m[j - i]? = some e ∧ e.val = v
  | [], [], i, _, r, h => by cases h; exact ⟨none, rfl, rfl, fun j v e => by cases e⟩
  | [], _ :: _, i, h, _, _ => by cases h
  | _ :: _, [], i, h, _, _ => by cases h
  | e :: l, f :: m, i, h, r, hr => by
    simp only [List.map_cons, List.cons.injEq] at h
    unfold Instr.findNow at hr ⊢
    rw [← h.1]
    cases hs : Instr.sameNow kind k e.key with
    | none => rw [hs] at hr; cases hr
    | some b =>
      rw [hs] at hr
      cases b with
      | true => cases hr; exact ⟨some (i, f.val), rfl, rfl, fun j v e => by cases e; exact ⟨Nat.le_refl _, f, by simp, rfl⟩⟩
      | false =>
        obtain ⟨r', h1, h2, h3⟩ := findNow_same kind k l m (i + 1) h.2 r hr
        refine ⟨r', h1, h2, fun j v e => ?_⟩
        obtain ⟨h4, e', h5, h6⟩ := h3 j v e
        exact ⟨by omega, e', by rw [show j - i = (j - (i + 1)) + 1 by omega, List.getElem?_cons_succ]; exact h5, h6⟩

theorem findAsking_same (kt : TypeId) (k : Value) : ∀ (l m : List MapEntry) (i : Nat), l.map (·.key) = m.map (·.key) → ∀ r, pureRun P (Instr.findAsking kt k l i) = some r →
    ∃ r', (∀ w, (Instr.findAsking kt k m i).run P w = .ok r' w) ∧ r.map (·.1) = r'.map (·.1) ∧ ∀ j v, r' = some (j, v) → i ≤ j ∧ ∃ e, m[j - i]? = some e ∧ e.val = v
  | [], [], i, _, r, h => by cases h; exact ⟨none, fun _ => rfl, rfl, fun j v e => by cases e⟩
  | [], _ :: _, i, h, _, _ => by cases h
  | _ :: _, [], i, h, _, _ => by cases h
  | e :: l, f :: m, i, h, r, hr => by
    simp only [List.map_cons, List.cons.injEq] at h
    unfold Instr.findAsking at hr
    obtain ⟨b, h1, h2⟩ := pureRun_bind hr
    cases b with
    | true =>
      simp only [if_true] at h2
      cases h2
      refine ⟨some (i, f.val), fun w => ?_, rfl, fun j v e => by cases e; exact ⟨Nat.le_refl _, f, by simp, rfl⟩⟩
      unfold Instr.findAsking
      rw [← h.1]
      simp only [Sem.run_bind, pureRun_run _ _ h1, Result.andThen_ok, if_true, Sem.run_pure]
    | false =>
      simp only [Bool.false_eq_true, if_false] at h2
      obtain ⟨r', g1, g2, g3⟩ := findAsking_same kt k l m (i + 1) h.2 r h2
      refine ⟨r', fun w => ?_, g2, fun j v e => ?_⟩
      · unfold Instr.findAsking
        rw [← h.1]
        simp only [Sem.run_bind, pureRun_run _ _ h1, Result.andThen_ok, Bool.false_eq_true, if_false, g1 w]
      · obtain ⟨h4, e', h5, h6⟩ := g3 j v e
        exact ⟨by omega, e', by rw [show j - i = (j - (i + 1)) + 1 by omega, List.getElem?_cons_succ]; exact h5, h6⟩

theorem plainKeys_mem : ∀ {l : List MapEntry}, plainKeys l = true → ∀ e ∈ l, plainD 8 e.key = true
  | [], _, e, h => by cases h
  | x :: l, h, e, he => by
    unfold plainKeys at h
    cases hx : plainD 8 x.key with
    | false => rw [hx] at h; cases h
    | true =>
      rw [hx] at h
      rcases List.mem_cons.1 he with rfl | he
      · exact hx
      · exact plainKeys_mem h e he

theorem ER.keys {es es' : List MapEntry} (h : ER σ es es') (hp : plainKeys es = true) : es.map (·.key) = es'.map (·.key) := by
  apply List.ext_getElem?
  intro i
  simp only [List.getElem?_map]
  by_cases hi : i < es.length
  · have hx := List.getElem?_eq_getElem hi
    have hy := List.getElem?_eq_getElem (l := es') (i := i) (by rw [← h.1]; exact hi)
    rw [hx, hy]
    have := plain_eq (plainKeys_mem hp _ (List.mem_of_getElem? hx)) (h.2 i _ _ hx hy).1
    simp [this]
  · rw [List.getElem?_eq_none (by omega), List.getElem?_eq_none (by rw [← h.1]; omega)]

/-- Where a key stands. -/
theorem find_ok {kt : TypeId} {key key' : Value} {es es' : List MapEntry} {r : Option Nat} (h : findM P kt key es = some r) (hk : VR σ key key') (he : ER σ es es') :
    key' = key ∧ pureRun P (Instr.checkKey es.isEmpty 10000 kt key) = some () ∧ ∃ r', (∀ w, (Instr.findKey kt key es').run P w = .ok r' w) ∧ r = r'.map (·.1) ∧ ∀ j v, r' = some (j, v) → ∃ e, es'[j]? = some e ∧ e.val = v := by
  unfold findM at h
  cases hb : (plainD 8 key && plainKeys es) with
  | false => rw [hb] at h; cases h
  | true =>
    rw [hb] at h
    simp only [cond_true] at h
    simp only [Bool.and_eq_true] at hb
    have hkey := plain_eq hb.1 hk
    subst hkey
    cases hc : pureRun P (Instr.checkKey es.isEmpty 10000 kt key') with
    | none => rw [hc] at h; cases h
    | some u =>
      rw [hc] at h
      dsimp only at h
      cases hf : pureRun P (Instr.findKey kt key' (blank es)) with
      | none => rw [hf] at h; cases h
      | some q =>
        rw [hf] at h
        cases h
        refine ⟨rfl, rfl, ?_⟩
        have hkeys : (blank es).map (·.key) = es'.map (·.key) := by
          rw [← he.keys hb.2]
          unfold blank
          simp
        unfold Instr.findKey at hf
        obtain ⟨d, h1, h2⟩ := pureRun_bind hf
        unfold Instr.findKey
        cases hn : Instr.findNow d key' (blank es) 0 with
        | some q2 =>
          rw [hn] at h2
          cases h2
          obtain ⟨r', g1, g2, g3⟩ := findNow_same d key' _ _ 0 hkeys q hn
          refine ⟨r', fun w => ?_, g2, fun j v e => ?_⟩
          · simp only [Sem.run_bind, pureRun_run _ _ h1, Result.andThen_ok, g1, Sem.run_pure]
          · obtain ⟨_, e', h5, h6⟩ := g3 j v e
            exact ⟨e', by simpa using h5, h6⟩
        | none =>
          rw [hn] at h2
          have hn2 : Instr.findNow d key' es' 0 = none := by
            cases hx : Instr.findNow d key' es' 0 with
            | none => rfl
            | some q3 =>
              obtain ⟨r', g1, _⟩ := findNow_same d key' _ _ 0 hkeys.symm q3 hx
              rw [hn] at g1; cases g1
          obtain ⟨r', g1, g2, g3⟩ := findAsking_same kt key' _ _ 0 hkeys q h2
          refine ⟨r', fun w => ?_, g2, fun j v e => ?_⟩
          · simp only [Sem.run_bind, pureRun_run _ _ h1, Result.andThen_ok, hn2, g1 w]
          · obtain ⟨_, e', h5, h6⟩ := g3 j v e
            exact ⟨e', by simpa using h5, h6⟩

theorem getObj_run {r : Nat} {o : Obj} (h : w.heap[r]? = some o) (hn : ∀ c e f, o ≠ .cells c e f) : (getObj r).run P w = .ok o w := by
  simp only [getObj, Sem.run, h]
theorem setObj_run {r : Nat} {o p : Obj} (h : w.heap[r]? = some o) (hn : ∀ c e f, o ≠ .cells c e f) : (setObj r p).run P w = .ok () { w with heap := w.heap.setIfInBounds r p } := by
  simp only [setObj, Sem.run, h]

theorem obj_ok {n : Nat} {s s' : HS} {o : AObj} {L : Loc} (h : mObj n s = some (o, s')) (W : WR P N0 w0 σ s.h.get w) (hL : σ n = some L) (ho : o ≠ .dead) :
    s'.h = s.h ∧ s.h.get n = some o ∧ N0 ≤ L.b ∧ ∃ o', w.heap[L.b]? = some o' ∧ OR P σ L o o' := by
  rw [mObj_eq] at h
  cases hg : s.h.get n with
  | none => rw [hg] at h; cases h
  | some q =>
    rw [hg] at h
    cases h
    obtain ⟨h1, h2⟩ := W.at hg ho hL
    exact ⟨rfl, rfl, h1, h2⟩

/-- A block that becomes another. -/
theorem put_ok {n : Nat} {s s' : HS} {o p : AObj} {p' : Obj} {L : Loc} (h : mPut n p s = some ((), s')) (W : WR P N0 w0 σ s.h.get w) (hL : σ n = some L) (hg : s.h.get n = some o) (ho : o ≠ .dead)
    (hp : OR P σ L p p') (hpd : p ≠ .dead) (hlt : L.b < w.heap.size) : WR P N0 w0 σ s'.h.get { w with heap := w.heap.setIfInBounds L.b p' } := by
  rw [mPut_eq, hg] at h
  cases h
  refine (W.set (p := p) (p' := p') (w' := { w with heap := w.heap.setIfInBounds L.b p' }) hg ho hL rfl rfl rfl (by simp) (fun k hk => by simp [Array.getElem?_setIfInBounds_ne (Ne.symm hk)]) (by simp [hlt]) hp hpd).congr (fun m => by simp only [Tri.get_set])

theorem lookup_sim {t : TypeId} {x x' key key' : Value} {ok : Bool} (r : VR σ x x') (rk : VR σ key key') : Sim P N0 w0 σ (lookupM P t x key ok) (Instr.lookup t x' key' ok) := by
  intro s q s' w h W
  unfold lookupM at h
  cases hd : pureRun P (underlying t) with
  | none => rw [hd] at h; cases h
  | some d =>
  rw [hd] at h
  cases d <;> try (cases h; done)
  rename_i kt et
  dsimp only at h
  cases hz : pureRun P (zeroValue et) with
  | none => rw [hz] at h; cases h
  | some z =>
  rw [hz] at h
  dsimp only at h
  cases hpz : plainD 8 z with
  | false => rw [hpz] at h; cases h
  | true =>
  rw [hpz] at h
  simp only [cond_true] at h
  have two : ∀ (v v' : Value) (b : Bool), VR σ v v' → VR σ (cond ok (.tuple #[v, .bool b]) v) (if ok = true then .tuple #[v', .bool b] else v') := by
    intro v v' b hv
    cases ok with
    | false => exact hv
    | true =>
      have hl : LR σ [v, .bool b] [v', .bool b] := .cons hv (.cons (.bool b) (.nil σ))
      exact .tup #[v, .bool b] #[v', .bool b] hl.1 hl.2
  cases r
  case nilm =>
    dsimp only at h
    cases hf : findM P kt key [] with
    | none => rw [hf] at h; cases h
    | some r =>
      rw [hf] at h
      cases r with
      | some i => cases h
      | none =>
        cases M.pure_some h
        obtain ⟨rfl, hc, r', h1, h2, h3⟩ := find_ok hf rk (σ := σ) (es' := []) ⟨rfl, fun i a b ha => by simp at ha⟩
        have hr : r' = none := by cases r' with
          | none => rfl
          | some p => cases h2
        subst hr
        refine ⟨σ, _, w, σ.le_refl, ?_, two z z false (plain_self σ hpz), W⟩
        simp only [Instr.lookup, Sem.run_bind, pureRun_run _ _ hd, Result.andThen_ok, Sem.run_pure, List.isEmpty_nil]
        have hc' := pureRun_run _ _ hc w
        simp only [List.isEmpty_nil] at hc'
        have he : (#[] : Array MapEntry).isEmpty = true := rfl
        simp only [he, hc', Result.andThen_ok, h1 w, pureRun_run _ _ hz, Sem.run_bind, Sem.run_pure]
  case mp n L hL =>
    dsimp only at h
    obtain ⟨ob, s1, h1, h⟩ := M.bind_some h
    cases ob <;> try (cases h; done)
    rename_i es clock
    dsimp only at h
    obtain ⟨e1, hg, hN, o', ho', hor⟩ := obj_ok h1 W hL (by intro e; cases e)
    cases o' <;> try (exact hor.elim)
    rename_i es' clock'
    obtain ⟨rfl, k2, k3⟩ := hor
    have hER : ER σ es es'.toList := ⟨by simpa using k2, k3⟩
    have hobj := getObj_run (P := P) ho' (by intro c e f h; cases h)
    cases hf : findM P kt key es with
    | none => rw [hf] at h; cases h
    | some r =>
      rw [hf] at h
      obtain ⟨rfl, hc, r', g1, g2, g3⟩ := find_ok hf rk hER
      have hemp : es.isEmpty = es'.isEmpty := by
        cases es with
        | nil => have : es'.size = 0 := by rw [← k2]; rfl
                 simp [Array.isEmpty, this]
        | cons a l => have : es'.size ≠ 0 := by rw [← k2]; simp
                      simp [Array.isEmpty, this]
      have hc' := pureRun_run _ _ hc w
      rw [hemp] at hc'
      cases r with
      | none =>
        dsimp only at h
        cases M.pure_some h
        have hr : r' = none := by cases r' with
          | none => rfl
          | some p => cases g2
        subst hr
        refine ⟨σ, _, w, σ.le_refl, ?_, two z z false (plain_self σ hpz), by rw [e1]; exact W⟩
        simp only [Instr.lookup, Sem.run_bind, pureRun_run _ _ hd, Result.andThen_ok, hobj, Sem.run_pure, hc', g1 w, pureRun_run _ _ hz]
      | some i =>
        dsimp only at h
        cases r' with
        | none => cases g2
        | some p =>
          obtain ⟨j, v⟩ := p
          cases g2
          obtain ⟨e', he', hv'⟩ := g3 _ _ rfl
          have hi : j < es.length := by
            rw [hER.1]; exact (List.getElem?_eq_some_iff.1 he').1
          have hx := List.getElem?_eq_getElem hi
          rw [hx] at h
          cases M.pure_some h
          obtain ⟨_, hval, _⟩ := hER.2 j _ _ hx he'
          rw [hv'] at hval
          refine ⟨σ, _, w, σ.le_refl, ?_, two _ _ true hval, by rw [e1]; exact W⟩
          simp only [Instr.lookup, Sem.run_bind, pureRun_run _ _ hd, Result.andThen_ok, hobj, Sem.run_pure, hc', g1 w]
  all_goals cases h

theorem setAt_get : ∀ (es : List MapEntry) (i : Nat) (k v : Value) (j : Nat), (setAt es i k v)[j]? = if j = i then (es[i]?).map (fun e => { e with key := k, val := v }) else es[j]?
  | [], i, k, v, j => by simp [setAt]
  | e :: l, 0, k, v, 0 => by simp [setAt]
  | e :: l, 0, k, v, j + 1 => by simp [setAt]
  | e :: l, i + 1, k, v, 0 => by simp [setAt]
  | e :: l, i + 1, k, v, j + 1 => by simp [setAt, setAt_get l i k v j]
theorem setAt_length : ∀ (es : List MapEntry) (i : Nat) (k v : Value), (setAt es i k v).length = es.length
  | [], i, k, v => rfl
  | e :: l, 0, k, v => rfl
  | e :: l, i + 1, k, v => by simp [setAt, setAt_length l i k v]

theorem mapUpdate_sim {t : TypeId} {m m' key key' v v' : Value} (r : VR σ m m') (rk : VR σ key key') (rv : VR σ v v') : Sim P N0 w0 σ (mapUpdateM P t m key v) (do Instr.mapUpdate t m' key' v'; pure undef) := by
  intro s q s' w h W
  unfold mapUpdateM at h
  cases hd : pureRun P (underlying t) with
  | none => rw [hd] at h; cases h
  | some d =>
  rw [hd] at h
  cases d <;> try (cases h; done)
  rename_i kt et
  cases r <;> try (cases h; done)
  rename_i n L hL
  dsimp only at h
  obtain ⟨ob, s1, h1, hh⟩ := M.bind_some h
  clear h
  have h := hh
  clear hh
  cases ob <;> try (cases h; done)
  rename_i es clock
  dsimp only at h
  obtain ⟨e1, hg, hN, o', ho', hor⟩ := obj_ok h1 W hL (by intro e; cases e)
  have W1 : WR P N0 w0 σ s1.h.get w := by rw [e1]; exact W
  have hg1 : s1.h.get n = some (.map es clock) := by rw [e1]; exact hg
  have hlt : L.b < w.heap.size := (Array.getElem?_eq_some_iff.1 ho').1
  cases o' <;> try (exact hor.elim)
  rename_i es' clock'
  obtain ⟨rfl, k2, k3⟩ := hor
  have hER : ER σ es es'.toList := ⟨by simpa using k2, k3⟩
  have hobj := getObj_run (P := P) ho' (by intro c e f h; cases h)
  cases hck : pureRun P (Instr.checkKey false 10000 kt key) with
  | none => rw [hck] at h; cases h
  | some u =>
  rw [hck] at h
  cases hf : findM P kt key es with
  | none => rw [hf] at h; cases h
  | some r =>
    rw [hf] at h
    obtain ⟨rfl, _, r', g1, g2, g3⟩ := find_ok hf rk hER
    cases r with
    | none =>
      dsimp only at h
      obtain ⟨_, s2, h2, h3⟩ := M.bind_some h
      cases M.pure_some h3
      have hr : r' = none := by cases r' with
        | none => rfl
        | some p => cases g2
      subst hr
      have hW := put_ok (p' := .map (es'.push { key := key', val := v', born := clock }) (clock + 1)) h2 W1 hL hg1 (by intro e; cases e) (by
        refine ⟨rfl, by simp [k2], fun i a b ha hb => ?_⟩
        simp only [Array.toList_push] at hb
        by_cases hi : i < es.length
        · rw [List.getElem?_append_left hi] at ha
          rw [List.getElem?_append_left (by rw [← hER.1]; exact hi)] at hb
          exact hER.2 i a b ha hb
        · rw [List.getElem?_append_right (by omega)] at ha
          rw [List.getElem?_append_right (by rw [← hER.1]; omega), ← hER.1] at hb
          cases hj : i - es.length with
          | zero => rw [hj] at ha hb; simp at ha hb; subst ha; subst hb; exact ⟨rk, rv, rfl⟩
          | succ j => rw [hj] at ha; simp at ha) (by intro e; cases e) hlt
      refine ⟨σ, undef, _, σ.le_refl, ?_, undef_self σ, hW⟩
      simp only [Instr.mapUpdate, Sem.run_bind, pureRun_run _ _ hd, Result.andThen_ok, hobj, Sem.run_pure, pureRun_run _ _ hck, g1 w, setObj_run ho' (by intro c e f h; cases h)]
    | some i =>
      dsimp only at h
      cases r' with
      | none => cases g2
      | some p =>
        obtain ⟨j, v0⟩ := p
        cases g2
        obtain ⟨e', he', hv'⟩ := g3 _ _ rfl
        have hi : j < es.length := by
          rw [hER.1]; exact (List.getElem?_eq_some_iff.1 he').1
        have hx := List.getElem?_eq_getElem hi
        rw [hx] at h
        dsimp only at h
        cases hsb : Instr.sameBits 10000 es[j].key key' with
        | false => rw [hsb] at h; cases h
        | true =>
          rw [hsb] at h
          dsimp only at h
          obtain ⟨_, s2, h2, h3⟩ := M.bind_some h
          cases M.pure_some h3
          have hpk : plainKeys es = true := by
            unfold findM at hf
            cases hb : (plainD 8 key' && plainKeys es) with
            | false => rw [hb] at hf; cases hf
            | true => simp only [Bool.and_eq_true] at hb; exact hb.2
          have hkeq : e'.key = es[j].key := plain_eq (plainKeys_mem hpk _ (List.getElem_mem hi)) (hER.2 j _ _ hx he').1
          have hW := put_ok (p' := .map (es'.modify j fun e => { e with key := key', val := v' }) clock) h2 W1 hL hg1 (by intro e; cases e) (by
            refine ⟨rfl, by rw [setAt_length, Array.size_modify]; exact k2, fun i a b ha hb => ?_⟩
            rw [setAt_get] at ha
            simp only [Array.getElem?_toList, Array.getElem?_modify] at hb
            by_cases hij : i = j
            · subst hij
              rw [if_pos rfl, hx] at ha
              rw [if_pos rfl] at hb
              have he2 : es'[i]? = some e' := by simpa using he'
              rw [he2] at hb
              simp at ha hb
              subst ha; subst hb
              exact ⟨rk, rv, (hER.2 i _ _ hx he').2.2⟩
            · rw [if_neg hij] at ha
              rw [if_neg (fun e => hij e.symm)] at hb
              exact hER.2 i a b ha (by simpa using hb)) (by intro e; cases e) hlt
          refine ⟨σ, undef, _, σ.le_refl, ?_, undef_self σ, hW⟩
          have hkey : ((es'[j]?).map (·.key)).getD key' = es[j].key := by
            have he2 : es'[j]? = some e' := by simpa using he'
            rw [he2]; simp [hkeq]
          have hstay : (Instr.keyThatStays es[j].key key').run P w = .ok key' w := by
            unfold Instr.keyThatStays; rw [if_pos hsb]; rfl
          simp only [Instr.mapUpdate, Sem.run_bind, pureRun_run _ _ hd, Result.andThen_ok, hobj, Sem.run_pure, pureRun_run _ _ hck, g1 w, hkey, hstay, setObj_run ho' (by intro c e f h; cases h)]

end
end Go.Proofs.YtkiakphfgdkdiaaGreat
