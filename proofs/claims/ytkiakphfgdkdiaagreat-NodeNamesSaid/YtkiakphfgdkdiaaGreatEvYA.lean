/-
  The form that the kernel bears says no more than the evaluator: trees, values, types.
-/
import Derived.Test.YtkiakphfgdkdiaaGreatEvX
import Derived.Test.YtkiakphfgdkdiaaGreatEvF
namespace Go.Proofs.YtkiakphfgdkdiaaGreat
open Go Go.RowKit
set_option linter.unusedVariables false

section
variable {α : Type}

theorem pathF_odd {f n : Nat} (h0 : n ≠ 0) (h1 : n % 2 = 1) : pathF (f + 1) n = .l (pathF f ((n - 1) / 2)) := by
  show (match Nat.beq n 0 with | true => _ | false => _) = _
  rw [beq_false h0]
  show (match Nat.beq (Nat.mod n 2) 1 with | true => _ | false => _) = _
  have hm : Nat.mod n 2 = n % 2 := rfl
  rw [hm, beq_true h1]
  rfl
theorem pathF_even {f n : Nat} (h0 : n ≠ 0) (h1 : ¬ n % 2 = 1) : pathF (f + 1) n = .r (pathF f ((n - 1) / 2)) := by
  show (match Nat.beq n 0 with | true => _ | false => _) = _
  rw [beq_false h0]
  show (match Nat.beq (Nat.mod n 2) 1 with | true => _ | false => _) = _
  have hm : Nat.mod n 2 = n % 2 := rfl
  rw [hm, beq_false h1]
  rfl

theorem getP_path_aux : ∀ (f : Nat) (n : Nat) (t : Tri α), n < f → getP (pathF f n) t = t.get n := by
  intro f
  induction f with
  | zero => intro n t h; omega
  | succ f ih =>
    intro n t h
    by_cases h0 : n = 0
    · subst h0
      show getP .here t = _
      cases t with
      | nil => rfl
      | node l v r => rfl
    · have hd : Nat.div (Nat.sub n 1) 2 = (n - 1) / 2 := rfl
      have hm : Nat.mod n 2 = n % 2 := rfl
      by_cases h1 : n % 2 = 1
      · rw [pathF_odd h0 h1]
        cases t with
        | nil => rfl
        | node l v r =>
          show getP (pathF f ((n - 1) / 2)) l = _
          rw [ih _ l (by omega)]
          simp only [Tri.get, beq_false h0, cond_false, hm, beq_true h1, cond_true, hd]
      · rw [pathF_even h0 h1]
        cases t with
        | nil => rfl
        | node l v r =>
          show getP (pathF f ((n - 1) / 2)) r = _
          rw [ih _ r (by omega)]
          simp only [Tri.get, beq_false h0, cond_false, hm, beq_false h1, hd]
theorem getP_path (n : Nat) (t : Tri α) : getP (path n) t = t.get n := getP_path_aux (n + 1) n t (Nat.lt_succ_self n)

theorem setP_path_aux (x : α) : ∀ (f : Nat) (n : Nat) (t : Tri α), n < f → setP (pathF f n) x t = Tri.setF x f t n := by
  intro f
  induction f with
  | zero => intro n t h; omega
  | succ f ih =>
    intro n t h
    have node : ∀ (l : Tri α) (v : Option α) (r : Tri α), setP (pathF (f + 1) n) x (.node l v r) = Tri.setF x (f + 1) (.node l v r) n := by
      intro l v r
      rw [Tri.setF_node]
      by_cases h0 : n = 0
      · subst h0; rw [if_pos rfl]; rfl
      · rw [if_neg h0]
        by_cases h1 : n % 2 = 1
        · rw [pathF_odd h0 h1, if_pos h1]
          show Tri.node (setP (pathF f ((n - 1) / 2)) x l) v r = _
          rw [ih _ l (by omega)]
        · rw [pathF_even h0 h1, if_neg h1]
          show Tri.node l v (setP (pathF f ((n - 1) / 2)) x r) = _
          rw [ih _ r (by omega)]
    cases t with
    | node l v r => exact node l v r
    | nil =>
      rw [Tri.setF_nil, ← node .nil none .nil]
      by_cases h0 : n = 0
      · subst h0; rfl
      · by_cases h1 : n % 2 = 1
        · rw [pathF_odd h0 h1]; rfl
        · rw [pathF_even h0 h1]; rfl
theorem setP_path (n : Nat) (x : α) (t : Tri α) : setP (path n) x t = t.set n x := setP_path_aux x (n + 1) n t (Nat.lt_succ_self n)

theorem triGo_get : ∀ (xs : List α) (n : Nat) (t : Tri α) (i : Nat), (triGo xs n t).get i = if n ≤ i ∧ i < n + xs.length then xs[i - n]? else t.get i
  | [], n, t, i => by
    show t.get i = _
    rw [if_neg (by simp only [List.length_nil]; omega)]
  | x :: xs, n, t, i => by
    show (triGo xs (n + 1) (setP (path n) x t)).get i = _
    rw [triGo_get xs (n + 1), setP_path, Tri.get_set]
    simp only [List.length_cons]
    by_cases h : n + 1 ≤ i ∧ i < n + 1 + xs.length
    · rw [if_pos h, if_pos (by omega), show i - n = (i - (n + 1)) + 1 by omega, List.getElem?_cons_succ]
    · rw [if_neg h]
      by_cases h2 : i = n
      · subst h2; rw [if_pos rfl, if_pos (by omega)]; simp
      · rw [if_neg h2, if_neg (by omega)]
theorem triOf_get (xs : List α) (i : Nat) : getP (path i) (triOf xs) = xs[i]? := by
  rw [getP_path]
  unfold triOf
  rw [triGo_get]
  by_cases h : i < xs.length
  · rw [if_pos (by omega)]; simp
  · rw [if_neg (by omega), List.getElem?_eq_none (by omega)]; rfl
end

theorem forceK_eq (n : Nat) (k : Nat → Ans) : forceK n k = k n := by cases n <;> rfl
theorem iteK_some {b : Bool} {x : Ans} {r : Value × HS} (h : (Bool.rec (motive := fun _ => Ans) none x b) = some r) : b = true ∧ x = some r := by
  cases b with
  | false => cases h
  | true => exact ⟨rfl, h⟩
theorem optK_some {β : Type} {o : Option β} {k : β → Ans} {r : Value × HS} (h : (Option.rec (motive := fun _ => Ans) none k o) = some r) : ∃ a, o = some a ∧ k a = some r := by
  cases o with
  | none => cases h
  | some a => exact ⟨a, rfl, h⟩

section
variable {P : Program} {fs : Fs} {T : Tri Value} {r : Value × HS}

def frOf (fs : Fs) (T : Tri Value) : Fr := ⟨fs.sz, T, fs.marks, fs.round⟩

theorem tmpF_eq (t : Nat) : tmpF t T = (frOf fs T).tmp t := by
  unfold tmpF
  rw [getP_path]
  show _ = (match T.get t with | some v => v | none => undef)
  cases T.get t <;> rfl
theorem rawF_eq (x : Operand) : rawF x T = (frOf fs T).raw x := by
  cases x with
  | tmp t => exact tmpF_eq t
  | _ => rfl
theorem valK_some {x : Operand} {k : Value → Ans} (h : valK x T k = some r) : ∃ v, (frOf fs T).val x = some v ∧ k v = some r := by
  cases x with
  | tmp t => exact ⟨_, rfl, by rw [← tmpF_eq (fs := fs)]; exact h⟩
  | const v =>
    obtain ⟨h1, h2⟩ := iteK_some h
    exact ⟨v, by show cond (plainD 8 v) (some v) none = some v; rw [h1]; rfl, h2⟩
  | global g => cases h
  | func f => exact ⟨_, rfl, h⟩
theorem valsK_some : ∀ {xs : List Operand} {k : List Value → Ans}, valsK xs T k = some r → ∃ vs, (frOf fs T).vals xs = some vs ∧ k vs = some r
  | [], k, h => ⟨[], rfl, h⟩
  | x :: xs, k, h => by
    have h : valK x T (fun v => valsK xs T (fun vs => k (v :: vs))) = some r := h
    obtain ⟨v, h1, h2⟩ := valK_some (fs := fs) h
    obtain ⟨vs, h3, h4⟩ := valsK_some h2
    exact ⟨v :: vs, by unfold Fr.vals; rw [h1, h3], h4⟩
theorem putF_eq (d : Option Tmp) (v : Value) : frOf fs (putF fs d v T) = (frOf fs T).put d v := by
  cases d with
  | none => rfl
  | some d =>
    show frOf fs (Bool.rec (motive := fun _ => Tri Value) T (setP (path d) v T) (Nat.blt d fs.sz)) = cond (Nat.blt d fs.sz) _ _
    rw [setP_path]
    cases Nat.blt d fs.sz <;> rfl

theorem intK_some {v : Value} {no : Ans} {yes : IntKind → Nat → Ans} (h : intK v no yes = some r) : (∃ k m, v = .int k (Int.ofNat m) ∧ yes k m = some r) ∨ no = some r := by
  cases v <;> try exact .inr h
  rename_i k n
  cases n with
  | ofNat m => exact .inl ⟨k, m, rfl, h⟩
  | negSucc m => exact .inr h
theorem boolK_some {v : Value} {yes : Bool → Ans} (h : boolK v none yes = some r) : ∃ b, v = .bool b ∧ yes b = some r := by
  cases v <;> first | exact ⟨_, rfl, h⟩ | cases h
theorem placeK_some {v : Value} {ptr : Nat → Nat → Ans} {sl : Nat → Nat → Nat → Ans} (h : placeK v none ptr sl = some r) :
    (∃ n off, v = .pointer (some ⟨n, off, none⟩) ∧ ptr n off = some r) ∨ ∃ n off len cap, v = .slice (some ⟨n, off, none⟩) len cap ∧ sl n off len = some r := by
  cases v <;> try (cases h; done)
  case pointer a =>
    cases a with
    | none => cases h
    | some a =>
      obtain ⟨n, off, sp⟩ := a
      cases sp with
      | some _ => cases h
      | none => exact .inl ⟨n, off, rfl, h⟩
  case slice a len cap =>
    cases a with
    | none => cases h
    | some a =>
      obtain ⟨n, off, sp⟩ := a
      cases sp with
      | some _ => cases h
      | none => exact .inr ⟨n, off, len, cap, rfl, h⟩
theorem ptrK_some {v : Value} {yes : Nat → Nat → Ans} (h : ptrK v none yes = some r) : ∃ n off, v = .pointer (some ⟨n, off, none⟩) ∧ yes n off = some r := by
  rcases placeK_some h with h | ⟨n, off, len, cap, _, h⟩
  · exact h
  · cases h
theorem tupK_some {v : Value} {yes : List Value → Ans} (h : tupK v none yes = some r) : ∃ vs, v = .tuple ⟨vs⟩ ∧ yes vs = some r := by
  cases v <;> try (cases h; done)
  rename_i vs
  exact ⟨vs.toList, rfl, h⟩
theorem funcK_some {v : Value} {yes : Fn → List Value → List Value → Ans} (h : funcK v none yes = some r) : ∃ f a b, v = .func f ⟨a⟩ ⟨b⟩ ∧ yes f a b = some r := by
  cases v <;> try (cases h; done)
  rename_i f a b
  exact ⟨f, a.toList, b.toList, rfl, h⟩
theorem cellsF_eq (v : Value) : cellsF v = v.cells.toList := by cases v <;> rfl
theorem cellsK_some {o : Option AObj} {yes : List Value → TypeId → Ans} (h : cellsK o yes = some r) : ∃ c e, o = some (.cells c e) ∧ yes c e = some r := by
  cases o with
  | none => cases h
  | some o => cases o <;> first | exact ⟨_, _, rfl, h⟩ | cases h
theorem loopK_some {o : Option AObj} {yes : LoopState → Option Code → Nat → Tri Value → List Tmp → Code → Code → Nat → Ans} (h : loopK o yes = some r) :
    ∃ st pe sz T ps as bo d, o = some (.loop st pe sz T ps as bo d) ∧ yes st pe sz T ps as bo d = some r := by
  cases o with
  | none => cases h
  | some o => cases o <;> first | exact ⟨_, _, _, _, _, _, _, _, rfl, h⟩ | cases h
theorem cellF_some : ∀ {c : List Value} {i : Nat} {yes : Value → Ans}, cellF c i none yes = some r → ∃ v, c[i]? = some v ∧ slots c i 1 = some [v] ∧ yes v = some r
  | [], i, yes, h => by cases h
  | v :: c, 0, yes, h => ⟨v, rfl, by unfold slots; cases c <;> rfl, h⟩
  | v :: c, i + 1, yes, h => by
    have h : cellF c i none yes = some r := h
    obtain ⟨u, h1, h2, h3⟩ := cellF_some h
    exact ⟨u, by simpa using h1, by unfold slots; exact h2, h3⟩

/-! ### Types -/
theorem info_of {t : TypeId} {i : TypeInfo} (h : getP (path t) (tyT P) = some i) : P.info? t = some i := by
  unfold tyT at h
  rw [triOf_get] at h
  have h2 : P.types[t]? = some i := by simpa using h
  unfold Tables.info?
  have h3 : P.toTables.types[t]? = some i := h2
  rw [h3, if_pos (Array.getElem?_eq_some_iff.1 h2).1]
theorem sizeT_some {t : TypeId} {k : Nat} (h : sizeT P t = some k) : pureRun P (sizeOf t) = some k := by
  unfold sizeT at h
  cases hi : getP (path t) (tyT P) with
  | none => rw [hi] at h; cases h
  | some i =>
    rw [hi] at h
    cases h
    have := info_of hi
    show pureRun P (Sem.bind (Sem.bind program _) _) = _
    simp only [program, Sem.bind, pureRun]
    rw [this]
    rfl
theorem descT_some {t : TypeId} {d : TypeDesc} (h : descT P t = some d) : pureRun P (underlying t) = some d := by
  have hu : P.underlying t = some d := by
    unfold descT at h
    unfold Program.underlying
    cases hi : getP (path t) (tyT P) with
    | none => rw [hi] at h; cases h
    | some i =>
      rw [hi] at h
      rw [info_of hi]
      dsimp only at h
      obtain ⟨desc, str, size, bytes, hp, al, fa, z, cm, ms⟩ := i
      cases desc <;> first
        | exact h
        | (rename_i nm u
           dsimp only at h ⊢
           cases hj : getP (path u) (tyT P) with
           | none => rw [hj] at h; cases h
           | some j => rw [hj] at h; rw [info_of hj]; exact h)
  show pureRun P (Sem.bind program _) = _
  simp only [program, Sem.bind, pureRun]
  rw [hu]
  rfl
theorem shapeT_some {t : TypeId} {s : Option Nat} (h : shapeT P t = some s) : (∀ n, s = some n → pureRun P (isAgg t) = some true ∧ pureRun P (sizeOf t) = some n) ∧ (s = none → pureRun P (isAgg t) = some false) := by
  unfold shapeT at h
  cases hd : descT P t with
  | none => rw [hd] at h; cases h
  | some d =>
    rw [hd] at h
    have hu := descT_some hd
    have agg : ∀ b, (match d with | .struct _ | .array _ _ => true | _ => false) = b → pureRun P (isAgg t) = some b := by
      intro b hb
      have : ∀ (s : Sem TypeDesc) (f : TypeDesc → Sem Bool), pureRun P s = some d → pureRun P (f d) = some b → pureRun P (s >>= f) = some b := by
        intro s
        induction s with
        | pure a => intro f h1 h2; cases h1; exact h2
        | program k ih => intro f h1 h2; exact ih P f h1 h2
        | _ => intro f h1 h2; cases h1
      unfold isAgg
      refine this _ _ hu ?_
      cases d <;> subst hb <;> rfl
    cases d <;> first
      | (cases h
         exact ⟨fun n e => (by cases e), fun _ => agg _ rfl⟩)
      | (dsimp only at h
         cases hs : sizeT P t with
         | none => rw [hs] at h; cases h
         | some n =>
           rw [hs] at h
           cases h
           exact ⟨fun m e => (by cases e; exact ⟨agg _ rfl, sizeT_some hs⟩), fun e => (by cases e)⟩)
theorem zeroT_some {t : TypeId} {z : Value} (h : zeroT P t = some z) : pureRun P (zeroValue t) = some z ∧ plainD 8 z = true := by
  unfold zeroT at h
  cases hi : getP (path t) (tyT P) with
  | none => rw [hi] at h; cases h
  | some i =>
    rw [hi] at h
    dsimp only at h
    cases hz : i.zero with
    | none => rw [hz] at h; cases h
    | some z' =>
      rw [hz] at h
      dsimp only at h
      cases hp : plainD 8 z' with
      | false => rw [hp] at h; cases h
      | true =>
        rw [hp] at h
        cases h
        refine ⟨?_, hp⟩
        show pureRun P (Sem.bind (Sem.bind program _) _) = _
        simp only [program, Sem.bind, pureRun]
        rw [info_of hi]
        simp only [Sem.bind, Pure.pure, hz]
        rfl
theorem fieldT_some {t : TypeId} {f d : Nat} (h : fieldT P t f = some d) : ∃ flds fd k, pureRun P (underlying t) = some (.struct flds) ∧ flds[f]? = some fd ∧ pureRun P (sizeOf fd.type) = some (k + 1) ∧ d = fd.offset := by
  unfold fieldT at h
  cases hd : descT P t with
  | none => rw [hd] at h; cases h
  | some ds =>
    rw [hd] at h
    cases ds <;> try (cases h; done)
    rename_i flds
    dsimp only at h
    cases hf : flds.toList[f]? with
    | none => rw [hf] at h; cases h
    | some fd =>
      rw [hf] at h
      dsimp only at h
      cases hs : sizeT P fd.type with
      | none => rw [hs] at h; cases h
      | some k =>
        rw [hs] at h
        cases k with
        | zero => cases h
        | succ k => cases h; exact ⟨flds, fd, k, descT_some hd, by simpa using hf, sizeT_some hs, rfl⟩
theorem elemT_some {t : TypeId} {a : Option Nat} {k : Nat} (h : elemT P t = some (a, k)) :
    (∃ n e, a = some n ∧ pureRun P (underlying t) = some (.array n e) ∧ pureRun P (sizeOf e) = some k) ∨ (∃ e, a = none ∧ pureRun P (underlying t) = some (.slice e) ∧ pureRun P (sizeOf e) = some k) := by
  unfold elemT at h
  cases hd : descT P t with
  | none => rw [hd] at h; cases h
  | some ds =>
    rw [hd] at h
    have hu := descT_some hd
    cases ds <;> try (cases h; done)
    · rename_i e
      dsimp only at h
      cases hs : sizeT P e with
      | none => rw [hs] at h; cases h
      | some j => rw [hs] at h; cases h; exact .inr ⟨e, rfl, hu, sizeT_some hs⟩
    · rename_i n e
      dsimp only at h
      cases hs : sizeT P e with
      | none => rw [hs] at h; cases h
      | some j => rw [hs] at h; cases h; exact .inl ⟨n, e, rfl, hu, sizeT_some hs⟩

end
end Go.Proofs.YtkiakphfgdkdiaaGreat
