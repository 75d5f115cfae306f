/-
  An evaluator for closed calls, part E: addresses, append.
-/
import Derived.Test.YtkiakphfgdkdiaaGreatEvD
import Derived.IntWalk
namespace Go.Proofs.YtkiakphfgdkdiaaGreat
open Go Go.RowKit
set_option linter.unusedVariables false

section
variable {P : Program} {N0 : Nat} {w0 : World} {σ : Ren} {w : World}

theorem natOf_some {v : Value} {i : Nat} (h : natOf v = some i) : ∃ k, v = .int k (i : Int) := by
  unfold natOf at h
  cases v <;> try (cases h; done)
  rename_i k n
  cases n with
  | ofNat m => cases h; exact ⟨k, rfl⟩
  | negSucc m => cases h
theorem VR.natOf {v v' : Value} {i : Nat} (r : VR σ v v') (h : natOf v = some i) : ∃ k, v' = .int k (i : Int) := by
  obtain ⟨k, rfl⟩ := natOf_some h
  cases r; exact ⟨k, rfl⟩

theorem fieldAddr_sim {s : TypeId} {x x' : Value} {f : Nat} (r : VR σ x x') : Sim P N0 w0 σ (fieldAddrM P s x f) (Instr.fieldAt s x' f) := by
  intro t v t' w h W
  unfold fieldAddrM at h
  cases r
  case ptr n off L hL =>
    dsimp only at h
    cases hd : pureRun P (underlying s) with
    | none => rw [hd] at h; cases h
    | some d =>
      rw [hd] at h
      cases d <;> try (cases h; done)
      rename_i fs
      dsimp only at h
      cases hf : fs[f]? with
      | none => rw [hf] at h; cases h
      | some fd =>
        rw [hf] at h
        dsimp only at h
        cases hk : pureRun P (sizeOf fd.type) with
        | none => rw [hk] at h; cases h
        | some k =>
          rw [hk] at h
          cases k with
          | zero => cases h
          | succ k =>
            cases M.pure_some h
            refine ⟨σ, _, w, σ.le_refl, ?_, .ptr n (off + fd.offset) L hL, W⟩
            simp only [Instr.fieldAt, Sem.run_bind, pureRun_run _ _ hd, Result.andThen_ok, hf, Instr.sureAddr, fieldPlace, pureRun_run _ _ hk, Sem.run_pure, add_at, Sem.run_ite, Nat.add_eq_zero_iff, Nat.succ_ne_self,
              Nat.add_one_ne_zero, if_false, Nat.add_assoc]
  all_goals cases h

theorem indexAddr_sim {t : TypeId} {x x' i i' : Value} (r : VR σ x x') (ri : VR σ i i') : Sim P N0 w0 σ (indexAddrM P t x i) (Instr.indexAt t x' i') := by
  intro s v s' w h W
  unfold indexAddrM at h
  cases hn : natOf i with
  | none => rw [hn] at h; cases h
  | some j =>
    rw [hn] at h
    obtain ⟨kd, rfl⟩ := ri.natOf hn
    cases r
    case ptr n off L hL =>
      dsimp only at h
      cases hd : pureRun P (underlying t) with
      | none => rw [hd] at h; cases h
      | some d =>
        rw [hd] at h
        cases d <;> try (cases h; done)
        rename_i len elem
        dsimp only at h
        cases hk : pureRun P (sizeOf elem) with
        | none => rw [hk] at h; cases h
        | some k =>
          rw [hk] at h
          dsimp only at h
          cases hb : Nat.blt j len with
          | false => rw [hb] at h; cases h
          | true =>
            rw [hb] at h
            cases M.pure_some h
            have hlt : j < len := Nat.le_of_ble_eq_true hb
            refine ⟨σ, _, w, σ.le_refl, ?_, .ptr n (off + j * k) L hL, W⟩
            simp [Instr.indexAt, asIntOf, pureRun_run _ _ hd, Instr.sureAddr, pureRun_run _ _ hk, add_at, hlt, Nat.add_assoc]
    case sl n off len cap L hL hc =>
      dsimp only at h
      cases hd : pureRun P (underlying t) with
      | none => rw [hd] at h; cases h
      | some d =>
        rw [hd] at h
        cases d <;> try (cases h; done)
        rename_i elem
        dsimp only at h
        cases hk : pureRun P (sizeOf elem) with
        | none => rw [hk] at h; cases h
        | some k =>
          rw [hk] at h
          dsimp only at h
          cases hb : Nat.blt j len with
          | false => rw [hb] at h; cases h
          | true =>
            rw [hb] at h
            cases M.pure_some h
            have hlt : j < len := Nat.le_of_ble_eq_true hb
            refine ⟨σ, _, w, σ.le_refl, ?_, .ptr n (off + j * k) L hL, W⟩
            simp [Instr.indexAt, asIntOf, pureRun_run _ _ hd, Instr.sureAddr, pureRun_run _ _ hk, add_at, hlt, Nat.add_assoc]
    case opn n off len cap L hL hl hz =>
      dsimp only at h
      cases hd : pureRun P (underlying t) with
      | none => rw [hd] at h; cases h
      | some d =>
        rw [hd] at h
        cases d <;> try (cases h; done)
        rename_i elem
        dsimp only at h
        cases hk : pureRun P (sizeOf elem) with
        | none => rw [hk] at h; cases h
        | some k =>
          rw [hk] at h
          dsimp only at h
          cases hb : Nat.blt j len with
          | false => rw [hb] at h; cases h
          | true =>
            rw [hb] at h
            cases M.pure_some h
            have hlt : j < len := Nat.le_of_ble_eq_true hb
            refine ⟨σ, _, w, σ.le_refl, ?_, .ptr n (off + j * k) L hL, W⟩
            simp [Instr.indexAt, asIntOf, pureRun_run _ _ hd, Instr.sureAddr, pureRun_run _ _ hk, add_at, hlt, Nat.add_assoc]
    all_goals cases h

theorem index_sim {t : TypeId} {x x' i i' : Value} (r : VR σ x x') (ri : VR σ i i') : Sim P N0 w0 σ (indexM P t x i) (Instr.index t x' i') := by
  intro s v s' w h W
  unfold indexM at h
  cases hn : natOf i with
  | none => rw [hn] at h; cases h
  | some j =>
    rw [hn] at h
    obtain ⟨kd, rfl⟩ := ri.natOf hn
    cases r
    case agg xs ys h1 h2 =>
      obtain ⟨xs⟩ := xs
      dsimp only at h
      cases hd : pureRun P (underlying t) with
      | none => rw [hd] at h; cases h
      | some d =>
        rw [hd] at h
        cases d <;> try (cases h; done)
        rename_i len elem
        dsimp only at h
        cases hk : pureRun P (sizeOf elem) with
        | none => rw [hk] at h; cases h
        | some k =>
          rw [hk] at h
          cases ha : pureRun P (isAgg elem) with
          | none => rw [ha] at h; cases k <;> first | cases h | (rename_i k; cases k <;> cases h)
          | some b =>
            rw [ha] at h
            cases k with
            | zero => cases h
            | succ k =>
              cases k with
              | succ k => cases h
              | zero =>
                cases b with
                | true => cases h
                | false =>
                  cases hb : Nat.blt j len with
                  | false => rw [hb] at h; cases h
                  | true =>
                    rw [hb] at h
                    have hlt : j < len := Nat.le_of_ble_eq_true hb
                    obtain ⟨q, hq, e⟩ := M.ofO_some h
                    cases e
                    obtain ⟨y, hy, hr⟩ := LR.get (σ := σ) (xs := xs) (ys := ys.toList) ⟨h1, h2⟩ hq
                    have hy' : ys[j]? = some y := by simpa using hy
                    refine ⟨σ, y, w, σ.le_refl, ?_, hr, W⟩
                    simp [Instr.index, asIntOf, pureRun_run _ _ hd, pureRun_run _ _ hk, part, pureRun_run _ _ ha, hlt, hy']
    all_goals (first | cases h | (dsimp only at h; cases h))

theorem unit_of_size {e : TypeId} {k : Nat} (h : pureRun P (sizeOf e) = some k) : unitOf P e = some k := by
  unfold sizeOf typeInfo at h
  change pureRun P (Sem.bind (Sem.bind program _) _) = some k at h
  simp only [program, Sem.bind, pureRun] at h
  unfold unitOf
  cases hi : P.info? e with
  | none => rw [hi] at h; cases h
  | some i => rw [hi] at h; cases h; rfl

theorem zerosOf_length (z : List Value) : ∀ n, (zerosOf z n).length = n * z.length
  | 0 => by simp [zerosOf]
  | n + 1 => by simp [zerosOf, zerosOf_length z n, Nat.add_mul, Nat.add_comm]
theorem zerosOf_get (z : List Value) : ∀ n i, i < n * z.length → (zerosOf z n)[i]? = z[i % z.length]?
  | 0, i, h => by omega
  | n + 1, i, h => by
    unfold zerosOf
    by_cases hi : i < z.length
    · rw [List.getElem?_append_left hi, Nat.mod_eq_of_lt hi]
    · rw [List.getElem?_append_right (by omega), zerosOf_get z n _ (by rw [Nat.add_mul] at h; omega)]
      congr 1
      conv => rhs; rw [show i = (i - z.length) + z.length by omega, Nat.add_mod_right]
theorem zeroCells_eq (z : Array Value) (n : Nat) : Builtin.zeroCells z n = (zerosOf z.toList n).toArray := by
  apply Array.ext'
  apply List.ext_getElem?
  intro i
  unfold Builtin.zeroCells
  by_cases hi : i < n * z.size
  · have h0 : 0 < z.size := by
      rcases Nat.eq_zero_or_pos z.size with h | h
      · rw [h] at hi; omega
      · exact h
    have hm : i % z.size < z.size := Nat.mod_lt _ h0
    rw [zerosOf_get z.toList n i (by simpa using hi)]
    simp [hi, hm]
  · rw [List.getElem?_eq_none (by simp; omega), List.getElem?_eq_none (by rw [zerosOf_length]; simp; omega)]

theorem LR_plain {l : List Value} {d : Nat} (h : ∀ x ∈ l, plainD d x = true) : LR σ l l :=
  ⟨rfl, fun i x y hx hy => by rw [hx] at hy; cases hy; exact plain_self σ (h x (List.mem_of_getElem? hx))⟩
theorem mem_zerosOf {z : List Value} {x : Value} : ∀ {n}, x ∈ zerosOf z n → x ∈ z
  | 0, h => by cases h
  | n + 1, h => by
    unfold zerosOf at h
    rcases List.mem_append.1 h with h | h
    · exact h
    · exact mem_zerosOf h
theorem plain_cells {z : Value} {d : Nat} (h : plainD d z = true) : ∀ x ∈ z.cells.toList, ∃ d, plainD d x = true := by
  intro x hx
  cases z <;> first
    | (simp [Value.cells] at hx; subst hx; exact ⟨d, h⟩)
    | skip
  rename_i cs
  cases d with
  | zero => unfold plainD at h; cases h
  | succ d =>
    unfold plainD at h
    exact ⟨d, (plain_both (fun _ => none) d).2 cs.toList h x hx⟩
theorem zeros_LR {z : Value} {d : Nat} (h : plainD d z = true) (n : Nat) : LR σ (zerosOf z.cells.toList n) (zerosOf z.cells.toList n) :=
  ⟨rfl, fun i x y hx hy => by
    rw [hx] at hy; cases hy
    obtain ⟨d', h'⟩ := plain_cells h x (mem_zerosOf (List.mem_of_getElem? hx))
    exact plain_self σ h'⟩

/-- What is appended. -/
theorem appended_ok {elem : TypeId} {k : Nat} {zeros : Bool} {x x' : Value} {s s' : HS} {n : Nat} {new : List Value} (h : appendedM P elem k zeros x s = some ((n, new), s')) (W : WR P N0 w0 σ s.h.get w) (r : VR σ x x') :
    s'.h = s.h ∧ ∃ new', LR σ new new' ∧ new.length = n * k ∧
      (zeros = false → (Builtin.lenOf x').run P w = .ok n w ∧ ∀ w1 : World, (∀ a, w1.cell? a = w.cell? a) → (Builtin.firstCells k n x').run P w1 = .ok ⟨new'⟩ w1) ∧
      (zeros = true → ∃ kd z, x' = .int kd (n : Int) ∧ n ≤ 100000 ∧ pureRun P (zeroValue elem) = some z ∧ Builtin.zeroCells z.cells n = ⟨new'⟩) := by
  unfold appendedM at h
  cases zeros with
  | true =>
    dsimp only at h
    cases hn : natOf x with
    | none => rw [hn] at h; cases h
    | some m =>
      rw [hn] at h
      cases hz : pureRun P (zeroValue elem) with
      | none => rw [hz] at h; cases h
      | some z =>
        rw [hz] at h
        dsimp only at h
        cases hb : (plainD 8 z && Nat.beq z.cells.toList.length k && Nat.ble m 100000) with
        | false => rw [hb] at h; cases h
        | true =>
          rw [hb] at h
          simp only [Bool.and_eq_true] at hb
          obtain ⟨⟨hb1, hb2⟩, hb3⟩ := hb
          have hb2 := Nat.eq_of_beq_eq_true hb2
          cases M.pure_some h
          obtain ⟨kd, rfl⟩ := r.natOf hn
          refine ⟨rfl, zerosOf z.cells.toList n, zeros_LR hb1 _, by rw [zerosOf_length, hb2], fun e => (by cases e), fun _ => ⟨kd, z, rfl, Nat.le_of_ble_eq_true hb3, rfl, by rw [zeroCells_eq]⟩⟩
  | false =>
    cases r
    case nils len cap =>
      cases len with
      | succ len => cases h
      | zero =>
        cases M.pure_some h
        exact ⟨rfl, [], .nil σ, by simp, fun _ => ⟨rfl, fun w1 _ => rfl⟩, fun e => by cases e⟩
    case emp a cap =>
      cases M.pure_some h
      exact ⟨rfl, [], .nil σ, by simp, fun _ => ⟨rfl, fun w1 _ => by simp [Builtin.firstCells, loadCells, loadCellsFrom]⟩, fun e => by cases e⟩
    case sl b off len cap L hL hc =>
      have h : ((mRead b off (len * k)).bind fun l => M.pure (len, l)) s = some ((n, new), s') := by
        cases len <;> exact h
      obtain ⟨l, s1, h1, h2⟩ := M.bind_some h
      cases M.pure_some h2
      obtain ⟨e1, hlen, l', hLR, hcell⟩ := read_ok h1 W hL
      refine ⟨e1, l', hLR, hlen, fun _ => ⟨rfl, fun w1 hw1 => ?_⟩, fun e => by cases e⟩
      have hr := run_cells (P := P) (w := w1) (b := L.b) (o := L.s + off) (l' := l') (fun i v' hv => by rw [hw1]; exact hcell i v' hv)
      rw [← hLR.1, hlen] at hr
      exact hr
    case opn b off len cap L hL hl hz =>
      have h : ((mRead b off (len * k)).bind fun l => M.pure (len, l)) s = some ((n, new), s') := by
        cases len <;> exact h
      obtain ⟨l, s1, h1, h2⟩ := M.bind_some h
      cases M.pure_some h2
      obtain ⟨e1, hlen, l', hLR, hcell⟩ := read_ok h1 W hL
      refine ⟨e1, l', hLR, hlen, fun _ => ⟨rfl, fun w1 hw1 => ?_⟩, fun e => by cases e⟩
      have hr := run_cells (P := P) (w := w1) (b := L.b) (o := L.s + off) (l' := l') (fun i v' hv => by rw [hw1]; exact hcell i v' hv)
      rw [← hLR.1, hlen] at hr
      exact hr
    case str q =>
      dsimp only at h
      cases hb : Nat.beq k 1 with
      | false => rw [hb] at h; cases h
      | true =>
        rw [hb] at h
        have hk := Nat.eq_of_beq_eq_true hb
        subst hk
        cases M.pure_some h
        refine ⟨rfl, q.data.toList.map fun b => .int .u8 b.toNat, ⟨rfl, fun i x y hx hy => ?_⟩, by simp, fun _ => ⟨?_, fun w1 _ => ?_⟩, fun e => by cases e⟩
        · rw [hx] at hy; cases hy
          simp at hx
          obtain ⟨b, _, rfl⟩ := hx
          exact .int _ _
        · show Result.ok q.size w = Result.ok q.data.toList.length w
          rfl
        · have e : (q.extract 0 q.data.toList.length) = q := by
            have : q.data.toList.length = q.size := rfl
            rw [this]
            exact ByteArray.extract_zero_size
          simp only [Builtin.firstCells, e, Sem.run_pure]
          congr 1
          apply Array.ext'
          simp
    all_goals cases h

end
end Go.Proofs.YtkiakphfgdkdiaaGreat
