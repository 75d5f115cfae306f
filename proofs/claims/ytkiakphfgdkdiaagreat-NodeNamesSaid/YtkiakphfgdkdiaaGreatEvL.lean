/-
  An evaluator for closed calls, part L: structs and slices that are built; maps.
-/
import Derived.Test.YtkiakphfgdkdiaaGreatEvK
namespace Go.Proofs.YtkiakphfgdkdiaaGreat
open Go Go.RowKit
set_option linter.unusedVariables false

section
variable {P : Program} {N0 : Nat} {w0 : World} {σ : Ren} {w : World}

theorem foldl_over (off : Nat) : ∀ (xs : List Value) (k : Nat) (cells : Array Value), (xs.zipIdx k).foldl (fun cs (p : Value × Nat) => cs.setIfInBounds (off + p.2) p.1) cells = ⟨over cells.toList (off + k) xs⟩ := by
  intro xs
  induction xs with
  | nil =>
    intro k cells
    have : over cells.toList (off + k) [] = cells.toList := by unfold over; cases cells.toList <;> rfl
    simp [this]
  | cons x xs ih =>
    intro k cells
    simp only [List.zipIdx_cons, List.foldl_cons, ih]
    congr 1
    apply List.ext_getElem?
    intro i
    rw [over_get, over_get]
    simp only [Array.toList_setIfInBounds, List.length_set, List.length_cons, List.getElem?_set]
    by_cases h1 : off + (k + 1) ≤ i ∧ i < off + (k + 1) + xs.length ∧ i < cells.toList.length
    · rw [if_pos h1, if_pos (by omega), show i - (off + k) = (i - (off + (k + 1))) + 1 by omega, List.getElem?_cons_succ]
    · rw [if_neg h1]
      by_cases h2 : off + k = i
      · subst h2
        by_cases h3 : off + k < cells.toList.length
        · rw [if_pos rfl, if_pos h3, if_pos (by omega)]; simp
        · rw [if_pos rfl, if_neg h3, if_neg (by omega), List.getElem?_eq_none (by omega)]
      · rw [if_neg h2, if_neg (by omega)]

/-- Parts, and what they stand for. -/
def PR (σ : Ren) : List (Nat × Value) → List (Nat × Value) → Prop
  | [], [] => True
  | (i, v) :: l, (j, u) :: k => i = j ∧ VR σ v u ∧ PR σ l k
  | _, _ => False

theorem over_LR {xs ys cs ds : List Value} (h : LR σ xs ys) (hc : LR σ cs ds) (off : Nat) : LR σ (over cs off xs) (over ds off ys) := by
  refine ⟨by rw [over_length, over_length, hc.1], fun i x y hx hy => ?_⟩
  rw [over_get] at hx hy
  rw [← h.1, ← hc.1] at hy
  by_cases hi : off ≤ i ∧ i < off + xs.length ∧ i < cs.length
  · rw [if_pos hi] at hx hy; exact h.2 _ x y hx hy
  · rw [if_neg hi] at hx hy; exact hc.2 _ x y hx hy

theorem fill_ok {place : Nat → Option (Nat × Nat)} : ∀ {ps qs : List (Nat × Value)} {cs ds l : List Value}, PR σ ps qs → LR σ cs ds → fillL place cs ps = some l → ∃ l', Instr.fill place ⟨ds⟩ qs = some ⟨l'⟩ ∧ LR σ l l'
  | [], [], cs, ds, l, _, hc, h => by cases h; exact ⟨ds, rfl, hc⟩
  | (i, v) :: ps, (j, u) :: qs, cs, ds, l, hp, hc, h => by
    obtain ⟨rfl, hv, hp⟩ := hp
    unfold fillL at h
    cases he : place i with
    | none => rw [he] at h; cases h
    | some p =>
      obtain ⟨off, size⟩ := p
      rw [he] at h
      dsimp only at h
      have hcl := cells_LR hv
      cases hb : (Nat.beq v.cells.toList.length size && Nat.ble (off + size) cs.length) with
      | false => rw [hb] at h; cases h
      | true =>
        rw [hb] at h
        simp only [Bool.and_eq_true] at hb
        have h1 := Nat.eq_of_beq_eq_true hb.1
        have h2 := Nat.le_of_ble_eq_true hb.2
        obtain ⟨l', h3, h4⟩ := fill_ok hp (over_LR hcl hc off) h
        refine ⟨l', ?_, h4⟩
        unfold Instr.fill
        rw [he]
        have hsz : u.cells.size = size := by rw [← Array.length_toList, ← hcl.1, h1]
        have hno : (decide (u.cells.size ≠ size) || decide (off + u.cells.size > (⟨ds⟩ : Array Value).size)) = false := by
          have : ds.length = cs.length := hc.1.symm
          simp [hsz, this]; omega
        simp only [hno]
        rw [← h3]
        have hfo := foldl_over off u.cells.toList 0 ⟨ds⟩
        simp only [Nat.add_zero] at hfo
        have hfa : (u.cells.zipIdx.foldl (fun (cs : Array Value) (p : Value × Nat) => cs.setIfInBounds (off + p.2) p.1) (⟨ds⟩ : Array Value)) = ⟨over ds off u.cells.toList⟩ := by
          rw [← Array.foldl_toList, Array.toList_zipIdx]; exact hfo
        show Instr.fill place (u.cells.zipIdx.foldl (fun (cs : Array Value) (p : Value × Nat) => cs.setIfInBounds (off + p.2) p.1) (⟨ds⟩ : Array Value)) qs = _
        rw [hfa]
  | [], _ :: _, _, _, _, hp, _, _ => hp.elim
  | _ :: _, [], _, _, _, hp, _, _ => hp.elim

theorem parts_PR {fr : Fr} {a : Act} (r : FrR σ fr a) : ∀ {l : List (Nat × Operand)} {ps : List (Nat × Value)}, partsOf fr l = some ps → PR σ ps (l.map fun p => (p.1, a.eval p.2))
  | [], ps, h => by cases h; trivial
  | (i, x) :: l, ps, h => by
    unfold partsOf at h
    cases hv : fr.val x with
    | none => rw [hv] at h; cases h
    | some v =>
      rw [hv] at h
      dsimp only at h
      cases hl : partsOf fr l with
      | none => rw [hl] at h; cases h
      | some vs => rw [hl] at h; cases h; exact ⟨rfl, r.val hv, parts_PR r hl⟩

theorem places_run : ∀ {fs : List Field} {ps : List (Nat × Nat)}, placesOf P fs = some ps → (fs.mapM fun f => do pure (f.offset, ← sizeOf f.type) : Sem (List (Nat × Nat))).run P w = .ok ps w
  | [], ps, h => by cases h; simp
  | f :: fs, ps, h => by
    unfold placesOf at h
    cases hk : pureRun P (sizeOf f.type) with
    | none => rw [hk] at h; cases h
    | some k =>
      rw [hk] at h
      dsimp only at h
      cases hl : placesOf P fs with
      | none => rw [hl] at h; cases h
      | some qs =>
        rw [hl] at h
        cases h
        simp only [List.mapM_cons, Sem.run_bind, pureRun_run _ _ hk, Result.andThen_ok, Sem.run_pure, places_run hl]

theorem build_ok {t : TypeId} {ps qs : List (Nat × Value)} {v : Value} (h : buildO P t ps = some v) (hp : PR σ ps qs) (w : World) : ∃ v', (Instr.build t qs.toArray).run P w = .ok v' w ∧ VR σ v v' := by
  unfold buildO at h
  cases hz : pureRun P (zeroValue t) with
  | none => rw [hz] at h; cases h
  | some z =>
  rw [hz] at h
  dsimp only at h
  cases hpz : plainD 8 z with
  | false => rw [hpz] at h; cases h
  | true =>
  rw [hpz] at h
  simp only [cond_true] at h
  have hzc : LR σ z.cells.toList z.cells.toList := cells_LR (plain_self σ hpz)
  cases hd : pureRun P (underlying t) with
  | none => rw [hd] at h; cases h
  | some d =>
  rw [hd] at h
  cases d <;> try (cases h; done)
  case struct fs =>
    dsimp only at h
    cases hq : placesOf P fs.toList with
    | none => rw [hq] at h; cases h
    | some pl =>
      rw [hq] at h
      dsimp only at h
      cases hf : fillL (fun i => pl[i]?) z.cells.toList ps with
      | none => rw [hf] at h; cases h
      | some l =>
        rw [hf] at h
        cases h
        obtain ⟨l', h1, h2⟩ := fill_ok hp hzc hf
        refine ⟨.agg ⟨l'⟩, ?_, .agg _ _ h2.1 h2.2⟩
        have hpl : (fs.mapM fun f => do pure (f.offset, ← sizeOf f.type) : Sem (Array (Nat × Nat))).run P w = .ok pl.toArray w := by
          rw [Array.mapM_eq_mapM_toList]
          simp only [Sem.run_map, places_run hq, Result.andThen_ok]
        have e1 : (fun i : Nat => pl.toArray[i]?) = fun i : Nat => pl[i]? := by funext i; simp
        simp only [Instr.build, Sem.run_bind, pureRun_run _ _ hz, pureRun_run _ _ hd, Result.andThen_ok, hpl, e1, h1, Sem.run_pure]
  case array n elem =>
    dsimp only at h
    cases hk : pureRun P (sizeOf elem) with
    | none => rw [hk] at h; cases h
    | some k =>
      rw [hk] at h
      dsimp only at h
      cases hf : fillL (fun i => some (i * k, k)) z.cells.toList ps with
      | none => rw [hf] at h; cases h
      | some l =>
        rw [hf] at h
        cases h
        obtain ⟨l', h1, h2⟩ := fill_ok hp hzc hf
        refine ⟨.agg ⟨l'⟩, ?_, .agg _ _ h2.1 h2.2⟩
        simp only [Instr.build, Sem.run_bind, pureRun_run _ _ hz, pureRun_run _ _ hd, Result.andThen_ok, pureRun_run _ _ hk, h1, Sem.run_pure]

theorem buildSlice_sim {t : TypeId} {len : Nat} {ps qs : List (Nat × Value)} (hp : PR σ ps qs) : Sim P N0 w0 σ (buildSliceM P t len ps) (Instr.buildSlice t len qs.toArray) := by
  intro s v s' w h W
  unfold buildSliceM at h
  cases hd : pureRun P (underlying t) with
  | none => rw [hd] at h; cases h
  | some d =>
  rw [hd] at h
  cases d <;> try (cases h; done)
  rename_i elem
  dsimp only at h
  cases hk : pureRun P (sizeOf elem) with
  | none => rw [hk] at h; cases h
  | some k0 =>
  rw [hk] at h
  cases k0 with
  | zero => cases hz : pureRun P (zeroValue elem) <;> (rw [hz] at h; cases h)
  | succ k' =>
  cases hz : pureRun P (zeroValue elem) with
  | none => rw [hz] at h; cases h
  | some z =>
  rw [hz] at h
  dsimp only at h
  cases hb : (plainD 8 z && Nat.beq z.cells.toList.length (k' + 1) && Nat.ble (len * (k' + 1)) 1000000) with
  | false => rw [hb] at h; cases h
  | true =>
  rw [hb] at h
  simp only [cond_true] at h
  simp only [Bool.and_eq_true] at hb
  obtain ⟨⟨b1, b2⟩, b3⟩ := hb
  have b2 := Nat.eq_of_beq_eq_true b2
  have b3 := Nat.le_of_ble_eq_true b3
  have hu := unit_of_size hk
  cases hf : fillL (fun i => some (i * (k' + 1), k' + 1)) (zerosOf z.cells.toList len) ps with
  | none => rw [hf] at h; cases h
  | some l =>
    rw [hf] at h
    obtain ⟨n, s1, h1, h2⟩ := M.bind_some h
    cases M.pure_some h2
    obtain ⟨l', h3, h4⟩ := fill_ok hp (zeros_LR b1 len) hf
    obtain ⟨τ, hle, hn, hW⟩ := newCells_ok h1 W h4 []
    have hlen : len ≠ SENT := by
      intro e
      have : len * 1 ≤ len * (k' + 1) := Nat.mul_le_mul_left _ (by omega)
      rw [e] at this b3
      have h9 : SENT = 18446744073709551616 := rfl
      omega
    refine ⟨τ, .slice (some ⟨w.heap.size, 0, none⟩) len len, _, hle, ?_, .sl n 0 len len _ hn hlen, hW⟩
    have hsz : z.cells.size = k' + 1 := by rw [← Array.length_toList]; exact b2
    have hbig : ¬ (len * (k' + 1) > 2 ^ 24) := by omega
    have hc0 : len * (k' + 1) = 0 → (Array.range (len * (k' + 1))).map (fun x => (#[] : Array Value)[x % (#[] : Array Value).size]!) = (zerosOf z.cells.toList len).toArray := by
      intro h0
      have hl : len = 0 := by
        rcases Nat.mul_eq_zero.1 h0 with h | h
        · exact h
        · omega
      subst hl
      simp [zerosOf]
    have hc1 : (Array.range (len * (k' + 1))).map (fun x => z.cells[x % z.cells.size]!) = (zerosOf z.cells.toList len).toArray := by
      rw [← hsz, ← zeroCells_eq]; rfl
    have hnew : (⟨l'⟩ : Array Value) = (l' ++ []).toArray := by simp
    have h3' : Instr.fill (fun i => some (i * (k' + 1), k' + 1)) (zerosOf z.cells.toList len).toArray qs = some ⟨l'⟩ := h3
    simp only [Instr.buildSlice, Sem.run_bind, pureRun_run _ _ hd, pureRun_run _ _ hk, Result.andThen_ok, Sem.run_ite, hbig, if_false, Sem.run_pure, pureRun_run _ _ hz]
    by_cases h0 : len * (k' + 1) = 0
    · rw [if_pos h0, hc0 h0]
      simp only [h3', newRow, Sem.run_bind, run_newObj, Result.andThen_ok, Sem.run_pure, ← hnew]
    · rw [if_neg h0, hc1]
      simp only [h3', newRow, Sem.run_bind, run_newObj, Result.andThen_ok, Sem.run_pure, ← hnew]

end
end Go.Proofs.YtkiakphfgdkdiaaGreat
