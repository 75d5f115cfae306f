/-
  An evaluator for closed calls, part J: conversions, comparisons with nil, len, cap, clear, building.
-/
import Derived.Test.YtkiakphfgdkdiaaGreatEvI
namespace Go.Proofs.YtkiakphfgdkdiaaGreat
open Go Go.RowKit
set_option linter.unusedVariables false

section
variable {P : Program} {N0 : Nat} {w0 : World} {σ : Ren} {w : World}

/-- An operation whose meaning is a value's. -/
theorem pure_sim {fr : Fr} {a : Act} (rf : FrR σ fr a) {o : Oper} (hs : ∀ cs b, o.op ≠ .select cs b) {c : Sem Value} (hc : execOp a.eval o = (do pure (.value (← c)))) :
    Sim P N0 w0 σ (.ofO (opPure P fr o)) c := by
  intro s q s' w h W
  obtain ⟨u, hu, e⟩ := M.ofO_some h
  cases e
  obtain ⟨h1, h2⟩ := opPure_ok (P := P) rf hs hu w
  refine ⟨σ, q, w, σ.le_refl, ?_, h2, W⟩
  rw [hc] at h1
  simp only [Sem.run_bind] at h1
  cases hr : c.run P w with
  | ok y w1 => rw [hr] at h1; simp at h1; rw [h1.1, h1.2]
  | halt y w1 => rw [hr] at h1; simp at h1

theorem bytes_fold : ∀ (l : List Value) (acc b : ByteArray), bytesOfCells l acc = some b → ∃ ns : List Int, l = ns.map (Value.int .u8) ∧ b = ns.foldl (fun r n => r.push (UInt8.ofNat n.toNat)) acc
  | [], acc, b, h => by cases h; exact ⟨[], rfl, rfl⟩
  | v :: l, acc, b, h => by
    unfold bytesOfCells at h
    cases v <;> try (cases h; done)
    rename_i k n
    cases k <;> try (cases h; done)
    obtain ⟨ns, h1, h2⟩ := bytes_fold _ _ _ h
    exact ⟨n :: ns, by rw [h1]; rfl, h2⟩

theorem LR_ints {ns : List Int} {l' : List Value} (h : LR σ (ns.map (Value.int .u8)) l') : l' = ns.map (Value.int .u8) := by
  apply List.ext_getElem?
  intro i
  by_cases hi : i < ns.length
  · have hx : (ns.map (Value.int .u8))[i]? = some (.int .u8 ns[i]) := by simp [hi]
    obtain ⟨y, hy, hr⟩ := h.get hx
    cases hr
    rw [hy, hx]
  · rw [List.getElem?_eq_none (by rw [← h.1]; simp; omega), List.getElem?_eq_none (by simp; omega)]

theorem convert_sim {fr : Fr} {a : Act} (rf : FrR σ fr a) {o : Oper} {src dst : TypeId} {x : Operand} (ho : o.op = .convert src dst x) {v v' : Value} (r : VR σ v v') (hv : v' = a.eval x) :
    Sim P N0 w0 σ (convertM P fr o src dst v) (convert src dst v') := by
  have hpure : Sim P N0 w0 σ (.ofO (opPure P fr o)) (convert src dst v') := pure_sim rf (fun cs b => by rw [ho]; intro e; cases e) (by simp only [execOp, ho, hv])
  intro s q s' w h W
  unfold convertM at h
  cases hs : pureRun P (underlying src) with
  | none => rw [hs] at h; exact hpure s q s' w h W
  | some sd =>
  rw [hs] at h
  cases hd : pureRun P (underlying dst) with
  | none => rw [hd] at h; exact hpure s q s' w (by cases sd <;> exact h) W
  | some dd =>
  rw [hd] at h
  by_cases c1 : sd = .string ∧ ∃ e, dd = .slice e
  · obtain ⟨rfl, e, rfl⟩ := c1
    cases r
    case str b =>
      dsimp only at h
      cases he : pureRun P (underlying e) with
      | none => rw [he] at h; cases h
      | some ed =>
      rw [he] at h
      cases hk : pureRun P (sizeOf e) with
      | none => rw [hk] at h; cases ed <;> first | cases h | (rename_i k; cases k <;> cases h)
      | some k =>
      rw [hk] at h
      by_cases c2 : ed = .int .u8 ∧ k = 1
      · obtain ⟨rfl, rfl⟩ := c2
        cases hb : Nat.ble b.size 1000000000 with
        | false => rw [hb] at h; cases h
        | true =>
        rw [hb] at h
        obtain ⟨n, s1, h1, h2⟩ := M.bind_some h
        cases M.pure_some h2
        have hu := unit_of_size hk
        obtain ⟨c, hc, hch⟩ := choose_cap (P := P) (w := w) (need := b.size) (old := 0) (e := e)
        have hself : LR σ (b.data.toList.map fun (x : UInt8) => Value.int .u8 x.toNat) (b.data.toList.map fun (x : UInt8) => Value.int .u8 x.toNat) :=
          ⟨rfl, fun i x y hx hy => by
            rw [hx] at hy; cases hy
            simp at hx
            obtain ⟨z, _, rfl⟩ := hx
            exact .int _ _⟩
        have hlen : (b.data.toList.map fun (x : UInt8) => Value.int .u8 x.toNat).length = b.size := by simp
        let cells : List Value := (b.data.toList.map fun (x : UInt8) => Value.int .u8 x.toNat) ++ List.replicate (c - b.size) (Value.int .u8 0)
        have hcl : cells.length = c := by
          show ((b.data.toList.map fun (x : UInt8) => Value.int .u8 x.toNat) ++ List.replicate (c - b.size) (Value.int .u8 0)).length = c
          rw [List.length_append, hlen, List.length_replicate]; omega
        obtain ⟨τ, hle, hn, hW⟩ := new_ok (w := { w with drawn := w.drawn + 1 }) h1 W.drew (.cells cells.toArray e (c, c + 1)) c 1 (fun τ hτ => by
          refine ⟨by simp [hcl], by simp only [Nat.zero_add]; rw [hlen]; omega, fun i v hv => ?_, fun i hi => by simp [hcl] at hi; omega, fun k hk' => by rw [hu] at hk'; cases hk'; rfl⟩
          obtain ⟨y, hy, hr⟩ := hself.get hv
          refine ⟨y, ?_, hr.mono hτ⟩
          have hi : i < b.size := by rw [← hlen]; exact (List.getElem?_eq_some_iff.1 hy).1
          simp only [List.getElem?_toArray, Nat.zero_add]
          show ((b.data.toList.map fun (x : UInt8) => Value.int .u8 x.toNat) ++ List.replicate (c - b.size) (Value.int .u8 0))[i]? = _
          rw [List.getElem?_append_left (by rw [hlen]; exact hi)]; exact hy)
        have hsz : b.data.toList.length = b.size := rfl
        refine ⟨τ, .slice (some ⟨w.heap.size, 0, none⟩) b.size c, _, hle, ?_, ?_, hW⟩
        · simp only [convert, Sem.run_bind, pureRun_run _ _ hs, pureRun_run _ _ hd, pureRun_run _ _ he, Result.andThen_ok, Conv.stringToBytes, hch, newRow, run_newObj, Sem.run_pure]
          have harr : (b.data.map fun (x : UInt8) => Value.int .u8 x.toNat) ++ Array.replicate (c - b.size) (Value.int .u8 0) = cells.toArray := by
            apply Array.ext'
            simp [cells]
          rw [harr]
          simp only [markStringish, Sem.run_bind, run_shape, Result.andThen_ok]
          have hsh : ({ heap := w.heap.push (.cells cells.toArray e), tape := w.tape, drawn := w.drawn + 1, os := w.os, output := w.output } : World).shape? w.heap.size = some (e, c) := by
            simp [World.shape?, hcl]
          rw [hsh]
          simp only [run_freeze, Result.andThen_ok]
          congr 1
          unfold World.freeze
          simp only [Nat.one_ne_zero, if_false]
          congr 1
          apply Array.ext_getElem?
          intro i
          simp only [Array.getElem?_modify, Array.getElem?_push]
          by_cases hi : i = w.heap.size
          · subst hi; simp
          · rw [if_neg (fun e => hi e.symm)]; simp [hi]
        · rw [hsz]
          exact VR.opn n 0 b.size c _ hn hc (by simp)
      · exfalso
        cases ed <;> try (cases h; done)
        rename_i ik
        cases ik <;> try (cases h; done)
        cases k with
        | zero => cases h
        | succ k => cases k with
          | zero => exact c2 ⟨rfl, rfl⟩
          | succ k => cases h
    all_goals exact hpure s q s' w h W
  by_cases c3 : (∃ e, sd = .slice e) ∧ dd = .string
  · obtain ⟨⟨e, rfl⟩, rfl⟩ := c3
    have readArm : ∀ (n off len cap' : Nat) (L : Loc), σ n = some L → (match pureRun P (underlying e) with
        | some (.int .u8) => (mRead n off len).bind fun l => match bytesOfCells l .empty with
          | some b => M.pure (Value.string b)
          | none => M.fail
        | _ => M.fail) s = some (q, s') →
        ∃ τ v' w', σ.le τ ∧ (convert src dst (.slice (some ⟨L.b, L.s + off, none⟩) len cap')).run P w = .ok v' w' ∧ VR τ q v' ∧ WR P N0 w0 τ s'.h.get w' := by
      intro n off len cap' L hL h
      cases he : pureRun P (underlying e) with
      | none => rw [he] at h; cases h
      | some ed =>
      rw [he] at h
      cases ed <;> try (cases h; done)
      rename_i ik
      cases ik <;> try (cases h; done)
      dsimp only at h
      obtain ⟨l, s1, h1, h2⟩ := M.bind_some h
      obtain ⟨e1, hlen, l', hLR, hcell⟩ := read_ok h1 W hL
      cases hb : bytesOfCells l .empty with
      | none => rw [hb] at h2; cases h2
      | some b =>
        rw [hb] at h2
        cases M.pure_some h2
        obtain ⟨ns, rfl, hbs⟩ := bytes_fold _ _ _ hb
        have := LR_ints hLR
        subst this
        have hr := run_cells (P := P) hcell
        rw [hlen] at hr
        refine ⟨σ, .string b, w, σ.le_refl, ?_, .str b, by rw [e1]; exact W⟩
        simp only [convert, Sem.run_bind, pureRun_run _ _ hs, pureRun_run _ _ hd, pureRun_run _ _ he, Result.andThen_ok]
        rw [run_bytesToString w _ len cap' ns hr, hbs]
    cases r
    case sl n off len cap L hL hc => exact readArm n off len cap L hL h
    case opn n off len cap L hL hl hz => exact readArm n off len cap L hL h
    case nils len cap =>
      dsimp only at h
      cases he : pureRun P (underlying e) with
      | none => rw [he] at h; cases h
      | some ed =>
      rw [he] at h
      cases ed <;> try (cases h; done)
      rename_i ik
      cases ik <;> try (cases h; done)
      cases M.pure_some h
      refine ⟨σ, .string .empty, w, σ.le_refl, ?_, .str _, W⟩
      simp only [convert, Sem.run_bind, pureRun_run _ _ hs, pureRun_run _ _ hd, pureRun_run _ _ he, Result.andThen_ok, Conv.bytesToString, Sem.run_pure]
    all_goals exact hpure s q s' w h W
  · refine hpure s q s' w ?_ W
    cases sd <;> first
      | exact h
      | (cases dd <;> first
          | exact h
          | exact absurd ⟨⟨_, rfl⟩, rfl⟩ c3
          | exact absurd ⟨rfl, _, rfl⟩ c1)

end
end Go.Proofs.YtkiakphfgdkdiaaGreat
