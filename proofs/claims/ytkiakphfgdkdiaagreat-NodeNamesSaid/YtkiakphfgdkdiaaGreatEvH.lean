/-
  An evaluator for closed calls, part H: append, the whole.
-/
import Derived.Test.YtkiakphfgdkdiaaGreatEvG
namespace Go.Proofs.YtkiakphfgdkdiaaGreat
open Go Go.RowKit
set_option linter.unusedVariables false

section
variable {P : Program} {N0 : Nat} {w0 : World} {σ : Ren} {w : World}

theorem len_of_LR {xs ys : List Value} {n : Nat} (h : LR σ xs ys) (e : xs.length = n) : ys.length = n := h.1 ▸ e

/-- What was appended lies in new memory. -/
theorem grow_ok {elem : TypeId} {k need newCap : Nat} {z : Value} {all all' : List Value} {s2 s3 : HS} {m : Nat} (W : WR P N0 w0 σ s2.h.get w) (h : newCells elem all s2 = some (m, s3)) (hall : LR σ all all')
    (hlen : all'.length = need * k) (hcap : need ≤ newCap) (hz : z.cells.toList.length = k) (hu : unitOf P elem = some k) :
    ∃ τ : Ren, σ.le τ ∧ VR τ (.slice (some ⟨m, 0, none⟩) need SENT) (.slice (some ⟨w.heap.size, 0, none⟩) need newCap) ∧
      WR P N0 w0 τ s3.h.get { w with heap := w.heap.push (.cells (all'.toArray ++ Builtin.zeroCells z.cells (newCap - need)) elem) } := by
  obtain ⟨τ, hle, hm, hW⟩ := newCells_ok h W hall (zerosOf z.cells.toList (newCap - need))
  rw [unit_getD k hu] at hm
  refine ⟨τ, hle, ?_, ?_⟩
  · have := VR.opn (σ := τ) m 0 need newCap _ hm hcap (by
      simp only [Nat.zero_add]
      rw [zerosOf_length, hlen, hz, ← Nat.add_mul]
      congr 1; omega)
    simpa using this
  · rw [zeroCells_eq]
    simpa using hW

theorem choose_cap {need old : Nat} {e : TypeId} : ∃ c, need ≤ c ∧ (choose (.appendCap need old e)).run P w = .ok c { w with drawn := w.drawn + 1 } := by
  refine ⟨need + w.tape w.drawn (.appendCap need old e) % (2 ^ 63 - need), Nat.le_add_right _ _, ?_⟩
  simp [Question.forced, Question.cut]

theorem append_sim {argTypes : Array TypeId} {ty : TypeId} {s s' x x' : Value} (rs : VR σ s s') (rx : VR σ x x') : Sim P N0 w0 σ (appendM P argTypes s x) (Builtin.append_ argTypes ty #[s', x']) := by
  intro t v t' w h W
  unfold appendM at h
  cases h0 : argTypes[0]? with
  | none => rw [h0] at h; cases h
  | some sType =>
  rw [h0] at h
  cases h1 : argTypes[1]? with
  | none => rw [h1] at h; cases h
  | some xType =>
  rw [h1] at h
  dsimp only at h
  cases hd : pureRun P (underlying sType) with
  | none => rw [hd] at h; cases h
  | some sd =>
  rw [hd] at h
  cases sd <;> try (cases h; done)
  rename_i elem
  cases hx : pureRun P (underlying xType) with
  | none => rw [hx] at h; cases h
  | some xd =>
  rw [hx] at h
  dsimp only at h
  cases hk : pureRun P (sizeOf elem) with
  | none => rw [hk] at h; cases h
  | some k0 =>
  rw [hk] at h
  cases k0 with
  | zero => cases h
  | succ k' =>
  cases hti : pureRun P (typeInfo elem) with
  | none => rw [hti] at h; cases h
  | some ti =>
  rw [hti] at h
  cases hz : pureRun P (zeroValue elem) with
  | none => rw [hz] at h; cases h
  | some z =>
  rw [hz] at h
  dsimp only at h
  obtain ⟨⟨n, new⟩, s1, ha, h⟩ := M.bind_some h
  dsimp only at h
  cases hb : (okCells new && Nat.ble ((1000 + n) * ti.bytes) 1000000000 && Nat.blt 0 ti.bytes && Nat.beq z.cells.toList.length (k' + 1)) with
  | false => rw [hb] at h; cases h
  | true =>
  rw [hb] at h
  simp only [cond_true] at h
  simp only [Bool.and_eq_true] at hb
  obtain ⟨⟨⟨hok, hb1⟩, hb0⟩, hzk⟩ := hb
  have hb1 : (1000 + n) * ti.bytes ≤ 1000000000 := Nat.le_of_ble_eq_true hb1
  have hb0 : 0 < ti.bytes := Nat.le_of_ble_eq_true hb0
  have hzk := Nat.eq_of_beq_eq_true hzk
  have hu := unit_of_size hk
  have hk0 : 0 < k' + 1 := Nat.succ_pos _
  generalize k' + 1 = k at h ha hzk hk hu hk0
  obtain ⟨e1, new', hnew, hnlen, f0, f1⟩ := appended_ok ha W rx
  have W1 : WR P N0 w0 σ s1.h.get w := by rw [e1]; exact W
  have hA : ∀ w1 : World, (∀ a, w1.cell? a = w.cell? a) → ((if isIntT xd = true then pure (Builtin.zeroCells z.cells n) else Builtin.firstCells k n x' : Sem (Array Value))).run P w1 = .ok ⟨new'⟩ w1 := by
    intro w1 hw1
    cases hi : isIntT xd with
    | true =>
      obtain ⟨kd, z2, _, _, hz2, hq⟩ := f1 hi
      rw [hz] at hz2; cases hz2
      simp [hq]
    | false =>
      simp only [Bool.false_eq_true, if_false]
      exact (f0 hi).2 w1 hw1
  have hn : isIntT xd = false → (Builtin.lenOf x').run P w = .ok n w := fun e => (f0 e).1
  have hm : isIntT xd = true → ∃ kd, x' = .int kd (n : Int) ∧ n ≤ 100000 := fun e => let ⟨kd, _, a, b, _⟩ := f1 e; ⟨kd, a, b⟩
  have hn' := len_of_LR hnew hnlen
  cases rs with
  | nils len cap =>
    cases len with
    | succ len => cases h
    | zero =>
    cases cap with
    | succ cap => cases h
    | zero =>
    rw [append_run h0 h1 hd hx hk hti hz hk0 (Nat.le_trans (Nat.mul_le_mul_right _ (by omega)) hb1) hb0 hn hm]
    generalize (if isIntT xd = true then pure (Builtin.zeroCells z.cells n) else Builtin.firstCells k n x' : Sem (Array Value)) = A at hA ⊢
    cases hbq : Nat.beq n 0 with
    | true =>
      rw [hbq] at h
      have := Nat.eq_of_beq_eq_true hbq
      subst this
      cases M.pure_some h
      refine ⟨σ, .slice none 0 0, w, σ.le_refl, ?_, .nils 0 0, W1⟩
      unfold appendTail
      simp [hA w (fun _ => rfl)]
    | false =>
      rw [hbq] at h
      have hn0 : n ≠ 0 := fun e => by subst e; cases hbq
      obtain ⟨m, s2, h2, h3⟩ := M.bind_some h
      cases M.pure_some h3
      obtain ⟨c, hc, hch⟩ := choose_cap (P := P) (w := w) (need := 0 + n) (old := 0) (e := elem)
      obtain ⟨τ, hle, hv, hW⟩ := grow_ok (need := n) (newCap := c) (z := z) W1.drew h2 hnew hn' (by omega) hzk hu
      refine ⟨τ, _, _, hle, ?_, hv, hW⟩
      unfold appendTail
      rw [if_neg (by omega)]
      simp only [hch, Builtin.firstCells, hA { w with drawn := w.drawn + 1 } (fun _ => rfl), Sem.run_bind, Result.andThen_ok, run_askRoom, newRow, run_newObj, Sem.run_pure]
      simp
  | sl b off len cap L hL hcS =>
    dsimp only at h
    cases hbb : Nat.ble ((1000 + len + n) * ti.bytes) 1000000000 with
    | false => rw [hbb] at h; cases h
    | true =>
    rw [hbb] at h
    have hbb := Nat.le_of_ble_eq_true hbb
    rw [append_run h0 h1 hd hx hk hti hz hk0 (Nat.le_trans (Nat.mul_le_mul_right _ (by omega)) hbb) hb0 hn hm]
    generalize (if isIntT xd = true then pure (Builtin.zeroCells z.cells n) else Builtin.firstCells k n x' : Sem (Array Value)) = A at hA ⊢
    cases hbq : (Nat.beq n 0 && Nat.ble len cap) with
    | true =>
      rw [hbq] at h
      simp only [Bool.and_eq_true] at hbq
      have := Nat.eq_of_beq_eq_true hbq.1
      subst this
      have hle := Nat.le_of_ble_eq_true hbq.2
      cases M.pure_some h
      have hnil : new' = [] := List.length_eq_zero_iff.1 (by simpa using hn')
      refine ⟨σ, _, w, σ.le_refl, ?_, .sl b off len cap L hL hcS, W1⟩
      unfold appendTail
      rw [if_pos (by omega)]
      simp [hA w (fun _ => rfl), hnil, storeCells]
    | false =>
      rw [hbq] at h
      cases hs : Nat.beq cap SENT with
      | true => exact absurd (Nat.eq_of_beq_eq_true hs) hcS
      | false =>
      rw [hs] at h
      cases hfit : Nat.ble (len + n) cap with
      | true =>
        rw [hfit] at h
        have hfit := Nat.le_of_ble_eq_true hfit
        obtain ⟨_, s2, h2, h3⟩ := M.bind_some h
        cases M.pure_some h3
        obtain ⟨w', hrun, hW⟩ := write_ok h2 W1 hL hnew hok
        refine ⟨σ, _, w', σ.le_refl, ?_, .sl b off (len + n) cap L hL hcS, hW⟩
        unfold appendTail
        rw [if_pos hfit]
        simp [hA w (fun _ => rfl), add_at, Nat.add_assoc] at hrun ⊢
        simp [hrun]
      | false =>
        rw [hfit] at h
        have hfit : ¬ len + n ≤ cap := fun e => by
          have : Nat.ble (len + n) cap = true := Nat.ble_eq ▸ e
          rw [hfit] at this; cases this
        obtain ⟨old, s2, h2, h⟩ := M.bind_some h
        obtain ⟨m, s3, h3, h4⟩ := M.bind_some h
        cases M.pure_some h4
        obtain ⟨e2, holen, old', hold, hcell⟩ := read_ok h2 W1 hL
        obtain ⟨c, hc, hch⟩ := choose_cap (P := P) (w := w) (need := len + n) (old := cap) (e := elem)
        have W2 : WR P N0 w0 σ s2.h.get { w with drawn := w.drawn + 1 } := by rw [e2]; exact W1.drew
        have ho' := len_of_LR hold holen
        obtain ⟨τ, hle, hv, hW⟩ := grow_ok (need := len + n) (newCap := c) (z := z) W2 h3 (hold.append hnew) (by rw [List.length_append, ho', hn', Nat.add_mul]) hc hzk hu
        refine ⟨τ, _, _, hle, ?_, hv, hW⟩
        have hrd := run_cells (P := P) (w := { w with drawn := w.drawn + 1 }) (b := L.b) (o := L.s + off) (l' := old') (fun i v' hv => hcell i v' hv)
        rw [ho'] at hrd
        unfold appendTail
        rw [if_neg hfit]
        simp only [hch, Builtin.firstCells, hrd, hA { w with drawn := w.drawn + 1 } (fun _ => rfl), Sem.run_bind, Result.andThen_ok, run_askRoom, newRow, run_newObj, Sem.run_pure]
        try simp
  | opn b off len cap L hL hl hzz =>
    dsimp only at h
    cases hbb : Nat.ble ((1000 + len + n) * ti.bytes) 1000000000 with
    | false => rw [hbb] at h; cases h
    | true =>
    rw [hbb] at h
    have hbb := Nat.le_of_ble_eq_true hbb
    rw [append_run h0 h1 hd hx hk hti hz hk0 (Nat.le_trans (Nat.mul_le_mul_right _ (by omega)) hbb) hb0 hn hm]
    generalize (if isIntT xd = true then pure (Builtin.zeroCells z.cells n) else Builtin.firstCells k n x' : Sem (Array Value)) = A at hA ⊢
    cases hbq : (Nat.beq n 0 && Nat.ble len SENT) with
    | true =>
      rw [hbq] at h
      simp only [Bool.and_eq_true] at hbq
      have := Nat.eq_of_beq_eq_true hbq.1
      subst this
      cases M.pure_some h
      have hnil : new' = [] := List.length_eq_zero_iff.1 (by simpa using hn')
      refine ⟨σ, _, w, σ.le_refl, ?_, .opn b off len cap L hL hl hzz, W1⟩
      unfold appendTail
      rw [if_pos (by omega)]
      simp [hA w (fun _ => rfl), hnil, storeCells]
    | false =>
      rw [hbq] at h
      have hs : Nat.beq SENT SENT = true := rfl
      rw [hs] at h
      obtain ⟨⟨sz, e⟩, s2, h2, h⟩ := M.bind_some h
      dsimp only at h
      cases hee : Nat.beq e elem with
      | false => rw [hee] at h; cases h
      | true =>
      rw [hee] at h
      have hee := Nat.eq_of_beq_eq_true hee
      subst hee
      have hS : s2.h = s1.h ∧ ∃ c, s1.h.get b = some (.cells c e) ∧ sz = c.length := by
        unfold mSize at h2
        obtain ⟨hh, nn, ll⟩ := s1
        dsimp only at h2
        split at h2
        · rename_i c e' hg
          cases h2
          exact ⟨rfl, c, hg, rfl⟩
        · cases h2
      obtain ⟨e2, cc, hcc, rfl⟩ := hS
      have W2 : WR P N0 w0 σ s2.h.get w := by rw [e2]; exact W1
      rw [← e2] at hcc
      obtain ⟨hN, o', ho', hor⟩ := W2.at hcc (by intro e; cases e) hL
      cases o' with
      | cells c' ee fz =>
        obtain ⟨k1, k2, k3, k4, k5⟩ := hor
        have hLu : L.u = k := k5 k hu
        rw [hLu] at hzz
        cases hfit : Nat.ble (off + (len + n) * k) cc.length with
        | true =>
          rw [hfit] at h
          have hfit := Nat.le_of_ble_eq_true hfit
          have hcap : len + n ≤ cap := by
            have h5 : (len + n) * k ≤ cap * k := by omega
            exact Nat.le_of_mul_le_mul_right h5 hk0
          obtain ⟨_, s3, h3, h4⟩ := M.bind_some h
          cases M.pure_some h4
          obtain ⟨w', hrun, hW⟩ := write_ok h3 W2 hL hnew hok
          refine ⟨σ, _, w', σ.le_refl, ?_, .opn b off (len + n) cap L hL hcap (by rw [hLu]; exact hzz), hW⟩
          unfold appendTail
          rw [if_pos hcap]
          simp [hA w (fun _ => rfl), add_at, Nat.add_assoc] at hrun ⊢
          simp [hrun]
        | false =>
          rw [hfit] at h
          obtain ⟨old, s3, h3, h⟩ := M.bind_some h
          obtain ⟨_, s4, h4, h⟩ := M.bind_some h
          obtain ⟨m, s5, h5, h6⟩ := M.bind_some h
          cases M.pure_some h6
          obtain ⟨e3, holen, old', hold, hcell⟩ := read_ok h3 W2 hL
          have hol' := len_of_LR hold holen
          rw [mPut_eq, e3, hcc] at h4
          cases h4
          have hu' := hu
          by_cases hcap : len + n ≤ cap
          · -- in place, by another name
            have hroom : L.s + (off + len * k) + 0 + new'.length ≤ c'.size := by
              rw [k1, hn', ← hzz]
              have := Nat.mul_le_mul_right k hcap
              rw [Nat.add_mul] at this
              omega
            obtain ⟨w', c2, hrun, a1, a2, a3, a4, a5, a6, a7, a8⟩ := store_run (P := P) L.b (L.s + (off + len * k)) ee fz new' 0 c' w (by assumption) hroom k4 (hnew.one hok)
            obtain ⟨W3, hfree⟩ := W2.killW hcc (by intro e; cases e) hL a1 a2 a3 a4 a5
            unfold newCells at h5
            rw [mNew_eq] at h5
            split at h5
            case h_2 => cases h5
            rename_i hg5
            cases h5
            have hg5' : (fun m => if m = b then some AObj.dead else s2.h.get m) s3.next = none := by
              have := hg5
              simp only [Tri.get_set, e3] at this
              exact this
            obtain ⟨τ, hle, hm', hW⟩ := W3.adopt (L := ⟨L.b, L.s + off, L.z, L.u⟩) hg5' hN hfree (.cells (old ++ new) e) a6 (fun τ hτ => by
              refine ⟨by rw [a7]; exact k1, ?_, fun i v hv => ?_, by rw [a7]; exact k4, k5⟩
              · simp only [List.length_append, holen, hnlen]
                rw [k1, hn'] at hroom
                omega
              · simp only [Nat.add_zero] at a8
                by_cases hi : i < old.length
                · rw [List.getElem?_append_left hi] at hv
                  obtain ⟨y, hy, hr⟩ := hold.get hv
                  have hc1 := hcell i y hy
                  simp only [World.cell?, ho'] at hc1
                  refine ⟨y, ?_, hr.mono hτ⟩
                  show c2[L.s + off + i]? = _
                  rw [a8, if_neg (by omega)]
                  simpa using hc1
                · rw [List.getElem?_append_right (by omega)] at hv
                  obtain ⟨y, hy, hr⟩ := hnew.get hv
                  refine ⟨y, ?_, hr.mono hτ⟩
                  have hi2 : i - old.length < new'.length := (List.getElem?_eq_some_iff.1 hy).1
                  show c2[L.s + off + i]? = _
                  rw [a8, if_pos (by omega), show L.s + off + i - (L.s + (off + len * k)) = i - old.length by omega]
                  exact hy)
            refine ⟨τ, _, w', hle, ?_, .opn s3.next 0 (len + n) cap _ hm' hcap (by simp only [Nat.add_zero]; rw [hLu]; exact hzz), hW.congr (fun q => ?_)⟩
            · unfold appendTail
              rw [if_pos hcap]
              simp [hA w (fun _ => rfl), add_at, Nat.add_assoc] at hrun ⊢
              simp [hrun]
            · simp only [Tri.get_set, e3]
          · obtain ⟨c, hc, hch⟩ := choose_cap (P := P) (w := w) (need := len + n) (old := cap) (e := e)
            have W3 : WR P N0 w0 σ (s2.h.set b .dead).get { w with drawn := w.drawn + 1 } :=
              (W2.drew.kill hcc).congr (fun q => by simp only [Tri.get_set, e3])
            obtain ⟨τ, hle, hv, hW⟩ := grow_ok (need := len + n) (newCap := c) (z := z) W3 h5 (hold.append hnew) (by rw [List.length_append, hol', hn', Nat.add_mul]) hc hzk hu
            refine ⟨τ, _, _, hle, ?_, hv, hW⟩
            have hrd := run_cells (P := P) (w := { w with drawn := w.drawn + 1 }) (b := L.b) (o := L.s + off) (l' := old') (fun i v' hv => hcell i v' hv)
            rw [hol'] at hrd
            unfold appendTail
            rw [if_neg hcap]
            simp only [hch, Builtin.firstCells, hrd, hA { w with drawn := w.drawn + 1 } (fun _ => rfl), Sem.run_bind, Result.andThen_ok, run_askRoom, newRow, run_newObj, Sem.run_pure]
            simp
      | _ => exact hor.elim
  | _ => cases h

end
end Go.Proofs.YtkiakphfgdkdiaaGreat
