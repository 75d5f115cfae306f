/-
  An evaluator for closed calls, part D: its operations on memory, and the model's.
-/
import Derived.Test.YtkiakphfgdkdiaaGreatEvC
import Derived.Laws.Cells
import Derived.Laws.Append
namespace Go.Proofs.YtkiakphfgdkdiaaGreat
open Go Go.RowKit
set_option linter.unusedVariables false

theorem M.bind_some {α β : Type} {m : M α} {f : α → M β} {s : HS} {r : β × HS} (h : m.bind f s = some r) : ∃ a s1, m s = some (a, s1) ∧ f a s1 = some r := by
  unfold M.bind at h
  cases hs : m s with
  | none => rw [hs] at h; cases h
  | some p => obtain ⟨a, s1⟩ := p; rw [hs] at h; exact ⟨a, s1, rfl, h⟩
theorem M.pure_some {α : Type} {a : α} {s : HS} {r : α × HS} (h : M.pure a s = some r) : r = (a, s) := by cases h; rfl
theorem M.fail_some {α : Type} {s : HS} {r : α × HS} (h : (M.fail : M α) s = some r) : False := by cases h
theorem M.ofO_some {α : Type} {o : Option α} {s : HS} {r : α × HS} (h : M.ofO o s = some r) : ∃ a, o = some a ∧ r = (a, s) := by
  cases o with
  | none => cases h
  | some a => cases h; exact ⟨a, rfl, rfl⟩

section
variable {P : Program} {N0 : Nat} {w0 : World} {σ : Ren} {w : World}

theorem okCell_one {v : Value} (h : okCell v = true) : v.oneCell' = true := by cases v <;> first | rfl | cases h
theorem okCells_mem : ∀ {l : List Value}, okCells l = true → ∀ v ∈ l, okCell v = true
  | [], _, v, hv => by cases hv
  | x :: l, h, v, hv => by
    unfold okCells at h
    cases hx : okCell x with
    | false => rw [hx] at h; cases h
    | true =>
      rw [hx] at h
      rcases List.mem_cons.1 hv with rfl | hv
      · exact hx
      · exact okCells_mem h v hv
theorem VR.one {a b : Value} (r : VR σ a b) (h : okCell a = true) : b.oneCell' = true := by
  cases r <;> first | rfl | cases h
theorem LR.one {xs ys : List Value} (r : LR σ xs ys) (h : okCells xs = true) : ∀ v ∈ ys, v.oneCell' = true := by
  intro v hv
  obtain ⟨i, hi, rfl⟩ := List.getElem_of_mem hv
  have h1 : i < xs.length := by rw [r.1]; exact hi
  exact (r.2 i xs[i] ys[i] (List.getElem?_eq_getElem h1) (List.getElem?_eq_getElem hi)).one (okCells_mem h _ (List.getElem_mem h1))

/-- Cells that were read. -/
theorem read_ok {n lo len : Nat} {s s' : HS} {l : List Value} {L : Loc} (h : mRead n lo len s = some (l, s')) (W : WR P N0 w0 σ s.h.get w) (hσ : σ n = some L) :
    s'.h = s.h ∧ l.length = len ∧ ∃ l', LR σ l l' ∧ ∀ (i : Nat) (v' : Value), l'[i]? = some v' → w.cell? ⟨L.b, L.s + lo + i, none⟩ = some v' := by
  rw [mRead_eq] at h
  split at h
  · rename_i c e hg
    split at h
    · rename_i q hq
      cases h
      obtain ⟨hl, hle, hget⟩ := slots_spec c lo len l hq
      obtain ⟨_, o', ho', hor⟩ := W.at hg (by intro e; cases e) hσ
      cases o' with
      | cells c' e' fz =>
        obtain ⟨h1, h2, h3, h4, h5⟩ := hor
        refine ⟨rfl, hl, (List.range len).map (fun i => (c'[L.s + lo + i]?).getD undef), ⟨by simp [hl], fun i x y hx hy => ?_⟩, fun i v' hv => ?_⟩
        · have hi : i < len := by rw [← hl]; exact (List.getElem?_eq_some_iff.1 hx).1
          rw [hget i hi] at hx
          obtain ⟨v', hv1, hv2⟩ := h3 _ _ hx
          simp [hi] at hy
          rw [show L.s + lo + i = L.s + (lo + i) by omega, hv1] at hy
          simp at hy; subst hy; exact hv2
        · have hi : i < len := by
            have := (List.getElem?_eq_some_iff.1 hv).1
            simpa using this
          obtain ⟨v1, hv1⟩ : ∃ v1, c[lo + i]? = some v1 := ⟨c[lo + i]'(by omega), List.getElem?_eq_getElem (by omega)⟩
          obtain ⟨v2, hv2, _⟩ := h3 _ _ hv1
          simp [hi] at hv
          rw [show L.s + lo + i = L.s + (lo + i) by omega, hv2] at hv
          simp at hv; subst hv
          simp only [World.cell?, ho']
          simp
          rw [show L.s + lo + i = L.s + (lo + i) by omega]; exact hv2
      | _ => exact hor.elim
    · cases h
  · cases h

theorem add_at (b o k : Nat) : Addr.add ⟨b, o, none⟩ k = ⟨b, o + k, none⟩ := by
  unfold Addr.add
  split
  · rename_i h; subst h; rfl
  · rfl

theorem run_cells {b o : Nat} {l' : List Value} (h : ∀ (i : Nat) (v' : Value), l'[i]? = some v' → w.cell? ⟨b, o + i, none⟩ = some v') :
    (loadCells ⟨b, o, none⟩ l'.length).run P w = .ok l'.toArray w :=
  run_loadCells_list w ⟨b, o, none⟩ l' (fun j v hj => by rw [add_at]; exact h j v hj)

/-- Cells that are written. -/
theorem store_run (b o : Nat) (e : TypeId) (fz : Nat × Nat) : ∀ (vs : List Value) (i : Nat) (c : Array Value) (w : World), w.heap[b]? = some (.cells c e fz) → o + i + vs.length ≤ c.size →
    (∀ j, j < c.size → ¬ (fz.1 ≤ j ∧ j < fz.2)) → (∀ v ∈ vs, v.oneCell' = true) →
    ∃ w' c', (storeCells ⟨b, o, none⟩ vs i).run P w = .ok () w' ∧ w'.os = w.os ∧ w'.tape = w.tape ∧ w'.output = w.output ∧ w'.heap.size = w.heap.size ∧ (∀ k, k ≠ b → w'.heap[k]? = w.heap[k]?) ∧
      w'.heap[b]? = some (.cells c' e fz) ∧ c'.size = c.size ∧ ∀ j : Nat, c'[j]? = if o + i ≤ j ∧ j < o + i + vs.length then vs[j - (o + i)]? else c[j]? := by
  intro vs
  induction vs with
  | nil =>
    intro i c w hb hlen hfz h1
    refine ⟨w, c, rfl, rfl, rfl, rfl, rfl, fun _ _ => rfl, hb, rfl, fun j => ?_⟩
    rw [if_neg (by simp only [List.length_nil]; omega)]
  | cons v vs ih =>
    intro i c w hb hlen hfz h1
    simp only [List.length_cons] at hlen
    have hcell : w.cell? ⟨b, o + i, none⟩ = some (c[o + i]'(by omega)) := by
      simp only [World.cell?, hb]
      simp
    have hfr : w.frozen? ⟨b, o + i, none⟩ = false := by
      have := hfz (o + i) (by omega)
      simp only [World.frozen?, hb]
      simp only [Bool.and_eq_false_iff, decide_eq_false_iff_not]
      by_cases hx : fz.1 ≤ o + i
      · exact .inr (fun hy => this ⟨hx, hy⟩)
      · exact .inl hx
    have hst : (store ⟨b, o + i, none⟩ v).run P w = .ok () (w.setCell ⟨b, o + i, none⟩ v) := by
      rw [run_store P w _ v _ (h1 v (by simp)), hcell]
      simp only [hfr]; rfl
    have hb' : (w.setCell ⟨b, o + i, none⟩ v).heap[b]? = some (.cells (c.setIfInBounds (o + i) v) e fz) := by
      simp [World.setCell, Array.getElem?_modify, hb]
    obtain ⟨w', c', r, a1, a2, a3, a4, a5, a6, a7, a8⟩ := ih (i + 1) (c.setIfInBounds (o + i) v) _ hb' (by simp; omega) (by simpa using hfz) (fun u hu => h1 u (by simp [hu]))
    refine ⟨w', c', ?_, a1, a2, a3, ?_, fun k hk => ?_, a6, by simpa using a7, fun j => ?_⟩
    · unfold storeCells
      rw [add_at]
      simp only [Sem.run_bind, hst, Result.andThen_ok]
      exact r
    · rw [a4]; simp [World.setCell]
    · rw [a5 k hk]; exact Below.heap_setCell _ _ _ _ hk
    · rw [a8 j]
      simp only [List.length_cons]
      by_cases hj : o + (i + 1) ≤ j ∧ j < o + (i + 1) + vs.length
      · rw [if_pos hj, if_pos (by omega)]
        rw [show j - (o + i) = (j - (o + (i + 1))) + 1 by omega, List.getElem?_cons_succ]
      · rw [if_neg hj]
        by_cases hj2 : j = o + i
        · subst hj2
          rw [if_pos (by omega)]
          rw [Array.getElem?_setIfInBounds_self_of_lt (by omega)]
          simp
        · rw [if_neg (by omega)]
          rw [Array.getElem?_setIfInBounds_ne (by omega)]

theorem write_ok {n lo : Nat} {vs vs' : List Value} {s s' : HS} {L : Loc} (h : mWrite n lo vs s = some ((), s')) (W : WR P N0 w0 σ s.h.get w) (hσ : σ n = some L) (hv : LR σ vs vs') (h1 : okCells vs = true) :
    ∃ w', (storeCells ⟨L.b, L.s + lo, none⟩ vs').run P w = .ok () w' ∧ WR P N0 w0 σ s'.h.get w' := by
  rw [mWrite_eq] at h
  split at h
  · rename_i c e hg
    cases hb : Nat.ble (lo + vs.length) c.length with
    | false => rw [hb] at h; cases h
    | true =>
      rw [hb] at h
      cases h
      have hle : lo + vs.length ≤ c.length := Nat.le_of_ble_eq_true hb
      obtain ⟨hN, o', ho', hor⟩ := W.at hg (by intro e; cases e) hσ
      cases o' with
      | cells c' e' fz =>
        obtain ⟨k1, k2, k3, k4, k5⟩ := hor
        obtain ⟨w', c2, r, a1, a2, a3, a4, a5, a6, a7, a8⟩ := store_run (P := P) L.b (L.s + lo) e' fz vs' 0 c' w ho' (by rw [← hv.1]; omega) k4 (hv.one h1)
        refine ⟨w', r, ?_⟩
        refine (W.set (p := .cells (over c lo vs) e) (p' := .cells c2 e' fz) hg (by intro e; cases e) hσ a1 a2 a3 a4 a5 a6 ?_ (by intro e; cases e)).congr (fun m => by simp only [Tri.get_set])
        refine ⟨by rw [a7]; exact k1, by rw [over_length]; exact k2, fun i v hv' => ?_, by rw [a7]; exact k4, k5⟩
        rw [over_get] at hv'
        simp only [Nat.add_zero] at a8
        by_cases hi : lo ≤ i ∧ i < lo + vs.length ∧ i < c.length
        · rw [if_pos hi] at hv'
          obtain ⟨y, hy, hr⟩ := hv.get hv'
          refine ⟨y, ?_, hr⟩
          rw [a8, if_pos (by rw [← hv.1]; omega), show L.s + i - (L.s + lo) = i - lo by omega]
          exact hy
        · rw [if_neg hi] at hv'
          obtain ⟨y, hy, hr⟩ := k3 i v hv'
          have hic : i < c.length := (List.getElem?_eq_some_iff.1 hv').1
          exact ⟨y, by rw [a8, if_neg (by rw [← hv.1]; omega)]; exact hy, hr⟩
      | _ => exact hor.elim
  · cases h

/-- A new row. -/
theorem new_ok {o : AObj} {s s' : HS} {n : Nat} (h : mNew o s = some (n, s')) (W : WR P N0 w0 σ s.h.get w) (o' : Obj) (z u : Nat)
    (ho : ∀ τ : Ren, σ.le τ → OR P τ ⟨w.heap.size, 0, z, u⟩ o o') :
    ∃ τ : Ren, σ.le τ ∧ τ n = some ⟨w.heap.size, 0, z, u⟩ ∧ WR P N0 w0 τ s'.h.get { w with heap := w.heap.push o' } := by
  rw [mNew_eq] at h
  split at h
  · rename_i hg
    cases h
    have hσ : σ s.next = none := by
      cases e : σ s.next with
      | none => rfl
      | some l => obtain ⟨q, hq⟩ := W.dom _ l e; rw [hg] at hq; cases hq
    have hle : σ.le (fun m => if m = s.next then some ⟨w.heap.size, 0, z, u⟩ else σ m) := fun m l e => by
      show (if m = s.next then _ else σ m) = _
      rw [if_neg (fun hm => by subst hm; rw [hσ] at e; cases e)]; exact e
    obtain ⟨h1, h2⟩ := W.new hg o o' z u (ho _ hle)
    exact ⟨_, h1, by simp, h2.congr (fun m => by simp only [Tri.get_set])⟩
  · cases h

theorem unit_getD {e : TypeId} (k : Nat) (h : unitOf P e = some k) : (unitOf P e).getD 1 = k := by rw [h]; rfl

theorem newCells_ok {e : TypeId} {c c' : List Value} {s s' : HS} {n : Nat} (h : newCells e c s = some (n, s')) (W : WR P N0 w0 σ s.h.get w) (hc : LR σ c c') (rest : List Value) :
    ∃ τ : Ren, σ.le τ ∧ τ n = some ⟨w.heap.size, 0, c'.length + rest.length, (unitOf P e).getD 1⟩ ∧
      WR P N0 w0 τ s'.h.get { w with heap := w.heap.push (.cells (c' ++ rest).toArray e) } := by
  refine new_ok h W _ _ _ (fun τ hτ => ?_)
  refine ⟨by simp, by simp [hc.1], fun i v hv => ?_, fun i _ => by simp, fun k hk => unit_getD k hk⟩
  obtain ⟨y, hy, hr⟩ := hc.get hv
  refine ⟨y, ?_, hr.mono hτ⟩
  have hi : i < c'.length := (List.getElem?_eq_some_iff.1 hy).1
  simp only [List.getElem?_toArray, Nat.zero_add]
  rw [List.getElem?_append_left hi]; exact hy

theorem cells_LR {v v' : Value} (r : VR σ v v') : LR σ v.cells.toList v'.cells.toList := by
  cases r with
  | agg xs ys h1 h2 => exact ⟨h1, h2⟩
  | _ => exact .cons (by constructor <;> assumption) (.nil σ)

/-- What the evaluator does, the model does. -/
def Sim (P : Program) (N0 : Nat) (w0 : World) (σ : Ren) (m : M Value) (c : Sem Value) : Prop :=
  ∀ s v s' w, m s = some (v, s') → WR P N0 w0 σ s.h.get w → ∃ τ v' w', σ.le τ ∧ c.run P w = .ok v' w' ∧ VR τ v v' ∧ WR P N0 w0 τ s'.h.get w'

theorem newVar_sim {t : TypeId} {v v' : Value} (r : VR σ v v') : Sim P N0 w0 σ (newVarM t v) (do pure (.pointer (some (← newVar t v')))) := by
  intro s q s' w h W
  obtain ⟨n, s1, h1, h2⟩ := M.bind_some h
  cases M.pure_some h2
  obtain ⟨τ, hle, hn, hW⟩ := newCells_ok h1 W (cells_LR r) []
  refine ⟨τ, _, _, hle, ?_, .ptr n 0 _ hn, hW⟩
  simp [newVar, newRow]

theorem isAgg_true {t : TypeId} {b : Bool} (h : pureRun P (isAgg t) = some b) (w : World) : (isAgg t).run P w = .ok b w := pureRun_run _ _ h w

theorem load_still {t : TypeId} {a a' v : Value} {s s' : HS} (r : VR σ a a') (h : loadM P t a s = some (v, s')) (W : WR P N0 w0 σ s.h.get w) : s'.h = s.h ∧ ∃ v', (Instr.loadAt t a').run P w = .ok v' w ∧ VR σ v v' := by
  unfold loadM at h
  cases r
  case ptr n off L hL =>
    dsimp only at h
    cases ha : pureRun P (isAgg t) with
    | none => rw [ha] at h; cases h
    | some b =>
      rw [ha] at h
      cases b with
      | true =>
        cases hk : pureRun P (sizeOf t) with
        | none => rw [hk] at h; cases h
        | some k =>
          rw [hk] at h
          obtain ⟨l, s1, h1, h2⟩ := M.bind_some h
          cases M.pure_some h2
          obtain ⟨e1, hlen, l', hLR, hcell⟩ := read_ok h1 W hL
          refine ⟨e1, .agg ⟨l'⟩, ?_, .agg _ _ hLR.1 hLR.2⟩
          have hr := run_cells (P := P) hcell
          rw [← hLR.1, hlen] at hr
          simp only [Instr.loadAt, Instr.sureAddr, loadVar, Sem.run_bind, Sem.run_pure, Result.andThen_ok, pureRun_run _ _ ha, pureRun_run _ _ hk, if_true, hr]
      | false =>
        obtain ⟨l, s1, h1, h2⟩ := M.bind_some h
        obtain ⟨e1, hlen, l', hLR, hcell⟩ := read_ok h1 W hL
        cases l with
        | nil => cases h2
        | cons u l =>
          cases l with
          | cons _ _ => cases h2
          | nil =>
            cases M.pure_some h2
            obtain ⟨y, ys, rfl, hy, hys⟩ := hLR.cons_inv
            have hc := hcell 0 y rfl
            refine ⟨e1, y, ?_, hy⟩
            simp only [Instr.loadAt, Instr.sureAddr, loadVar, Sem.run_bind, Sem.run_pure, Result.andThen_ok, pureRun_run _ _ ha, Bool.false_eq_true, if_false, run_load]
            simp only [Nat.add_zero] at hc
            rw [hc]
  all_goals cases h

theorem load_sim {t : TypeId} {a a' : Value} (r : VR σ a a') : Sim P N0 w0 σ (loadM P t a) (Instr.loadAt t a') := by
  intro s v s' w h W
  obtain ⟨e1, v', h1, h2⟩ := load_still r h W
  exact ⟨σ, v', w, σ.le_refl, h1, h2, by rw [e1]; exact W⟩

theorem store_sim {t : TypeId} {a a' v v' : Value} (r : VR σ a a') (rv : VR σ v v') : Sim P N0 w0 σ (storeM P t a v) (do Instr.storeAt t a' v'; pure undef) := by
  intro s q s' w h W
  unfold storeM at h
  cases r
  case ptr n off L hL =>
    dsimp only at h
    cases hk : pureRun P (sizeOf t) with
    | none => rw [hk] at h; cases h
    | some k =>
      rw [hk] at h
      dsimp only at h
      have hc := cells_LR rv
      cases hb : (Nat.beq v.cells.toList.length k && okCells v.cells.toList) with
      | false => rw [hb] at h; cases h
      | true =>
        rw [hb] at h
        simp only [Bool.and_eq_true] at hb
        obtain ⟨hb1, hb2⟩ := hb
        have hb1 := Nat.eq_of_beq_eq_true hb1
        obtain ⟨_, s1, h1, h2⟩ := M.bind_some h
        cases M.pure_some h2
        obtain ⟨w', hrun, hW⟩ := write_ok h1 W hL hc hb2
        refine ⟨σ, undef, w', σ.le_refl, ?_, undef_self σ, hW⟩
        have hsz : v'.cells.size = k := by rw [← Array.length_toList, ← hc.1, hb1]
        simp only [Instr.storeAt, Instr.sureAddr, storeVar, Sem.run_bind, Sem.run_pure, Result.andThen_ok, pureRun_run _ _ hk, hsz, ne_eq, not_true, if_false, hrun, ite_not, if_true]
  all_goals cases h

theorem alloc_sim {t : TypeId} {z : Value} (hz : pureRun P (zeroValue t) = some z) (hp : plainD 8 z = true) : Sim P N0 w0 σ (newVarM t z) (Instr.alloc t true (.tuple #[])) := by
  intro s v s' w h W
  obtain ⟨τ, v', w', h1, h2, h3, h4⟩ := newVar_sim (t := t) (plain_self σ hp) s v s' w h W
  refine ⟨τ, v', w', h1, ?_, h3, h4⟩
  simp only [Instr.alloc, Sem.run_bind, pureRun_run _ _ hz, Result.andThen_ok]
  simpa using h2

end
end Go.Proofs.YtkiakphfgdkdiaaGreat
