/-
  map[api.ID]*accrual.Detector as a function of IDs: which block the detector of an ID lies in.
-/
import Derived.Test.YtenphdgnaknbeaaLib
import Derived.Test.YtenphdgnaknbeaaID
import Derived.Maps.RangeWalk
import Derived.DeepKeys5
import Derived.Outline
namespace Go.Proofs.Ytenphdgnaknbeaa
open Go.RowKit Go.Maps
set_option maxRecDepth 100000

theorem Try.laidOutM : laidOutB Try.prog = true := by kernel_rfl
theorem Try.rowI : (33 : TypeId) < Try.prog.types.size := of_decide_eq_true (by kernel_rfl)
theorem Try.wideI : (match Try.prog.underlying 33 with | some (.array _ _) | some (.struct _) => true | _ => false) = true := by rw [Try.underlying33]
theorem Try.keyI : Try.prog.keyType 33 = true := by kernel_rfl
theorem lawI : Keyed Try.prog 33 := Keyed.of_law (deep_law_laid Try.laidOutM (m := 2) (by omega) Try.rowI (by kernel_rfl) Try.wideI)
theorem zeroDet (w : World) : (zeroValue 52).run Try.prog w = .ok (.pointer none) w := by kernel_rfl
theorem sizeM : ∃ m, Try.prog.types.size + 1 = m + 2 := by
  have h : 0 < Try.prog.types.size := of_decide_eq_true (by kernel_rfl)
  exact ⟨Try.prog.types.size - 1, by omega⟩
theorem Try.cellsOfId : Try.prog.cellsOf 33 = 2 := by kernel_rfl
theorem Try.cellsOfI : Try.prog.cellsOf 3 = 1 := by kernel_rfl

/-- an ID that Go can have -/
def wfI (x : ID) : Prop := (Lit.int .i64 x.1).wf = true ∧ (Lit.int .i64 x.2).wf = true
instance (x : ID) : Decidable (wfI x) := by unfold wfI; infer_instance
def klI (x : ID) : Lit := .string (keyBytes [.int .i64 x.1, .int .i64 x.2])
theorem key_of {x : ID} (h : wfI x) : keyOf Try.prog 33 (idV x) = some (klI x) := by
  obtain ⟨m, hm⟩ := sizeM
  obtain ⟨h1, h2⟩ := h
  unfold keyOf
  simp only [Try.underlying33]
  rw [if_pos (by simp [Try.keyI, Value.formed, Try.underlying33, Try.cellsOfId]), hm]
  unfold Program.keyLits
  simp only [Try.underlying33, Value.cells]
  rw [if_pos (by simp [Try.cellsOfId])]
  simp [Try.cellsOfI, Program.keyLits, Try.underlying3, h1, h2, klI]
theorem key_cell {m : Nat} {v : Value} {a : List Lit} (h : Try.prog.keyLits (m + 1) 3 [v] = some a) : ∃ x : Int, (Lit.int .i64 x).wf = true ∧ v = .int .i64 x ∧ a = [.int .i64 x] := by
  unfold Program.keyLits at h
  simp only [Try.underlying3] at h
  cases v <;> simp at h
  obtain ⟨⟨rfl, hw⟩, rfl⟩ := h
  exact ⟨_, hw, rfl, rfl⟩
theorem key_inv {v : Value} {kl : Lit} (h : keyOf Try.prog 33 v = some kl) : ∃ x, wfI x ∧ v = idV x ∧ kl = klI x := by
  obtain ⟨xs, L, rfl, hl, rfl⟩ := keyOf_top Try.wideI h
  obtain ⟨m, hm⟩ := sizeM
  rw [hm] at hl
  unfold Program.keyLits at hl
  simp only [Try.underlying33] at hl
  split at hl
  · rename_i hc
    obtain ⟨l⟩ := xs
    match l, hc with
    | [v0, v1], _ =>
      simp only [Try.cellsOfI, List.mapM_cons, List.mapM_nil, bind, pure, Option.bind_eq_some_iff, Option.map_eq_some_iff] at hl
      obtain ⟨a, ⟨a1, h1, a2, ⟨b, h2, a3, e3, e2⟩, e1⟩, rfl⟩ := hl
      obtain ⟨x, wx, rfl, rfl⟩ := key_cell h1
      obtain ⟨y, wy, rfl, rfl⟩ := key_cell h2
      cases e3; cases e2; cases e1
      exact ⟨(x, y), ⟨wx, wy⟩, rfl, rfl⟩
    | [], hc => simp [Try.cellsOfId] at hc
    | [_], hc => simp [Try.cellsOfId] at hc
    | _ :: _ :: _ :: _, hc => simp [Try.cellsOfId] at hc
  · cases hl
theorem klI_inj {x y : ID} (hx : wfI x) (hy : wfI y) (h : klI x = klI y) : x = y := by
  have := lawI.inj (key_of hx) (h ▸ key_of hy)
  simp only [idV, Value.agg.injEq] at this
  have h1 := congrArg (fun a : Array Value => a.toList) this
  simp at h1
  exact Prod.ext h1.1 h1.2
theorem klI_key {x : ID} (h : wfI x) : WideAt.IsKeyLit (klI x) := lawI.key (key_of h)

/-- a pointer to the block b; nil -/
abbrev ptrV (o : Option Nat) : Value := match o with | some b => .pointer (some ⟨b, 0, none⟩) | none => .pointer none
def ptrR : Value → Option (DataW Unit × List MemPlace)
  | .pointer (some ⟨b, 0, none⟩) => some (.lit (.int .i64 (b : Int)), [])
  | _ => none
theorem ptrR_mk (b : Nat) : ptrR (ptrV (some b)) = some (.lit (.int .i64 (b : Int)), []) := rfl
theorem ptrR_inv {v : Value} {y : DataW Unit × List MemPlace} (h : ptrR v = some y) : ∃ b : Nat, v = ptrV (some b) ∧ y = (.lit (.int .i64 (b : Int)), []) := by
  unfold ptrR at h
  split at h
  · cases h; exact ⟨_, rfl, rfl⟩
  · cases h
/-- the block of x in the datum D -/
def atF (D : DataW Unit) (x : ID) : Option Nat := match D.atKey (klI x) (.agg []) with | .lit (.int .i64 k) => some k.toNat | _ => none
theorem atF_of {D : DataW Unit} {x : ID} {b : Nat} (h : ∀ zd, D.atKey (klI x) zd = .lit (.int .i64 (b : Int))) : atF D x = some b := by simp [atF, h]
theorem atF_no {D : DataW Unit} {x : ID} (h : ∀ zd, D.atKey (klI x) zd = zd) : atF D x = none := by simp [atF, h]

/-- Block mb is a map of at most n entries: of x it has the pointer to the block f x. -/
def MapI (w : World) (mb n : Nat) (f : ID → Option Nat) : Prop := ∃ D, w.ownsMap Try.prog 33 ptrR mb n D ∧ (∀ x, wfI x → atF D x = f x) ∧ ∀ x, ¬ wfI x → f x = none
def updF (f : ID → Option Nat) (x : ID) (b : Nat) : ID → Option Nat := fun y => if y = x then some b else f y
def delF (f : ID → Option Nat) (x : ID) : ID → Option Nat := fun y => if y = x then none else f y
section
variable {w w' : World} {mb n r : Nat} {f : ID → Option Nat}
theorem MapI.wf (h : MapI w mb n f) {x : ID} {b : Nat} (hx : f x = some b) : wfI x := by
  obtain ⟨D, _, _, h3⟩ := h
  by_cases hw : wfI x
  · exact hw
  · rw [h3 x hw] at hx; cases hx
theorem MapI.lt (h : MapI w mb n f) : mb < w.heap.size := by obtain ⟨D, h, _⟩ := h; exact h.lt
theorem MapI.mono (h : MapI w mb n f) {n' : Nat} (hn : n ≤ n') : MapI w mb n' f := by obtain ⟨D, h, r⟩ := h; exact ⟨D, h.mono hn, r⟩
theorem MapI.keep {S : Nat → Prop} (h : MapI w mb n f) (hk : Keep S w w') (hn : ¬ S mb) : MapI w' mb n f := by
  obtain ⟨D, ⟨es, clock, hb, rest⟩, r⟩ := h
  exact ⟨D, ⟨es, clock, hk.heap hb hn, rest⟩, r⟩
theorem MapI.made (w : World) : MapI (w.alloc (.map #[] 0)) w.heap.size 0 (fun _ => none) :=
  ⟨_, World.ownsMap_made w Try.prog 33 ptrR, fun _ _ => atF_no (fun _ => rfl), fun _ _ => rfl⟩
theorem MapI.look (h : MapI w mb n f) {x : ID} (hx : wfI x) : (Instr.lookup 55 (.map (some mb)) (idV x) false).run Try.prog w = .ok (ptrV (f x)) w := by
  obtain ⟨D, ⟨es, clock, hb, F, hs, rfl⟩, h2, _⟩ := h
  rw [← h2 x hx]
  rcases Maps.fit_look false lawI Try.underlying55 (zeroDet w) hb F (key_of hx) with ⟨hrun, _, hat⟩ | ⟨e0, y, _, _, hrun, hR, hat, _⟩
  · rw [atF_no hat]; exact hrun
  · obtain ⟨b, hv, rfl⟩ := ptrR_inv hR
    rw [atF_of hat, ← hv]; exact hrun
theorem MapI.put (h : MapI w mb n f) {x : ID} (hx : wfI x) (b : Nat) (hn : n < maxLen) : ∃ w', (Instr.mapUpdate 55 (.map (some mb)) (idV x) (ptrV (some b))).run Try.prog w = .ok () w' ∧ MapI w' mb (n + 1) (updF f x b) ∧ Keep (fun g => g = mb) w w' := by
  obtain ⟨D, h, h2, h3⟩ := h
  have hm := h.isMap
  obtain ⟨w', hrun, ho, hg⟩ := h.update lawI Try.underlying55 hn (key_of hx) (ptrR_mk b)
  refine ⟨w', hrun, ⟨_, ho, fun y hy => ?_, fun y hy => ?_⟩, Keep.grown hg (fun k e => by injection e with e; exact e.symm)⟩
  · unfold updF
    split
    · rename_i e; subst e
      exact atF_of fun zd => Maps.atKey_put_same hm (klI_key hx) _ zd
    · rename_i e
      rw [← h2 y hy]
      unfold atF
      rw [Maps.atKey_put_other (fun e2 => e (klI_inj hy hx e2))]
  · unfold updF
    rw [if_neg (fun (e : y = x) => hy (e ▸ hx))]; exact h3 y hy
/-- 'for .. range m' under way: 'left': which IDs are to come. -/
def RangeI (w : World) (mb r n : Nat) (f : ID → Option Nat) (left : ID → Bool) (cnt : Nat) : Prop :=
  ∃ D lf, w.ranges Try.prog 33 ptrR mb r n D lf cnt ∧ (∀ x, wfI x → atF D x = f x) ∧ (∀ x, ¬ wfI x → f x = none) ∧ (∀ x, wfI x → lf (klI x) = left x) ∧ ∀ x, ¬ wfI x → left x = false
theorem RangeI.map {left : ID → Bool} {cnt : Nat} (h : RangeI w mb r n f left cnt) : MapI w mb n f := by obtain ⟨D, lf, h, h2, h3, _⟩ := h; exact ⟨D, h.owns, h2, h3⟩
theorem RangeI.ne {left : ID → Bool} {cnt : Nat} (h : RangeI w mb r n f left cnt) : r ≠ mb := by obtain ⟨D, lf, h, _⟩ := h; exact h.ne
theorem RangeI.lt {left : ID → Bool} {cnt : Nat} (h : RangeI w mb r n f left cnt) : r < w.heap.size := by obtain ⟨D, lf, h, _⟩ := h; exact h.lt
theorem RangeI.left_eq {left : ID → Bool} {cnt : Nat} (h : RangeI w mb r n f left cnt) : w.rangeLeft mb r = cnt := by obtain ⟨D, lf, h, _⟩ := h; exact h.left_eq
theorem RangeI.keep {S : Nat → Prop} {left : ID → Bool} {cnt : Nat} (h : RangeI w mb r n f left cnt) (hk : Keep S w w') (hn : ¬ S mb) (hr : ¬ S r) : RangeI w' mb r n f left cnt := by
  obtain ⟨D, lf, ⟨es, clock, since, seen, c0, hb, F, hs, hD, hr0, rest⟩, q⟩ := h
  exact ⟨D, lf, ⟨es, clock, since, seen, c0, hk.heap hb hn, F, hs, hD, hk.heap hr0 hr, rest⟩, q⟩
theorem has_atF {D : DataW Unit} (h : w.ownsMap Try.prog 33 ptrR mb n D) {x : ID} (hx : wfI x) : Maps.has D (klI x) = (atF D x).isSome := by
  obtain ⟨es, clock, hb, F, hs, rfl⟩ := h
  rcases Maps.fit_look false lawI Try.underlying55 (zeroDet w) hb F (key_of hx) with ⟨hrun, _, hat⟩ | ⟨e0, y, _, _, hrun, hR, hat, _⟩
  · rw [atF_no hat, Maps.has_false_of_atKey hat]; rfl
  · obtain ⟨b, hv, rfl⟩ := ptrR_inv hR
    rw [atF_of hat, Maps.has_true_of_atKey hat]; rfl
theorem MapI.range (h : MapI w mb n f) : ∃ w' cnt, (Instr.range 55 (.map (some mb))).run Try.prog w = .ok (.pointer (some ⟨w.heap.size, 0, none⟩)) w' ∧ RangeI w' mb w.heap.size n f (fun x => (f x).isSome) cnt ∧ cnt ≤ n ∧ Keep (fun _ => False) w w' ∧ w'.heap.size = w.heap.size + 1 := by
  obtain ⟨D, h, h2, h3⟩ := h
  obtain ⟨w', hrun, hr, hg, hs⟩ := h.range lawI Try.underlying55
  exact ⟨w', _, hrun, ⟨D, _, hr, h2, h3, fun x hx => by rw [has_atF h hx, h2 x hx], fun x hx => by simp [h3 x hx]⟩, h.size_le, Keep.grown hg (fun k e => by cases e), hs⟩
theorem RangeI.next {left : ID → Bool} {cnt : Nat} (h : RangeI w mb r n f left cnt) (ty : TypeId) :
    (cnt = 0 ∧ (∀ x, left x = false) ∧ (Instr.next (.pointer (some ⟨r, 0, none⟩)) false ty).run Try.prog w = .ok (.tuple #[.bool false]) w) ∨
    ∃ x b w' cnt', wfI x ∧ left x = true ∧ f x = some b ∧ (Instr.next (.pointer (some ⟨r, 0, none⟩)) false ty).run Try.prog w = .ok (.tuple #[.bool true, idV x, ptrV (some b)]) w' ∧
      RangeI w' mb r n f (fun y => left y && !decide (y = x)) cnt' ∧ cnt' < cnt ∧ Keep (fun g => g = r) w w' ∧ w'.heap.size = w.heap.size ∧ (Instr.entry (.pointer (some ⟨r, 0, none⟩))).run Try.prog w' = .ok (.tuple #[idV x, ptrV (some b)]) w' := by
  obtain ⟨D, lf, h, h2, h3, h4, h5⟩ := h
  rcases h.next lawI ty with ⟨h0, hl, hrun⟩ | ⟨key, v, kl, y, w', cnt', hkey, hlk, hv, hat, hrun, hrg, hlt, hgr, hsz, hen⟩
  · refine .inl ⟨h0, fun x => ?_, hrun⟩
    by_cases hx : wfI x
    · rw [← h4 x hx]; exact hl _
    · exact h5 x hx
  · obtain ⟨x, hx, rfl, rfl⟩ := key_inv hkey
    obtain ⟨b, rfl, rfl⟩ := ptrR_inv hv
    refine .inr ⟨x, b, w', cnt', hx, by rw [← h4 x hx]; exact hlk, by rw [← h2 x hx]; exact atF_of hat, hrun, ⟨D, _, hrg, h2, h3, fun y hy => ?_, fun y hy => by simp [h5 y hy]⟩, hlt, Keep.grown hgr (fun k e => by injection e with e; exact e.symm), hsz, hen⟩
    have e : (klI y).sameKey (klI x) = decide (y = x) := by
      by_cases he : y = x
      · subst he; simp [WideAt.sameKey_self (klI_key hx)]
      · rw [Maps.sameKey_ne (fun e2 => he (klI_inj hy hx e2))]; simp [he]
    simp only [e, h4 y hy]
theorem RangeI.drop {left : ID → Bool} {cnt : Nat} (h : RangeI w mb r n f left cnt) {x : ID} (hx : wfI x) (ty : TypeId) :
    ∃ w' cnt', (Builtin.delete_ #[55, 33] ty #[.map (some mb), idV x]).run Try.prog w = .ok (.tuple #[]) w' ∧ RangeI w' mb r n (delF f x) (fun y => left y && !decide (y = x)) cnt' ∧ cnt' ≤ cnt ∧ Keep (fun g => g = mb) w w' := by
  obtain ⟨D, lf, h, h2, h3, h4, h5⟩ := h
  obtain ⟨w', cnt', hrun, hrg, hle, ht⟩ := h.drop lawI Try.underlying55 (key_of hx) ty
  refine ⟨w', cnt', hrun, ⟨_, _, hrg, fun y hy => ?_, fun y hy => ?_, fun y hy => ?_, fun y hy => by simp [h5 y hy]⟩, hle, Keep.grown ht.grown (fun k e => by injection e with e; exact e.symm)⟩
  · unfold delF
    split
    · rename_i e; subst e
      exact atF_no fun zd => Maps.atKey_del_same zd
    · rename_i e
      rw [← h2 y hy]
      unfold atF
      rw [Maps.atKey_del_other (fun e2 => e (klI_inj hy hx e2))]
  · unfold delF
    split
    · rfl
    · exact h3 y hy
  · have e : (klI y).sameKey (klI x) = decide (y = x) := by
      by_cases he : y = x
      · subst he; simp [WideAt.sameKey_self (klI_key hx)]
      · rw [Maps.sameKey_ne (fun e2 => he (klI_inj hy hx e2))]; simp [he]
    simp only [e, h4 y hy]
theorem MapI.ne_blk (h : MapI w mb n f) {g : Nat} {t : TypeId} {cs : Array Value} (hb : Blk w g t cs) : g ≠ mb := by
  rintro rfl
  obtain ⟨D, ⟨es, clock, h1, _⟩, _⟩ := h
  unfold Blk at hb
  rw [h1] at hb; cases hb
theorem RangeI.ne_blk {left : ID → Bool} {cnt : Nat} (h : RangeI w mb r n f left cnt) {g : Nat} {t : TypeId} {cs : Array Value} (hb : Blk w g t cs) : g ≠ r ∧ g ≠ mb := by
  refine ⟨?_, h.map.ne_blk hb⟩
  rintro rfl
  obtain ⟨D, lf, ⟨es, clock, since, seen, c0, _, _, _, _, hr0, _⟩, _⟩ := h
  unfold Blk at hb
  rw [hr0] at hb; cases hb
theorem MapI.len (h : MapI w mb n f) (ty : TypeId) : ∃ k : Nat, k ≤ n ∧ (Builtin.len_ #[55] ty #[.map (some mb)]).run Try.prog w = .ok (.int .i64 (k : Int)) w := by
  obtain ⟨D, h, _⟩ := h
  exact ⟨_, h.size_le, h.len Try.underlying55 ty⟩
end
end Go.Proofs.Ytenphdgnaknbeaa
