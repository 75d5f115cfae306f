/-
  config.Parse.
-/
import Derived.Test.YtjgkalcldekmpaaGreatDoorCfgK
import Derived.Test.YtjgkalcldekmpaaGreatDoorKripIn
import Derived.Test.YtjgkalcldekmpaaGreatDoorRowIn
namespace Go.Proofs.YtjgkalcldekmpaaGreatDoor
open Go.RowKit Go Go.Shelf
attribute [local irreducible] kAll
attribute [local go_sem] kQuiet kQuietUpon
attribute [local go_sem] bs_toList bs_size bs_zero
attribute [local go_sem] Oper.semAt_some

/-- between two rounds of Parse -/
structure PAt (w : World) (b K v5 : Nat) (bx : Nat → Nat) (pre : List LnT) (st : PSt) (row : Option Nat) (W : World) : Prop where
  fold : pfold pre = .ok st
  pinv : PInv st
  oc : OC W b row st.1
  b1 : Blk W (b + 1) 3 #[.int .i64 0]
  b2 : Blk W (b + 1 + 1) 26 #[.int .i64 0]
  b5 : Blk W v5 45 #[.slice (some ⟨K, 0, none⟩) 17 17]
  b6 : Blk W (v5 + 1 + 1) 47 #[.slice (some ⟨v5 + 1, 0, none⟩) 17 17]
  hd : Blk W (v5 + 1) 4 (hadA st.2)
  ks : KeysAt W K bx
  env : Env W
  rn : 0 ∉ st.2 → row = none
  rf : ∀ g, row = some g → v5 + 4 ≤ g
  keep : Keep (fun _ => False) w W
  sz : v5 + 4 ≤ W.heap.size
theorem PAt.kept {w : World} {b K v5 : Nat} {bx : Nat → Nat} {pre : List LnT} {st : PSt} {row : Option Nat} {W W' : World} (h : PAt w b K v5 bx pre st row W) {S : Nat → Prop} (hk : Keep S W W') (hS : ∀ g t cs, Blk W g t cs → ¬ S g) (h9 : ∀ g, g < 9 → ¬ S g) (hw : ∀ g, S g → w.heap.size ≤ g) : PAt w b K v5 bx pre st row W' :=
  { fold := h.fold, pinv := h.pinv
    oc := h.oc.keep hk (by obtain ⟨_, _, hb, _⟩ := h.oc; exact hS _ _ _ hb) (fun g hg => by
      obtain ⟨_, _, _, hs, _⟩ := h.oc
      rcases hs.2.2.2 with ⟨q, _⟩ | ⟨g', off, cur, q, _, hb, _⟩
      · rw [q] at hg; cases hg
      · rw [hg] at q; injection q with q; subst q; exact hS _ _ _ hb)
    b1 := h.b1.keep hk (hS _ _ _ h.b1), b2 := h.b2.keep hk (hS _ _ _ h.b2), b5 := h.b5.keep hk (hS _ _ _ h.b5), b6 := h.b6.keep hk (hS _ _ _ h.b6), hd := h.hd.keep hk (hS _ _ _ h.hd)
    ks := h.ks.keep hk (hS _ _ _ h.ks.row) (fun i hi => hS _ _ _ (h.ks.box i hi))
    env := h.env.keepS hk h9, rn := h.rn, rf := h.rf, keep := h.keep.trans (hk.mono fun g _ hg => .inr (hw g hg)), sz := Nat.le_trans h.sz hk.size }
theorem PAt.keep0 {w : World} {b K v5 : Nat} {bx : Nat → Nat} {pre : List LnT} {st : PSt} {row : Option Nat} {W W' : World} (h : PAt w b K v5 bx pre st row W) (hk : Keep (fun _ => False) W W') : PAt w b K v5 bx pre st row W' :=
  h.kept hk (fun _ _ _ _ h => h) (fun _ _ h => h) (fun _ h => h.elim)
theorem not_cells {W : World} {r : Nat} (h : ∃ o : Obj, W.heap[r]? = some o ∧ o.isCells = false) : ∀ g t cs, Blk W g t cs → ¬ g = r := by
  intro g t cs hb e
  obtain ⟨o, ho, hc⟩ := h
  have h1 : W.heap[g]? = some (.cells cs t (0, 0)) := hb
  rw [e, ho] at h1
  injection h1 with h1
  rw [h1] at hc; cases hc
/-- a line that is wrong: what lies in the results -/
def PErr (w : World) (b : Nat) (pre : List LnT) (W : World) : Prop := ∃ at_ e, pfold pre = .error (at_, e) ∧ Blk W b 25 (cfgA (.slice none 0 0) (fun _ => 0)) ∧ Blk W (b + 1) 3 #[.int .i64 at_] ∧ Blk W (b + 1 + 1) 26 #[.int .i64 e] ∧ Keep (fun _ => False) w W
theorem keepsFrom_of {B : Nat} {W W' : World} {S : Nat → Prop} (hk : Keep S W W') (hS : ∀ k, S k → B ≤ k → ∃ t cs, Blk W k t cs) : KeepsFrom B W W' :=
  ⟨hk.size, fun k o hB ho hc => hk.heap ho (fun hs => by
    obtain ⟨t, cs, hb⟩ := hS k hs hB
    exact not_cells ⟨o, ho, hc⟩ k t cs hb rfl)⟩
theorem fold_a {pre : List LnT} {st : PSt} {at_ : Int} {l0 : Bs} {hl0 : l0.length ≤ 40000000} (h : pfold pre = .ok st) (hl : l0 ≠ []) (hi : (cutM 61 l0).2.2 = false ∨ keyN (trimM (cutM 61 l0).1) = 17) :
    pfold (pre ++ [⟨(at_, l0), hl0⟩]) = .error (at_, 4) := by
  have e : pstep st ⟨(at_, l0), hl0⟩ = .error (at_, 4) := by
    unfold pstep
    rw [if_neg hl, if_pos hi]
  rw [pfold_snoc, h, Except.bind, e]
/-- a line with a key -/
theorem fold_b {pre : List LnT} {st : PSt} {at_ : Int} {l0 : Bs} {hl0 : l0.length ≤ 40000000} {i : Nat} {vl : Bs} (h : pfold pre = .ok st) (hl : l0 ≠ []) (hi : (cutM 61 l0).2.2 = true) (hk : keyN (trimM (cutM 61 l0).1) = i) (h17 : i < 17) (hv : (cutM 61 l0).2.1 = vl) :
    pfold (pre ++ [⟨(at_, l0), hl0⟩]) = match setM i st.1 (trimM vl) with
      | none => .error (at_, 4)
      | some c => if i ∈ st.2 then .error (at_, 6) else .ok (c, i :: st.2) := by
  have e : pstep st ⟨(at_, l0), hl0⟩ = match setM i st.1 (trimM vl) with
      | none => .error (at_, 4)
      | some c => if i ∈ st.2 then .error (at_, 6) else .ok (c, i :: st.2) := by
    subst hk hv
    unfold pstep
    rw [if_neg hl, if_neg (by rw [hi]; simp only [Bool.true_eq_false, false_or]; omega)]
    rfl
  rw [pfold_snoc, h, Except.bind, e]
theorem OC.rowBlk {w : World} {b : Nat} {row : Option Nat} {c : Cfg} (h : OC w b row c) (g : Nat) (hg : row = some g) : ∃ t cs, Blk w g t cs := by
  obtain ⟨A, cap, _, hs, _⟩ := h
  rcases hs.2.2.2 with ⟨q, _⟩ | ⟨g', off, cur, q, _, hb, _⟩
  · rw [q] at hg; cases hg
  · rw [hg] at q; injection q with q; subst q; exact ⟨_, _, hb⟩
/-- behind a key's set -/
theorem PAt.behind {w : World} {b K v5 : Nat} {bx : Nat → Nat} {pre : List LnT} {st : PSt} {row : Option Nat} {W W' : World} {i : Nat} (h : PAt w b K v5 bx pre st row W) (hk : Keep (fun g => g = b ∨ (i = 0 ∧ row = some g)) W W') (hv : b + 3 ≤ v5) (hw : w.heap.size ≤ b) (h9 : 9 ≤ b)
    (hK : b + 3 ≤ K ∧ K < v5) (hbx : ∀ i, isNum i ∨ isFlag i → b + 3 ≤ bx i ∧ bx i < v5) :
    Blk W' (b + 1) 3 #[.int .i64 0] ∧ Blk W' (b + 1 + 1) 26 #[.int .i64 0] ∧ Blk W' (v5 + 1 + 1) 47 #[.slice (some ⟨v5 + 1, 0, none⟩) 17 17] ∧ Blk W' (v5 + 1) 4 (hadA st.2) ∧ KeysAt W' K bx ∧ Env W' ∧ Keep (fun _ => False) w W' ∧ Blk W' v5 45 #[.slice (some ⟨K, 0, none⟩) 17 17] := by
  have no : ∀ g, g < v5 + 4 → g ≠ b → ¬ (g = b ∨ (i = 0 ∧ row = some g)) := fun g hg hb e => by
    rcases e with e | ⟨_, e⟩
    · exact hb e
    · have := h.rf g e; omega
  exact ⟨h.b1.keep hk (no _ (by omega) (by omega)), h.b2.keep hk (no _ (by omega) (by omega)), h.b6.keep hk (no _ (by omega) (by omega)), h.hd.keep hk (no _ (by omega) (by omega)),
    h.ks.keep hk (no _ (by omega) (by omega)) (fun i hi => by have := hbx i hi; exact no _ (by omega) (by omega)), h.env.keepS hk (fun g hg => no _ (by omega) (by omega)),
    h.keep.trans (hk.mono fun g _ e => .inr (by rcases e with e | ⟨_, e⟩; · omega
                                                · have := h.rf g e; omega)), h.b5.keep hk (no _ (by omega) (by omega))⟩
/-- a round that goes on -/
theorem PAt.next {w : World} {b K v5 : Nat} {bx : Nat → Nat} {pre xs : List LnT} {st : PSt} {row : Option Nat} {W V5 V6 : World} {i B : Nat} {c' : Cfg} {l : Bs} (h : PAt w b K v5 bx pre st row W) (hk5 : Keep (fun _ => False) W V5) (hk6 : Keep (fun g => g = b ∨ (i = 0 ∧ row = some g)) V5 V6) (hv : b + 3 ≤ v5) (hw : w.heap.size = b) (h9 : 9 ≤ b)
    (hK : b + 3 ≤ K ∧ K < v5) (hbx : ∀ i, isNum i ∨ isFlag i → b + 3 ≤ bx i ∧ bx i < v5) (hi : i < 17) (hn : i ∉ st.2) (hl : l.length ≤ 40000000) (hs : setM i st.1 l = some c')
    (hoc : ∃ row', OC V6 b row' c' ∧ (row' = row ∨ (i = 0 ∧ ∀ g, row' = some g → V5.heap.size ≤ g))) (hB : B = v5 + 4) (hf : pfold xs = .ok (c', i :: st.2)) :
    KeepsFrom B W (V6.setCell ⟨v5 + 1, i, none⟩ (.bool true)) ∧ KpL B W (V6.setCell ⟨v5 + 1, i, none⟩ (.bool true)) ∧ ∃ st row, PAt w b K v5 bx xs st row (V6.setCell ⟨v5 + 1, i, none⟩ (.bool true)) := by
  obtain ⟨h1, h2, h6, hd, hks, henv, hkw, h5⟩ := (h.keep0 hk5).behind hk6 hv (by omega) h9 hK hbx
  obtain ⟨row', ho, hrow⟩ := hoc
  have hk7 : Keep (fun g => g = b) V5 V6 := hk6.mono fun g _ e => by
    rcases e with e | ⟨e0, e⟩
    · exact e
    · rw [h.rn (by rw [← e0]; exact hn)] at e; cases e
  have hks8 : Keep (fun g => g = v5 + 1) V6 (V6.setCell ⟨v5 + 1, i, none⟩ (.bool true)) := (Keep.refl (fun g => g = v5 + 1) V6).setCell (fun _ => rfl) _
  have hkA : Keep (fun g => g = b ∨ g = v5 + 1) W (V6.setCell ⟨v5 + 1, i, none⟩ (.bool true)) :=
    (hk5.mono fun _ _ e => e.elim).trans ((hk7.mono fun g _ e => .inl e).trans (hks8.mono fun g _ e => .inl (.inr e)) |>.mono fun g _ e => .inl e)
  have hrf : ∀ g, row' = some g → v5 + 4 ≤ g := fun g e => by
    rcases hrow with q | ⟨_, q⟩
    · exact h.rf g (q ▸ e)
    · exact Nat.le_trans h.sz (Nat.le_trans hk5.size (q g e))
  have hd' := hd.set_ i (.bool true)
  rw [hadA_set _ hi] at hd'
  refine ⟨keepsFrom_of hkA (fun k hk hB' => by omega), KpL.of_keep hkA (fun g hg => by omega) (fun g hg => by omega), (c', i :: st.2), row', ?_⟩
  refine { fold := hf, pinv := h.pinv.set hi hl hs hn, oc := ho.keep hks8 (by omega) (fun g e => (by have := hrf g e; omega)), b1 := h1.keep hks8 (by omega), b2 := h2.keep hks8 (by omega), b5 := h5.keep hks8 (by omega), b6 := h6.keep hks8 (by omega), hd := hd', ks := hks.keep hks8 (by omega) (fun i hi => (by have := hbx i hi; omega)), env := henv.keepS hks8 (fun g hg => by omega), rn := fun e => ?_, rf := hrf, keep := ?_, sz := ?_ }
  · rcases hrow with q | ⟨q, _⟩
    · rw [q]; exact h.rn (fun e' => e (List.mem_cons_of_mem _ e'))
    · exact absurd (by rw [q]; exact List.mem_cons_self) e
  · exact hkw.trans (hks8.mono fun g _ e => .inr (by omega))
  · have := hk5.size
    have := hk7.size
    have := hks8.size
    have := h.sz
    omega
theorem infoCfg : (Tryz.prog.info? 25).map (·.size) = some 17 := by kernel_rfl
def zc : Array Value := #[.slice none 0 0, .int .i64 0, .int .i64 0, .int .i64 0, .int .i64 0, .int .i64 0, .int .i64 0, .int .i64 0, .int .u8 0, .int .i64 0, .bool false, .bool false, .int .i64 0, .int .i64 0, .int .i64 0, .int .i64 0, .int .i64 0]
/-- behind the first store of a return -/
theorem row_first (cs2 : Array Value) {V : World} {b : Nat} {cs : Array Value} {x y : Value} (hb : Blk V b 25 cs) (h1 : Blk V (b + 1) 3 #[x]) (h2 : Blk V (b + 1 + 1) 26 #[y]) :
    Blk (V.setRow b cs2) b 25 cs2 ∧ Blk (V.setRow b cs2) (b + 1) 3 #[x] ∧ Blk (V.setRow b cs2) (b + 1 + 1) 26 #[y] ∧
    (V.setRow b cs2).cell? ⟨b + 1, 0, none⟩ = some x ∧ (V.setRow b cs2).frozen? ⟨b + 1, 0, none⟩ = false ∧ (V.setRow b cs2).cell? ⟨b + 1 + 1, 0, none⟩ = some y ∧ (V.setRow b cs2).frozen? ⟨b + 1 + 1, 0, none⟩ = false := by
  have k := Keep.setRow_ V b cs2
  have q1 := h1.keep k (by omega)
  have q2 := h2.keep k (by omega)
  exact ⟨hb.setRow_ cs2, q1, q2, by simpa using q1.cell 0, q1.frozen 0, by simpa using q2.cell 0, q2.frozen 0⟩
theorem err_first {V : World} {b : Nat} {cs : Array Value} {x y : Value} (hb : Blk V b 25 cs) (h1 : Blk V (b + 1) 3 #[x]) (h2 : Blk V (b + 1 + 1) 26 #[y]) :
    Blk (V.setRow b zc) b 25 (cfgA (.slice none 0 0) (fun _ => 0)) ∧ Blk (V.setRow b zc) (b + 1) 3 #[x] ∧ Blk (V.setRow b zc) (b + 1 + 1) 26 #[y] ∧
    (V.setRow b zc).cell? ⟨b + 1, 0, none⟩ = some x ∧ (V.setRow b zc).frozen? ⟨b + 1, 0, none⟩ = false ∧ (V.setRow b zc).cell? ⟨b + 1 + 1, 0, none⟩ = some y ∧ (V.setRow b zc).frozen? ⟨b + 1 + 1, 0, none⟩ = false := row_first zc hb h1 h2
/-- the function's end -/
theorem fin_world {V : World} {b D : Nat} {cs : Array Value} {x y : Value} (cs2 : Array Value) (x2 y2 : Value) (hb : Blk V b 25 cs) (h1 : Blk V (b + 1) 3 #[x]) (h2 : Blk V (b + 1 + 1) 26 #[y]) (hD : V.heap[D]? = some (.deferred (some []))) (hbD : b + 3 ≤ D) :
    (((V.setRow b cs2).setCell ⟨b + 1, 0, none⟩ x2).setCell ⟨b + 1 + 1, 0, none⟩ y2).heap[D]? = some (.deferred (some [])) ∧
    Blk ((((V.setRow b cs2).setCell ⟨b + 1, 0, none⟩ x2).setCell ⟨b + 1 + 1, 0, none⟩ y2).putObj D (.deferred none)) b 25 cs2 ∧ Blk ((((V.setRow b cs2).setCell ⟨b + 1, 0, none⟩ x2).setCell ⟨b + 1 + 1, 0, none⟩ y2).putObj D (.deferred none)) (b + 1) 3 #[x2] ∧
    Blk ((((V.setRow b cs2).setCell ⟨b + 1, 0, none⟩ x2).setCell ⟨b + 1 + 1, 0, none⟩ y2).putObj D (.deferred none)) (b + 1 + 1) 26 #[y2] ∧
    Keep (fun g => (b ≤ g ∧ g < b + 3) ∨ g = D) V ((((V.setRow b cs2).setCell ⟨b + 1, 0, none⟩ x2).setCell ⟨b + 1 + 1, 0, none⟩ y2).putObj D (.deferred none)) := by
  obtain ⟨hz, q1, q2, _⟩ := row_first cs2 hb h1 h2
  have kA : ∀ (w : World) (v : Value), Keep (fun g => g = b + 1) w (w.setCell ⟨b + 1, 0, none⟩ v) := fun w v => (Keep.refl (fun g => g = b + 1) w).setCell (fun _ => rfl) v
  have kB : ∀ (w : World) (v : Value), Keep (fun g => g = b + 1 + 1) w (w.setCell ⟨b + 1 + 1, 0, none⟩ v) := fun w v => (Keep.refl (fun g => g = b + 1 + 1) w).setCell (fun _ => rfl) v
  have k3 : Keep (fun g => b ≤ g ∧ g < b + 3) V (((V.setRow b cs2).setCell ⟨b + 1, 0, none⟩ x2).setCell ⟨b + 1 + 1, 0, none⟩ y2) :=
    (((Keep.setRow_ V b cs2).mono fun g _ e => (by omega : b ≤ g ∧ g < b + 3)).setCell (fun _ => (by simp only []; omega)) _).setCell (fun _ => (by simp only []; omega)) _
  have kD : ∀ w : World, Keep (fun g => g = D) w (w.putObj D (.deferred none)) := fun w => Keep.grown (grownBy_putObj' w D _) (fun k e => by injection e with e; exact e.symm)
  refine ⟨k3.heap hD (by omega), ?_, ?_, ?_, (k3.mono fun g _ h => .inl h).trans ((kD _).mono fun g _ h => .inl (.inr h))⟩
  · exact (((hz.keep (kA _ _) (by omega)).keep (kB _ _) (by omega))).keep (kD _) (by omega)
  · exact ((q1.set_ 0 x2).keep (kB _ _) (by omega)).keep (kD _) (by omega)
  · exact ((q2.keep (kA _ _) (by omega)).set_ 0 y2).keep (kD _) (by omega)
theorem fin_ok {s : Bs} {w V : World} {c : Cfg} {x y : Int} {row : Option Nat} {A : Option Addr} {cap : Nat} (hp : parseM s = (c, x, y)) (hs : SlK V 3 1 row A c.seeds.length cap (c.seeds.map (Value.int .i64))) (hr : ∀ g, row = some g → w.heap.size ≤ g) (hk : Keep (fun _ => False) w V) :
    ∃ (row : Option Nat) (A' : Option Addr) (cap' : Nat), Ending.returned (.tuple #[.agg (cfgA (.slice A c.seeds.length cap) c.v), .int .i64 x, .int .i64 y]) = .returned (.tuple #[.agg (cfgA (.slice A' (parseM s).1.seeds.length cap') (parseM s).1.v), .int .i64 (parseM s).2.1, .int .i64 (parseM s).2.2]) ∧
      SlK V 3 1 row A' (parseM s).1.seeds.length cap' ((parseM s).1.seeds.map (Value.int .i64)) ∧ (∀ g, row = some g → w.heap.size ≤ g) ∧ Keep (fun _ => False) w V := by
  rw [hp]; exact ⟨row, A, cap, rfl, hs, hr, hk⟩
theorem parseM_ok {s : Bs} {st : PSt} (h : pfold (nl s) = .ok st) : parseM s = if mayM st.1 then (st.1, 0, 0) else (zeroCfg, 0, 1) := by unfold parseM; rw [h]
theorem parseM_err {s : Bs} {pre : List LnT} {k : Nat} {at_ e : Int} (hp : pre = (nl s).take k) (h : pfold pre = .error (at_, e)) : parseM s = (zeroCfg, at_, e) := by
  have h2 : pfold (nl s) = .error (at_, e) := by
    have := pfold_err (ys := (nl s).drop k) h
    rw [hp, List.take_append_drop] at this
    exact this
  unfold parseM; rw [h2]
theorem slk_blk {w : World} {e : TypeId} {k : Nat} {row : Option Nat} {A : Option Addr} {n c : Nat} {xs : List Value} (h : SlK w e k row A n c xs) (g : Nat) (hg : row = some g) : ∃ t cs, Blk w g t cs := by
  rcases h.2.2.2 with ⟨q, _⟩ | ⟨g', off, cur, q, _, hb, _⟩
  · rw [q] at hg; cases hg
  · rw [hg] at q; injection q with q; subst q; exact ⟨_, _, hb⟩
theorem cfgA_one (A : Option Addr) (n cap : Nat) (v : Nat → Int) : (cfgA (.slice A n cap) v).all (·.oneCell') = true := by rw [cfgA_explicit]; simp [Value.oneCell']
theorem mayM_any (c : Cfg) (A : Option Addr) (cap : Nat) (w : World) (h : RdN w A c.seeds.length c.seeds) (hb : c.seeds.length ≤ 600000000) :
    Calls Tryz.prog 16 #[.agg (cfgA (.slice A c.seeds.length cap) c.v)] w (Tell (.bool (mayM c)) w) :=
  mayX_any c.seeds (c.v 1) (c.v 2) (c.v 3) (c.v 4) (c.v 5) (c.v 6) (c.v 7) (c.v 8) (c.v 9) (decide (c.v 10 ≠ 0)) (decide (c.v 11 ≠ 0)) (c.v 12) (c.v 13) (c.v 14) (c.v 15) (c.v 16) A c.seeds.length cap w h hb
/-- behind 'return api.Config{}, at, e' -/
theorem errPost {w W V : World} {b : Nat} {S : Nat → Prop} {B : Nat} {cs : Array Value} {x y : Value} {xs : List LnT} (at_ e : Int) (hb : Blk V b 25 cs) (h1 : Blk V (b + 1) 3 #[x]) (h2 : Blk V (b + 1 + 1) 26 #[y])
    (hKW : Keep S W V) (hS : ∀ k, S k → B ≤ k → ∃ t cs, Blk W k t cs) (hf : pfold xs = .error (at_, e)) (hw : Keep (fun _ => False) w V) (hwb : w.heap.size ≤ b) (hbB : b + 3 ≤ B) :
    KeepsFrom B W (((V.setRow b zc).setCell ⟨b + 1, 0, none⟩ (.int .i64 at_)).setCell ⟨b + 1 + 1, 0, none⟩ (.int .i64 e)) ∧ Code.ret = .ret ∧ PErr w b xs (((V.setRow b zc).setCell ⟨b + 1, 0, none⟩ (.int .i64 at_)).setCell ⟨b + 1 + 1, 0, none⟩ (.int .i64 e)) := by
  obtain ⟨hz, q1, q2, _⟩ := err_first hb h1 h2
  have kA : ∀ (w : World) (v : Value), Keep (fun g => g = b + 1) w (w.setCell ⟨b + 1, 0, none⟩ v) := fun w v => (Keep.refl (fun g => g = b + 1) w).setCell (fun _ => rfl) v
  have kB : ∀ (w : World) (v : Value), Keep (fun g => g = b + 1 + 1) w (w.setCell ⟨b + 1 + 1, 0, none⟩ v) := fun w v => (Keep.refl (fun g => g = b + 1 + 1) w).setCell (fun _ => rfl) v
  have k3 : Keep (fun g => b ≤ g ∧ g < b + 3) V (((V.setRow b zc).setCell ⟨b + 1, 0, none⟩ (.int .i64 at_)).setCell ⟨b + 1 + 1, 0, none⟩ (.int .i64 e)) :=
    (((Keep.setRow_ V b zc).mono fun g _ e => (by omega : b ≤ g ∧ g < b + 3)).setCell (fun _ => (by simp only []; omega)) _).setCell (fun _ => (by simp only []; omega)) _
  refine ⟨keepsFrom_of (S := fun k => S k ∨ (b ≤ k ∧ k < b + 3)) ((hKW.mono fun g _ h => .inl h).trans (k3.mono fun g _ h => .inl (.inr h))) (fun k hk hB => ?_), rfl, at_, e, hf, ?_, ?_, ?_, ?_⟩
  · rcases hk with hk | hk
    · exact hS k hk hB
    · omega
  · exact (hz.keep (kA _ _) (by omega)).keep (kB _ _) (by omega)
  · exact (q1.set_ 0 _).keep (kB _ _) (by omega)
  · exact (q2.keep (kA _ _) (by omega)).set_ 0 _
  · exact hw.trans (k3.mono fun g _ h => .inr (by omega))
theorem infoBool : (Tryz.prog.info? 4).map (fun i => (i.zero, i.size, i.bytes)) = some (some (.bool false), 1, 1) := by kernel_rfl
theorem made_had : madeCells (Value.bool false).cells ((17 : Int).toNat * 1) = hadA [] := by
  apply Array.ext
  · simp [madeCells, hadA]
  · intro i h1 h2
    simp [madeCells, hadA, Value.cells, Nat.mod_one]
set_option maxRecDepth 100000 in
set_option maxHeartbeats 8000000 in
theorem parse_any (s : Bs) (w : World) (hE : Env w) (hs : s.length ≤ 40000000) :
    Calls Tryz.prog 10 #[.string (bs s)] w fun e w' => ∃ (row : Option Nat) (A : Option Addr) (cap : Nat), e = .returned (.tuple #[.agg (cfgA (.slice A (parseM s).1.seeds.length cap) (parseM s).1.v), .int .i64 (parseM s).2.1, .int .i64 (parseM s).2.2]) ∧
      SlK w' 3 1 row A (parseM s).1.seeds.length cap ((parseM s).1.seeds.map (Value.int .i64)) ∧ (∀ g, row = some g → w.heap.size ≤ g) ∧ Keep (fun _ => False) w w' := by
  have eg : ∀ args w, (callFunc 62 args).run Tryz.prog w = .ok (.enter 62 args) w := enters_of Tryz.func62 (by kernel_rfl) rfl
  have HE := Lib.hid hE
  clear hE
  refine (callsIn_wide (n := 8)).1 ?_
  refine callsIn_of_wp_marks Tryz.func10 rfl trivial ?_ rfl
  simp only [Tryz.ntmps10, List.size_toArray, List.length_cons, List.length_nil, Nat.reduceAdd, Nat.reduceSub, Array.replicate_succ, Array.replicate_zero, List.push_toArray, List.append_toArray, List.nil_append, List.cons_append]
  gi_wp2_with fail
  obtain ⟨W0, hW0⟩ : ∃ W0, ((w.alloc (.cells #[.slice none 0 0, .int .i64 0, .int .i64 0, .int .i64 0, .int .i64 0, .int .i64 0, .int .i64 0, .int .i64 0, .int .u8 0, .int .i64 0, .bool false, .bool false, .int .i64 0, .int .i64 0, .int .i64 0, .int .i64 0, .int .i64 0] 25)).alloc (.cells #[.int .i64 0] 3)).alloc (.cells #[.int .i64 0] 26) = W0 := ⟨_, rfl⟩
  have hOC0 : OC W0 w.heap.size none zeroCfg := by
    rw [← hW0]
    exact ⟨none, 0, ((Blk.new w 25 _).alloc _).alloc _, SlK.nil_ _ _ _, HE.out.nine, fun g hg => by cases hg⟩
  have hB10 : Blk W0 (w.heap.size + 1) 3 #[.int .i64 0] := by rw [← hW0]; exact (Blk.new_ (by simp) _ _).alloc _
  have hB20 : Blk W0 (w.heap.size + 1 + 1) 26 #[.int .i64 0] := by rw [← hW0]; exact Blk.new_ (by simp) _ _
  have hK0 : Keep (fun _ => False) w W0 := by rw [← hW0]; exact (((Keep.refl _ w).alloc _).alloc _).alloc _
  rw [hW0]
  clear hW0
  have H9 := Lib.hid HE.out.nine
  obtain ⟨b, hbe⟩ : ∃ b, w.heap.size = b := ⟨_, rfl⟩
  rw [hbe] at hOC0 hB10 hB20 ⊢
  have HBe := Lib.hid hbe
  have HO0 := Lib.hid hOC0
  have HB10 := Lib.hid hB10
  have HB20 := Lib.hid hB20
  have HK0 := Lib.hid hK0
  clear hOC0 hB10 hB20 hK0 hbe
  refine ⟨trivial, CallsIn.mono (callsIn_wide.2 (keys_any W0)) ?_⟩
  rintro e W1 ⟨K, bx, rfl, hKs, hKl, hbl, hk⟩
  have HKs := Lib.hid hKs
  have HKl := Lib.hid hKl
  have HBl := Lib.hid hbl
  have HK1 := Lib.hid hk
  clear hKs hKl hbl hk
  have hB5 := Blk.new W1 45 #[.slice (some ⟨K, 0, none⟩) 17 17]
  have c5 := hB5.cell 0
  simp at c5
  obtain ⟨j0, hj, hj0, hj1, hj2⟩ := info_parts infoBool
  have hmk := run_makeSlice (P := Tryz.prog) (w := W1.alloc (.cells #[.slice (some ⟨K, 0, none⟩) 17 17] 45)) 47 4 j0 _ Tryz.underlying47 hj hj0 .i64 .i64 17 17 (by decide) (by decide) (by rw [hj1]; decide) (by rw [hj2]; decide) (by decide)
  rw [hj1, made_had] at hmk
  simp only [World.size_alloc, Int.reduceToNat] at hmk
  clear hj hj0 hj1 hj2
  gi_wp2_with fail
  obtain ⟨W2, hW2⟩ : ∃ W2, ((W1.alloc (.cells #[.slice (some ⟨K, 0, none⟩) 17 17] 45)).alloc (.cells (hadA []) 4)).alloc (.cells #[.slice (some ⟨W1.heap.size + 1, 0, none⟩) 17 17] 47) = W2 := ⟨_, rfl⟩
  have hk2 : Keep (fun _ => False) W1 W2 := by rw [← hW2]; exact (((Keep.refl _ W1).alloc _).alloc _).alloc _
  have hB5' : Blk W2 W1.heap.size 45 #[.slice (some ⟨K, 0, none⟩) 17 17] := by rw [← hW2]; exact ((Blk.new W1 _ _).alloc _).alloc _
  have hHd : Blk W2 (W1.heap.size + 1) 4 (hadA []) := by rw [← hW2]; exact (Blk.new_ (by simp) _ _).alloc _
  have hB6 : Blk W2 (W1.heap.size + 1 + 1) 47 #[.slice (some ⟨W1.heap.size + 1, 0, none⟩) 17 17] := by rw [← hW2]; exact Blk.new_ (by simp) _ _
  have hs2 : W2.heap.size = W1.heap.size + 3 := by rw [← hW2]; simp
  rw [hW2]
  clear hW2 hmk c5 hB5
  obtain ⟨v5, hv5⟩ : ∃ v, W1.heap.size = v := ⟨_, rfl⟩
  rw [hv5] at hB5' hHd hB6 hs2 ⊢
  have HV5 := Lib.hid hv5
  have HB5 := Lib.hid hB5'
  have HHd := Lib.hid hHd
  have HB6 := Lib.hid hB6
  have HK2 := Lib.hid hk2
  have HS2 := Lib.hid hs2
  clear hk2 hB5' hHd hB6 hs2 hv5
  refine ⟨trivial, CallsIn.mono (callsIn_wide.2 (lines_any s W2)) ?_⟩
  rintro e W3 ⟨rfl, hW3⟩
  have hk3 : Keep (fun _ => False) W2 W3 := by rw [hW3]; exact (Keep.refl _ _).alloc _
  have hB7 : Blk W3 W2.heap.size 9 #[.string (bs s)] := by rw [hW3]; exact Blk.new _ _ _
  have hs3 : W3.heap.size = v5 + 4 := by rw [hW3]; simp [HS2.out]
  clear hW3
  gi_wp2
  have h9b : 9 ≤ b := by rw [← HBe.out]; exact H9.out
  have hv5b : b + 3 ≤ v5 := by
    have h1 := HK0.out.size
    have h2 := HK1.out.size
    obtain ⟨_, _, h3, _⟩ := HO0.out
    have h4 := HB20.out.lt
    have := HV5.out
    omega
  have hP3 : PAt w b K v5 bx [] (zeroCfg, []) none W3 :=
    { fold := rfl, pinv := pinv_zero
      oc := ((HO0.out.keep0 HK1.out).keep0 HK2.out).keep0 hk3
      b1 := ((HB10.out.keep HK1.out (fun h => h)).keep HK2.out (fun h => h)).keep hk3 (fun h => h)
      b2 := ((HB20.out.keep HK1.out (fun h => h)).keep HK2.out (fun h => h)).keep hk3 (fun h => h)
      b5 := HB5.out.keep hk3 (fun h => h), b6 := HB6.out.keep hk3 (fun h => h), hd := HHd.out.keep hk3 (fun h => h)
      ks := (HKs.out.keep0 HK2.out).keep0 hk3
      env := HE.out.keep0 (keep0_trans _ _ _ HK0.out (keep0_trans _ _ _ HK1.out (keep0_trans _ _ _ HK2.out hk3)))
      rn := fun _ => rfl, rf := fun g hg => by cases hg
      keep := keep0_trans _ _ _ HK0.out (keep0_trans _ _ _ HK1.out (keep0_trans _ _ _ HK2.out hk3)), sz := Nat.le_of_eq hs3.symm }
  have hseq := lines1_stops 7 (by omega) W2.heap.size s hs W3 hP3.env hB7
  have HP3 := Lib.hid hP3
  have HSq := Lib.hid hseq
  have HKl' := Lib.hid (show b + 3 ≤ K ∧ K < v5 from ⟨by have h1 := HKl.out; have h2 := HB20.out.lt; omega, by have := HKs.out.row.lt; rw [HV5.out] at this; exact this⟩)
  have HBx' := Lib.hid (show ∀ i, isNum i ∨ isFlag i → b + 3 ≤ bx i ∧ bx i < v5 from fun i hi => ⟨by have h1 := HBl.out i hi; have h2 := HB20.out.lt; omega, by have := (HKs.out.box i hi).lt; rw [HV5.out] at this; exact this⟩)
  clear hP3 hseq HO0 HB10 HB20 HB5 HHd HB6 HK2 HS2 hk3 hB7 HKs HKl HBl HK1 HK0 HV5
  refine wpIn_rangeFunc_ownG rfl (by omega) rfl trivial eg HSq.out (fun h k => h.trans k) (KpL.put (by omega) (Nat.le_refl _)) (Below.refl _ _) (fun _ => rfl)
    (fun pre W => ∃ st row, PAt w b K v5 bx pre st row W) (fun c pre W => c = .ret ∧ PErr w b pre W) ?_ ?_ ⟨_, _, HP3.out⟩ (fun x => { tmps := #[.string (bs s), undef, .pointer (some ⟨b, 0, none⟩), .pointer (some ⟨b + 1, 0, none⟩), .pointer (some ⟨b + 1 + 1, 0, none⟩), .pointer (some ⟨v5, 0, none⟩), .pointer (some ⟨v5 + 1 + 1, 0, none⟩), .int .i64 x.1.1, .string (bs x.1.2), undef, undef, undef, undef, .slice (some ⟨K, 0, none⟩) 17 17, .slice (some ⟨K, 0, none⟩) 17 17, .int .i64 17, .slice (some ⟨v5 + 1, 0, none⟩) 17 17, .string (bs s), .func (.func 62) #[] #[.pointer (some ⟨W2.heap.size, 0, none⟩)], .int .i64 x.1.1, .string (bs x.1.2), undef, undef, undef, undef, undef, undef, undef, undef, undef, undef, undef, undef, undef, undef, undef, undef, undef, undef, undef, undef, undef, undef, undef, undef, undef, undef, undef, undef, undef, undef, undef, undef, undef, undef, undef, undef, undef, undef, undef, undef, undef, undef, undef, undef, undef, undef, undef, undef], defers := [] }) ?_ ?_ ?_ ?_
  · intro pre W W' row ⟨st, row1, h⟩ hg hr
    cases row with
    | none => exact ⟨st, row1, h.keep0 (Keep.grown hg (fun k e => by cases e))⟩
    | some r =>
      obtain ⟨h1, h2⟩ := hr r rfl
      exact ⟨st, row1, h.kept (S := fun k => k = r) (Keep.grown hg (fun k e => by injection e with e; exact e.symm)) (fun g t cs hb => not_cells h2 g t cs hb) (fun g hg e => by omega) (fun g e => by rw [HBe.out]; omega)⟩
  · intro c pre W W' row ⟨hc, at_, e, h1, h2, h3, h4, h5⟩ hg hr
    cases row with
    | none =>
      have hk : Keep (fun _ => False) W W' := Keep.grown hg (fun k e => by cases e)
      exact ⟨hc, at_, e, h1, h2.keep hk (fun h => h), h3.keep hk (fun h => h), h4.keep hk (fun h => h), keep0_trans _ _ _ h5 hk⟩
    | some r =>
      obtain ⟨q1, q2⟩ := hr r rfl
      have hk : Keep (fun k => k = r) W W' := Keep.grown hg (fun k e => by injection e with e; exact e.symm)
      exact ⟨hc, at_, e, h1, h2.keep hk (not_cells q2 _ _ _ h2), h3.keep hk (not_cells q2 _ _ _ h3), h4.keep hk (not_cells q2 _ _ _ h4), h5.trans (hk.mono fun k _ e => .inr (by rw [HBe.out]; omega))⟩
  · intro l x W Kc hK
    have HKc := Lib.hid hK
    clear hK
    have hz : ((#[19, 20] : Array Tmp).zip (encL x)) = #[(19, .int .i64 x.1.1), (20, .string (bs x.1.2))] := by simp [encL, Array.zip]
    rw [hz]
    simp only [List.size_toArray, List.foldl_toArray', List.foldl_cons, List.foldl_nil, List.setIfInBounds_toArray, List.set_cons_succ, List.set_cons_zero]
    gi_wp2_with (rw [Oper.semAt_eq _ _ _ (fun c h => by cases h)]; go_simp)
    exact HKc.out
  · intro l pre x W ⟨st, row, hP⟩ hlen
    obtain ⟨⟨at_, l0⟩, hl0⟩ := x
    simp only at hl0
    have HP := Lib.hid hP
    clear hP
    by_cases hl : l0 = []
    · subst hl
      gi_wp2_with (rw [Oper.semAt_eq _ _ _ (fun c h => by cases h)]; go_simp)
      refine ⟨KeepsFrom.refl _ _, ⟨fun e => e, Nat.le_refl _, fun _ _ _ h _ => h⟩, st, row, ?_⟩
      have h := HP.out
      refine { fold := ?_, pinv := h.pinv, oc := h.oc, b1 := h.b1, b2 := h.b2, b5 := h.b5, b6 := h.b6, hd := h.hd, ks := h.ks, env := h.env, rn := h.rn, rf := h.rf, keep := h.keep, sz := h.sz }
      rw [pfold_snoc, h.fold]
      rfl
    · have y1 : l0.isEmpty = false := by cases l0 <;> simp_all
      gi_wp2_with (rw [Oper.semAt_eq _ _ _ (fun c h => by cases h)]; go_simp)
      refine ⟨trivial, (CallsIn.inRound _ (callsIn_wide.2 (cut_any l0 61 _ rfl _ HP.out.env (by omega)))).mono ?_⟩
      rintro e V1 ⟨rfl, hk1⟩
      have HK1 := Lib.hid hk1
      obtain ⟨nm, hnm⟩ : ∃ x, (cutM 61 l0).1 = x := ⟨_, rfl⟩
      obtain ⟨vl, hvl⟩ : ∃ x, (cutM 61 l0).2.1 = x := ⟨_, rfl⟩
      obtain ⟨is, his⟩ : ∃ x, (cutM 61 l0).2.2 = x := ⟨_, rfl⟩
      have hnl : nm.length ≤ 40000000 := by rw [← hnm]; exact Nat.le_trans (List.Sublist.length_le (List.takeWhile_sublist _)) hl0
      have hvll : vl.length ≤ 40000000 := by
        rw [← hvl]
        refine Nat.le_trans ?_ hl0
        unfold cutM
        simp only [List.length_tail]
        have := List.Sublist.length_le (List.dropWhile_sublist (l := l0) (p := fun x => x != 61))
        omega
      have HNm := Lib.hid hnm
      have HVl := Lib.hid hvl
      have HIs := Lib.hid his
      rw [hnm, hvl, his]
      clear hk1 hnm hvl his
      have hB9 := Blk.new V1 9 #[.string (bs nm)]
      have c9 := hB9.cell 0
      simp at c9
      gi_wp2_with (rw [Oper.semAt_eq _ _ _ (fun c h => by cases h)]; go_simp)
      refine ⟨trivial, (CallsIn.inRound _ (callsIn_wide.2 (trimB_any nm _ (by omega)))).mono ?_⟩
      rintro e V2 ⟨rfl, hk2⟩
      obtain ⟨ky, hky⟩ : ∃ x, trimM nm = x := ⟨_, rfl⟩
      have HKy := Lib.hid hky
      rw [hky]
      have hW1 := HK1.out.size
      obtain ⟨n9, hn9⟩ : ∃ x, V1.heap.size = x := ⟨_, rfl⟩
      clear c9
      rw [hn9] at hB9 hW1 ⊢
      have hb9 := hB9.keep hk2 (fun h => h)
      have d9 := hb9.cell 0
      have f9 := hb9.frozen 0
      simp at d9
      have hB9' := hb9.set_ 0 (.string (bs ky))
      have hk3 : Keep (fun _ => False) W (V2.setCell ⟨n9, 0, none⟩ (.string (bs ky))) := (keep0_trans _ _ _ (HK1.out.alloc _) hk2).new (p := ⟨n9, 0, none⟩) hW1 _
      have c5' := ((HP.out.keep0 hk3).b5).cell 0
      simp at c5' hB9'
      have HB9 := Lib.hid hB9'
      have HK3 := Lib.hid hk3
      clear hk2 hb9 hB9' hk3 hB9 hky
      gi_wp2_with (rw [Oper.semAt_eq _ _ _ (fun c h => by cases h)]; go_simp)
      generalize hV3 : V2.setCell ⟨n9, 0, none⟩ (.string (bs ky)) = V3 at *
      refine ⟨trivial, (CallsIn.inRound _ (callsIn_wide.2 (indexKey_any K bx n9 ky V3 (HP.out.keep0 HK3.out).ks HB9.out))).mono ?_⟩
      rintro e V4 ⟨rfl, hk4⟩
      have HK4 := Lib.hid (keep0_trans _ _ _ HK3.out hk4)
      clear hk4 hV3 d9 f9 c5' HB9 HK3 hW1 hn9
      obtain ⟨ki, hki⟩ : ∃ k, keyN ky = k := ⟨_, rfl⟩
      have HKi := Lib.hid hki
      have hkle : ki ≤ 17 := by rw [← hki]; exact keyN_le ky
      rw [hki]
      clear hki
      obtain ⟨v12, hv12⟩ : ∃ v : Int, (if ki = 17 then (-1 : Int) else (ki : Int)) = v := ⟨_, rfl⟩
      have HV12 := Lib.hid hv12
      rw [hv12]
      clear hv12
      cases is with
      | false =>
        gi_wp2_with (rw [Oper.semAt_eq _ _ _ (fun c h => by cases h)]; go_simp)
        refine wpIn_region_krip (Keep (fun _ => False)) (Keep.refl _) keep0_trans 14 _ _ (by simp) (by rintro ⟨a, w, h⟩; exact h) (by kernel_rfl) (by kernel_rfl) (Ts := [none, none, none, none, none, none, none, none, none, none, none, none, none, none]) ?_
        simp only [List.take, List.drop]
        refine kAll_p (fun K hK => ?_)
        go_simp
        generalize hZ : (Act.mk _ _) = Z
        refine hK Z ?_
        subst hZ
        clear hK K
        refine kAll_p (fun K hK => ?_)
        go_simp
        generalize hZ : (Act.mk _ _) = Z
        refine hK Z ?_
        subst hZ
        clear hK K
        refine kAll_p (fun K hK => ?_)
        go_simp
        generalize hZ : (Act.mk _ _) = Z
        refine hK Z ?_
        subst hZ
        clear hK K
        refine kAll_skip (by kernel_rfl) ?_
        refine kAll_skip (by kernel_rfl) ?_
        refine kAll_p (fun K hK => ?_)
        go_simp
        generalize hZ : (Act.mk _ _) = Z
        refine hK Z ?_
        subst hZ
        clear hK K
        refine kAll_p (fun K hK => ?_)
        go_simp
        generalize hZ : (Act.mk _ _) = Z
        refine hK Z ?_
        subst hZ
        clear hK K
        refine kAll_skip (by kernel_rfl) ?_
        refine kAll_skip (by kernel_rfl) ?_
        refine kAll_skip (by kernel_rfl) ?_
        refine kAll_skip (by kernel_rfl) ?_
        refine kAll_skip (by kernel_rfl) ?_
        refine kAll_skip (by kernel_rfl) ?_
        refine kAll_skip (by kernel_rfl) ?_
        refine kAll_nil (fun V5 hW hF => ?_)
        have HK5 := Lib.hid (keep0_trans _ _ _ HK4.out (keepD (Keep.refl _ _) hW))
        clear hF hW
        have HFold := Lib.hid (show pfold (pre ++ [⟨(at_, l0), hl0⟩]) = .error (at_, 4) from fold_a HP.out.fold hl (.inl HIs.out))
        have HP5 := HP.out.keep0 HK5.out
        have hcc := HP5.oc.cells.choose_spec
        generalize HP5.oc.cells.choose = cs at hcc
        have HB_ := Lib.hid hcc.1
        have HCs := Lib.hid hcc.2
        have HR1 := Lib.hid HP5.b1
        have HR2 := Lib.hid HP5.b2
        have HKw := Lib.hid HP5.keep
        have HKW := Lib.hid (HK5.out.mono (T := fun g => g = b) fun _ _ h => h.elim)
        have HSB : Hid (∀ k, k = b → W3.heap.size ≤ k → ∃ t cs, Blk W k t cs) := Lib.hid fun k hk hB => by omega
        clear hcc HP5
        go_wp2
        gi_wp2_with (first | (refine wpListIn_store_row rfl 25 _ _ rfl b zc rfl rfl 25 cs HB_.out infoCfg HCs.out (by kernel_rfl) ?_; obtain ⟨hz, h1, h2, z17, f17, z18, f18⟩ := err_first HB_.out HR1.out HR2.out) | (rw [Oper.semAt_eq _ _ _ (fun c h => by cases h)]; go_simp))
        exact errPost at_ 4 HB_.out HR1.out HR2.out HKW.out HSB.out HFold.out HKw.out (by rw [HBe.out]; omega) (by omega)
      | true =>
        gi_wp2_with (rw [Oper.semAt_eq _ _ _ (fun c h => by cases h)]; go_simp)
        by_cases hk17 : ki = 17
        · have e12 : v12 = -1 := by rw [← HV12.out, if_pos hk17]
          clear HV12
          subst e12
          refine wpIn_region_krip (Keep (fun _ => False)) (Keep.refl _) keep0_trans 14 _ _ (by simp) (by rintro ⟨a, w, h⟩; exact h) (by kernel_rfl) (by kernel_rfl) (Ts := [none, none, none, none, none, none, none, none, none, none, none, none, none, none]) ?_
          simp only [List.take, List.drop]
          refine kAll_p (fun K hK => ?_)
          go_simp
          generalize hZ : (Act.mk _ _) = Z
          refine hK Z ?_
          subst hZ
          clear hK K
          refine kAll_p (fun K hK => ?_)
          go_simp
          generalize hZ : (Act.mk _ _) = Z
          refine hK Z ?_
          subst hZ
          clear hK K
          refine kAll_p (fun K hK => ?_)
          go_simp
          generalize hZ : (Act.mk _ _) = Z
          refine hK Z ?_
          subst hZ
          clear hK K
          refine kAll_pw (by kernel_rfl) (fun K hK => ?_)
          go_simp
          generalize hZ : (Act.mk _ _) = Z
          refine hK Z ?_
          subst hZ
          clear hK K
          refine kAll_pw (by kernel_rfl) (fun K hK => ?_)
          go_simp
          generalize hZ : (Act.mk _ _) = Z
          refine hK Z ?_
          subst hZ
          clear hK K
          refine kAll_p (fun K hK => ?_)
          go_simp
          generalize hZ : (Act.mk _ _) = Z
          refine hK Z ?_
          subst hZ
          clear hK K
          refine kAll_p (fun K hK => ?_)
          go_simp
          generalize hZ : (Act.mk _ _) = Z
          refine hK Z ?_
          subst hZ
          clear hK K
          refine kAll_skip (by kernel_rfl) ?_
          refine kAll_skip (by kernel_rfl) ?_
          refine kAll_skip (by kernel_rfl) ?_
          refine kAll_skip (by kernel_rfl) ?_
          refine kAll_skip (by kernel_rfl) ?_
          refine kAll_skip (by kernel_rfl) ?_
          refine kAll_skip (by kernel_rfl) ?_
          refine kAll_nil (fun V5 hW hF => ?_)
          have HK5 := Lib.hid (keep0_trans _ _ _ HK4.out (keepD (Keep.refl _ _) hW))
          clear hF hW
          have HFold := Lib.hid (show pfold (pre ++ [⟨(at_, l0), hl0⟩]) = .error (at_, 4) from fold_a HP.out.fold hl (.inr (by rw [HNm.out, HKy.out, HKi.out]; exact hk17)))
          have HP5 := HP.out.keep0 HK5.out
          have hcc := HP5.oc.cells.choose_spec
          generalize HP5.oc.cells.choose = cs at hcc
          have HB_ := Lib.hid hcc.1
          have HCs := Lib.hid hcc.2
          have HR1 := Lib.hid HP5.b1
          have HR2 := Lib.hid HP5.b2
          have HKw := Lib.hid HP5.keep
          have HKW := Lib.hid (HK5.out.mono (T := fun g => g = b) fun _ _ h => h.elim)
          have HSB : Hid (∀ k, k = b → W3.heap.size ≤ k → ∃ t cs, Blk W k t cs) := Lib.hid fun k hk hB => by omega
          clear hcc HP5
          go_wp2
          gi_wp2_with (first | (refine wpListIn_store_row rfl 25 _ _ rfl b zc rfl rfl 25 cs HB_.out infoCfg HCs.out (by kernel_rfl) ?_; obtain ⟨hz, h1, h2, z17, f17, z18, f18⟩ := err_first HB_.out HR1.out HR2.out) | (rw [Oper.semAt_eq _ _ _ (fun c h => by cases h)]; go_simp))
          exact errPost at_ 4 HB_.out HR1.out HR2.out HKW.out HSB.out HFold.out HKw.out (by rw [HBe.out]; omega) (by omega)
        · have e12 : v12 = (ki : Int) := by rw [← HV12.out, if_neg hk17]
          clear HV12
          subst e12
          have HK17 := Lib.hid (show ki < 17 by omega)
          have q1 : ¬ (ki : Int) < 0 := by omega
          have q2 : (0 : Int) ≤ ki := by omega
          have q3 : (ki : Int) < 17 := by omega
          obtain ⟨g, lb, hG, eg2, hC⟩ := set_any bx ki HK17.out
          have HG := Lib.hid hG
          have HC := Lib.hid hC
          clear hG hC
          refine wpIn_region_krip (Keep (fun _ => False)) (Keep.refl _) keep0_trans 14 _ _ (by simp) (by rintro ⟨a, w, h⟩; exact h) (by kernel_rfl) (by kernel_rfl) (Ts := [none, none, none, none, none, none, none, some (.inl (.slice (some ⟨K, 0, none⟩) 17 17)), none, none, none, some (.inl (.func (.func g) #[] lb)), none, some (.inl (.string (bs (trimM vl))))]) ?_
          simp only [List.take, List.drop]
          refine kAll_p (fun K hK => ?_)
          go_simp
          generalize hZ : (Act.mk _ _) = Z
          refine hK Z ?_
          subst hZ
          clear hK K
          refine kAll_p (fun K hK => ?_)
          go_simp
          generalize hZ : (Act.mk _ _) = Z
          refine hK Z ?_
          subst hZ
          clear hK K
          refine kAll_p (fun K hK => ?_)
          go_simp
          generalize hZ : (Act.mk _ _) = Z
          refine hK Z ?_
          subst hZ
          clear hK K
          refine kAll_pw (by kernel_rfl) (fun K hK => ?_)
          go_simp
          generalize hZ : (Act.mk _ _) = Z
          refine hK Z ?_
          subst hZ
          clear hK K
          refine kAll_pw (by kernel_rfl) (fun K hK => ?_)
          go_simp
          generalize hZ : (Act.mk _ _) = Z
          refine hK Z ?_
          subst hZ
          clear hK K
          refine kAll_p (fun K hK => ?_)
          go_simp
          generalize hZ : (Act.mk _ _) = Z
          refine hK Z ?_
          subst hZ
          clear hK K
          refine kAll_p (fun K hK => ?_)
          go_simp
          generalize hZ : (Act.mk _ _) = Z
          refine hK Z ?_
          subst hZ
          clear hK K
          refine kAll_d _ (fun W hW hF => kStep_w (by kernel_rfl) fun K Q hK => ?_) ?_
          · have hcell := ((HP.out.keep0 (keep0_trans _ _ _ HK4.out (keepD (Keep.refl _ _) hW))).b5).cell 0
            simp at hcell
            go_simp
            exact hK _ _ (Keep.refl _ _) rfl
          refine kAll_pw (by kernel_rfl) (fun K hK => ?_)
          go_simp
          generalize hZ : (Act.mk _ _) = Z
          refine hK Z ?_
          subst hZ
          clear hK K
          refine kAll_pw (by kernel_rfl) (fun K hK => ?_)
          go_simp
          generalize hZ : (Act.mk _ _) = Z
          refine hK Z ?_
          subst hZ
          clear hK K
          refine kAll_pw (by kernel_rfl) (fun K hK => ?_)
          go_simp
          generalize hZ : (Act.mk _ _) = Z
          refine hK Z ?_
          subst hZ
          clear hK K
          refine kAll_d _ (fun W hW hF => kStep_w (by kernel_rfl) fun K Q hK => ?_) ?_
          · have hcell := ((HP.out.keep0 (keep0_trans _ _ _ HK4.out (keepD (Keep.refl _ _) hW))).ks.cell HK17.out).2.2
            rw [HG.out] at hcell
            go_simp
            exact hK _ _ (Keep.refl _ _) rfl
          refine kAll_pw (by kernel_rfl) (fun K hK => ?_)
          go_simp
          generalize hZ : (Act.mk _ _) = Z
          refine hK Z ?_
          subst hZ
          clear hK K
          refine kAll_d _ (fun W hW hF => kStep_w (by kernel_rfl) fun K Q hK => ?_) ?_
          · go_simp
            refine (trimB_any vl W (by omega)).mono ?_
            rintro e w' ⟨rfl, hk⟩
            exact hK _ _ hk rfl
          refine kAll_nil (fun V5 hW hF => ?_)
          have HK5 := Lib.hid (keep0_trans _ _ _ HK4.out (keepD (Keep.refl _ _) hW))
          clear hF hW
          have HP5 := Lib.hid (HP.out.keep0 HK5.out)
          obtain ⟨r6, hr6⟩ : ∃ r, setM ki st.1 (trimM vl) = r := ⟨_, rfl⟩
          have HR6 := Lib.hid hr6
          clear hr6
          go_wp2_with fail
          refine (HC.out K b row st.1 (trimM vl) V5 HP5.out.env (Nat.le_trans (trim_len _ _) (by omega)) (Nat.le_trans HP5.out.pinv.len (by decide)) HP5.out.ks HP5.out.oc).mono ?_
          intro e V6 hsp
          have he := hsp.1
          rw [HR6.out] at he
          have HS6 := Lib.hid hsp.2.1
          have hcc := hsp.2.2.1.choose_spec
          generalize hsp.2.2.1.choose = cs at hcc
          have HB_ := Lib.hid hcc.1
          have HCs := Lib.hid hcc.2
          have HK6 := Lib.hid hsp.2.2.2
          clear hcc hsp
          subst he
          obtain ⟨hr1, hr2, h6, hd, hks, henv, hkw, h5⟩ := HP5.out.behind HK6.out (by omega) (by rw [HBe.out]; omega) h9b HKl'.out HBx'.out
          have HR1 := Lib.hid hr1
          have HR2 := Lib.hid hr2
          have HHd := Lib.hid hd
          have HB6 := Lib.hid h6
          have HB5 := Lib.hid h5
          have HKs6 := Lib.hid hks
          have HEn := Lib.hid henv
          have HKw := Lib.hid hkw
          clear hr1 hr2 h5 h6 hd hks henv hkw
          have HKW := Lib.hid ((HK5.out.mono (T := fun g => g = b ∨ (ki = 0 ∧ row = some g)) fun _ _ h => h.elim).trans (HK6.out.mono fun g _ h => .inl h))
          have HSB : Hid (∀ k, (k = b ∨ (ki = 0 ∧ row = some k)) → W3.heap.size ≤ k → ∃ t cs, Blk W k t cs) := Lib.hid fun k hk hB => by
            rcases hk with hk | hk
            · omega
            · exact HP.out.oc.rowBlk k hk.2
          have HFb := Lib.hid (fold_b (hl0 := hl0) (at_ := at_) HP.out.fold hl HIs.out (by rw [HNm.out, HKy.out]; exact HKi.out) HK17.out HVl.out)
          rw [HR6.out] at HFb
          cases r6 with
          | none =>
            have HFold := Lib.hid HFb.out
            simp only [Option.isSome_none]
            go_wp2
            gi_wp2_with (first | (refine wpListIn_store_row rfl 25 _ _ rfl b zc rfl rfl 25 cs HB_.out infoCfg HCs.out (by kernel_rfl) ?_; obtain ⟨hz, h1, h2, z17, f17, z18, f18⟩ := err_first HB_.out HR1.out HR2.out) | (rw [Oper.semAt_eq _ _ _ (fun c h => by cases h)]; go_simp))
            exact errPost at_ 4 HB_.out HR1.out HR2.out HKW.out HSB.out HFold.out HKw.out (by rw [HBe.out]; omega) (by omega)
          | some c' =>
            simp only [Option.isSome_some]
            have b6 := HB6.out.cell 0
            simp at b6
            by_cases hin : ki ∈ st.2
            · have c6 : V6.cell? ⟨v5 + 1, ki, none⟩ = some (.bool true) := by rw [HHd.out.cell ki, hadA_get _ HK17.out]; simp [hin]
              have HFold := Lib.hid (HFb.out.trans (if_pos hin))
              go_wp2
              gi_wp2_with (first | (refine wpListIn_store_row rfl 25 _ _ rfl b zc rfl rfl 25 cs HB_.out infoCfg HCs.out (by kernel_rfl) ?_; obtain ⟨hz, h1, h2, z17, f17, z18, f18⟩ := err_first HB_.out HR1.out HR2.out) | (rw [Oper.semAt_eq _ _ _ (fun c h => by cases h)]; go_simp))
              exact errPost at_ 6 HB_.out HR1.out HR2.out HKW.out HSB.out HFold.out HKw.out (by rw [HBe.out]; omega) (by omega)
            · have c6 : V6.cell? ⟨v5 + 1, ki, none⟩ = some (.bool false) := by rw [HHd.out.cell ki, hadA_get _ HK17.out]; simp [hin]
              have f6 := HHd.out.frozen ki
              have HFold := Lib.hid (HFb.out.trans (if_neg hin))
              go_wp2
              gi_wp2_with (rw [Oper.semAt_eq _ _ _ (fun c h => by cases h)]; go_simp)
              exact HP.out.next HK5.out HK6.out hv5b HBe.out h9b HKl'.out HBx'.out HK17.out hin (Nat.le_trans (trim_len _ _) (by omega)) HR6.out (HS6.out _ HR6.out) hs3 HFold.out
  · intro D xs W hDw hxs ⟨st, row, hP⟩ hD
    have HD := Lib.hid hD
    have HP := Lib.hid hP
    have HXs := Lib.hid hxs
    have HDw := Lib.hid hDw
    have hoc := hP.oc.choose_spec.choose_spec
    generalize hP.oc.choose_spec.choose = cap at hoc
    generalize hP.oc.choose = A at hoc
    have HB_ := Lib.hid hoc.1
    have HSl := Lib.hid hoc.2.1
    clear hD hP hxs hDw hoc
    gi_wp2_with (first | (refine wpListW_load_row rfl 25 _ rfl b rfl 25 (cfgA (.slice A st.1.seeds.length cap) st.1.v) (0, 0) _ HB_.out Tryz.underlying25 rfl infoCfg ?_) | fail)
    refine ⟨trivial, CallsIn.mono (callsIn_wide.2 (mayM_any st.1 A cap W HSl.out.rd (Nat.le_trans HP.out.pinv.len (by decide)))) ?_⟩
    rintro e V ⟨he, hk⟩
    subst he
    have HKv := Lib.hid hk
    have HB1 := Lib.hid (HP.out.b1.keep hk (fun h => h))
    have HB2 := Lib.hid (HP.out.b2.keep hk (fun h => h))
    have HB0 := Lib.hid (HB_.out.keep hk (fun h => h))
    have HD1 := Lib.hid (hk.heap HD.out (fun h => h))
    have HSl1 := Lib.hid (HSl.out.keep hk (fun _ _ h => h))
    have HKw := Lib.hid (keep0_trans _ _ _ HP.out.keep hk)
    have HPm := Lib.hid (parseM_ok (s := s) (HXs.out ▸ HP.out.fold))
    have hbD : b + 3 ≤ D := by have := HDw.out; omega
    clear hk
    obtain ⟨m, hm⟩ : ∃ m, mayM st.1 = m := ⟨_, rfl⟩
    rw [hm] at HPm ⊢
    clear hm
    cases m with
    | false =>
      have HPz := Lib.hid (HPm.out.trans (if_neg (by decide)))
      gi_wp2_with (first | (refine wpListW_store_row rfl 25 _ _ rfl b zc rfl rfl 25 (cfgA (.slice A st.1.seeds.length cap) st.1.v) HB0.out infoCfg (cfgA_size _ _) (by kernel_rfl) ?_; obtain ⟨hz, h1, h2, z17, f17, z18, f18⟩ := row_first zc HB0.out HB1.out HB2.out) | fail)
      obtain ⟨r1, r2, r3, r4, r5⟩ := fin_world (D := D) zc (.int .i64 0) (.int .i64 1) HB0.out HB1.out HB2.out HD1.out hbD
      refine ⟨by simp, .inl ⟨_, _, rfl, run_takeDeferred r1, ?_⟩⟩
      exact ⟨_, results_three rfl _ _ b (b + 1) (b + 1 + 1) _ _ _ _ rfl rfl rfl r2 r3 r4 Tryz.underlying25 rfl infoCfg (Tryz.isAgg3 _) (Tryz.isAgg26 _),
        fin_ok HPz.out (SlK.nil_ _ _ _) (fun g e => by cases e) (HKw.out.trans (r5.mono fun g _ e => .inr (by rw [HBe.out]; omega)))⟩
    | true =>
      have HPz := Lib.hid (HPm.out.trans (if_pos rfl))
      gi_wp2_with (first | (refine wpListW_load_row rfl 25 _ rfl b rfl 25 (cfgA (.slice A st.1.seeds.length cap) st.1.v) (0, 0) _ HB0.out Tryz.underlying25 rfl infoCfg ?_) | (refine wpListW_store_row rfl 25 _ _ rfl b (cfgA (.slice A st.1.seeds.length cap) st.1.v) rfl rfl 25 (cfgA (.slice A st.1.seeds.length cap) st.1.v) HB0.out infoCfg rfl (cfgA_one _ _ _ _) ?_; obtain ⟨hz, h1, h2, z17, f17, z18, f18⟩ := row_first (cfgA (.slice A st.1.seeds.length cap) st.1.v) HB0.out HB1.out HB2.out) | fail)
      obtain ⟨r1, r2, r3, r4, r5⟩ := fin_world (D := D) (cfgA (.slice A st.1.seeds.length cap) st.1.v) (.int .i64 0) (.int .i64 0) HB0.out HB1.out HB2.out HD1.out hbD
      refine ⟨by simp, .inl ⟨_, _, rfl, run_takeDeferred r1, ?_⟩⟩
      have hrf := HP.out.rf
      exact ⟨_, results_three rfl _ _ b (b + 1) (b + 1 + 1) _ _ _ _ rfl rfl rfl r2 r3 r4 Tryz.underlying25 rfl infoCfg (Tryz.isAgg3 _) (Tryz.isAgg26 _),
        fin_ok HPz.out (HSl1.out.keep r5 (fun g e => by have := hrf g e; have := HD1.out; intro q; rcases q with q | q; · omega
                                                        · obtain ⟨t, cs, hb⟩ := slk_blk HSl1.out g e; exact not_cells ⟨_, HD1.out, rfl⟩ _ _ _ hb q)) (fun g e => by have := hrf g e; rw [HBe.out]; omega) (HKw.out.trans (r5.mono fun g _ e => .inr (by rw [HBe.out]; omega)))⟩
  · intro D c pre W hDw hpre ⟨hc, at_, e, hf, h1, h2, h3, h4⟩ hD
    subst hc
    have HD := Lib.hid hD
    have HDw := Lib.hid hDw
    have HPre := Lib.hid hpre
    have HFold := Lib.hid hf
    have HR0 := Lib.hid h1
    have HR1 := Lib.hid h2
    have HR2 := Lib.hid h3
    have HKw := Lib.hid h4
    clear hD hpre hf h1 h2 h3 h4 hDw
    gi_wp2
    refine ⟨by simp, .inl ⟨_, _, rfl, run_takeDeferred HD.out, ?_⟩⟩
    have kD : Keep (fun g => g = D) W (W.putObj D (.deferred none)) := Keep.grown (grownBy_putObj' W D _) (fun k e => by injection e with e; exact e.symm)
    have hd1 := HDw.out
    exact ⟨_, results_three rfl _ _ b (b + 1) (b + 1 + 1) _ _ _ _ rfl rfl rfl (HR0.out.keep kD (by omega)) (HR1.out.keep kD (by omega)) (HR2.out.keep kD (by omega)) Tryz.underlying25 rfl infoCfg (Tryz.isAgg3 _) (Tryz.isAgg26 _),
      fin_ok (parseM_err HPre.out.choose_spec HFold.out) (SlK.nil_ _ _ _) (fun g e => by cases e) (HKw.out.trans (kD.mono fun g _ e => .inr (by rw [HBe.out]; omega)))⟩
end Go.Proofs.YtjgkalcldekmpaaGreatDoor
