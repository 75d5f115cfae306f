/-
  slices.Collect and slices.AppendSeq(nil, seq) of IDs, against whatever iterator that gives its elements in turn and writes at most one block of its own.
-/
import Derived.Test.YtenphdgnaknbeaaRows
import Derived.Test.YtenphdgnaknbeaaID
import Derived.RangeFuncGives
import Derived.RangeFuncLeaves
import Derived.WalkKit
import Derived.Lib.Hide
import Derived.OwnWalkIn
import Derived.TacticsInMore
import Derived.RegionIn
import Derived.LoopNIn
import Derived.LoopIn
import Derived.Maps.OwnIn
import Derived.Maps.AppendAt
import Derived.Deep.AppendLies
namespace Go.Proofs.Ytenphdgnaknbeaa
open Go.RowKit


/-- The iterator gives, whatever is done with each element; it writes new blocks alone, and of these at most the one that is made first is written again. -/
def Gives (n : Nat) (P : Program) (g : Nat) (lb : Array Value) {α : Type} (enc : α → Value) (S : List α → Prop) (N : Nat) (w : World) : Prop :=
  ∀ (l : Nat) (J : List α → World → Prop) (W : World), Below w.heap.size w W → (∀ s W1 W2, J s W1 → W.heap.size ≤ W1.heap.size → W1.grownBy W2 (some W.heap.size) → J s W2) →
    (∀ pre x W1, J pre W1 → W.heap.size < W1.heap.size → pre.length < N → YieldAt Fence.wide (n - 1) P l #[enc x] W1 fun e W' =>
      e = .returned (.bool true) ∧ J (pre ++ [x]) W' ∧ W1.heap.size ≤ W'.heap.size ∧ W'.heap[W.heap.size]? = W1.heap[W.heap.size]? ∧ Below w.heap.size w W') →
    J [] W →
    CallsIn Fence.wide n P g (#[.func (.yield l) #[] #[]] ++ lb) W fun e W' => (∃ v, e = .returned v) ∧ ∃ xs, S xs ∧ J xs W'

def bodyOf : Option Code → Code
  | some c => c
  | .none => .skip
def fstS : Code → Code
  | .seq a _ => a
  | _ => .skip
def sndS : Code → Code
  | .seq _ b => b
  | _ => .skip
def inBlk : Code → Code
  | .block _ c => c
  | _ => .skip
def rfAssign : Code → Code
  | .rangeFunc _ _ a _ => a
  | _ => .skip
def rfBody : Code → Code
  | .rangeFunc _ _ _ b => b
  | _ => .skip
def acOf (f : Func) : Code := rfAssign (inBlk (sndS (fstS (sndS (bodyOf f.body)))))
def bcOf (f : Func) : Code := rfBody (inBlk (sndS (fstS (sndS (bodyOf f.body)))))
/-- The loop's record: AppendSeq's temporaries as they stood at the entering: 's' boxed in block Bs; sv: the iterator's value. -/
def apRec (ac bc : Code) (fn : FuncId) (sv : Value) (Bs D : Nat) (st : LoopState) (pend : Option Code) : Loop :=
  { state := st, pending := pend, fn, tmps := #[.slice none 0 0, sv, .pointer (some ⟨Bs, 0, none⟩), undef, .slice none 0 0, undef, sv, undef, undef, undef, undef, undef, undef], params := #[7], assign := ac, body := bc, defers := D }

/-- Between two rounds: the box holds a slice that owns what has come so far. -/
structure ApAt (ac bc : Code) (w0 : World) (fn : FuncId) (sv : Value) (Bs l D t : Nat) (ss : List ID) (W : World) : Prop where
  box : ∃ v, W.heap[Bs]? = some (.cells #[v] 30 (0, 0)) ∧ W.ownsRow w0.heap.size 33 2 v ss.length (ss.flatMap cID) ∧ (v = .slice none 0 0 ↔ ss = []) ∧ v.ownBlock ≠ some t
  L : W.heap[l]? = some (.loop (apRec ac bc fn sv Bs D .ready none))
  K : W.heap[D]? = some (.deferred (some []))
  below : Below w0.heap.size w0 W

theorem ap_abides (ac bc : Code) (w0 : World) (fn : FuncId) (sv : Value) (Bs l D t : Nat) (hBt : Bs ≠ t) (hlt : l ≠ t) (hDt : D ≠ t) (h0 : w0.heap.size ≤ t) (s : List ID) (W W' : World) (h : ApAt ac bc w0 fn sv Bs l D t s W) (hg : W.grownBy W' (some t)) : ApAt ac bc w0 fn sv Bs l D t s W' := by
  obtain ⟨v, hv, hr, hn, ht⟩ := h.box
  have keep : ∀ k o, W.heap[k]? = some o → k ≠ t → W'.heap[k]? = some o := fun k o hk hne => (hg.block k (Array.getElem?_eq_some_iff.1 hk).1 (fun e => hne (by injection e))).trans hk
  exact ⟨⟨v, keep _ _ hv hBt, hr.kept hg (.inr ht), hn, ht⟩, keep _ _ h.L hlt, keep _ _ h.K hDt, h.below.grown hg h.below.size (fun k e => by injection e with e; omega)⟩

theorem grownBy_putObj (W : World) (l : Nat) (o : Obj) : W.grownBy (W.putObj l o) (some l) :=
  ⟨rfl, rfl, rfl, by simp, fun k _ hk => World.putObj_heap_other (fun e => hk (by rw [e]))⟩
theorem grownBy_setCell0 (W : World) (b : Nat) (v : Value) : W.grownBy (W.setCell ⟨b, 0, none⟩ v) (some b) :=
  ⟨rfl, rfl, rfl, (KeepsWalks.setCell W _ v).size, fun k _ hk => Below.heap_setCell _ _ _ k (fun e => hk (by rw [e]))⟩
theorem ownsRow_ne {W : World} {base : Nat} {e : TypeId} {size : Nat} {v : Value} {k : Nat} {xs : List Value} (h : W.ownsRow base e size v k xs) {j : Nat} {o : Obj} (hj : W.heap[j]? = some o) (hno : ∀ cur, o ≠ .cells cur e (0, 0)) :
    v.ownBlock = none ∨ v.ownBlock ≠ some j := by
  rcases h.2 with ⟨rfl, _⟩ | ⟨g, cap, cur, rfl, _, hgb, _⟩
  · exact .inl rfl
  · refine .inr fun e' => ?_
    have : g = j := by simpa [Value.ownBlock] using e'
    subst this; rw [hgb] at hj; cases hj; exact hno cur rfl
theorem cell_of_box {W : World} {B : Nat} {v : Value} {t : TypeId} (h : W.heap[B]? = some (.cells #[v] t (0, 0))) : W.cell? ⟨B, 0, none⟩ = some v ∧ W.frozen? ⟨B, 0, none⟩ = false := by
  constructor <;> simp [World.cell?, World.frozen?, h]
theorem heap_setCell_box {W : World} {B : Nat} {v : Value} {t : TypeId} (v' : Value) (h : W.heap[B]? = some (.cells #[v] t (0, 0))) : (W.setCell ⟨B, 0, none⟩ v').heap[B]? = some (.cells #[v'] t (0, 0)) := by
  obtain ⟨hlt, hk⟩ := Array.getElem?_eq_some_iff.1 h
  show (W.heap.modify B _)[B]? = _
  rw [Array.getElem?_eq_getElem (by rw [Array.size_modify]; exact hlt), Array.getElem_modify_self, hk]
  rfl
theorem cell_two_new (w : World) (x : ID) (t : TypeId) : ∀ j u, (cID x)[j]? = some u → (w.alloc (.cells #[.int .i64 x.1, .int .i64 x.2] t)).cell? ((⟨w.heap.size, 0, none⟩ : Addr).add j) = some u := by
  intro j u hu
  have hb := Blk.new w t #[.int .i64 x.1, .int .i64 x.2]
  rw [Addr.add_lit, hb.cell]
  match j, hu with
  | 0, hu => simpa using hu
  | 1, hu => simpa using hu
  | j + 2, hu => simp at hu
theorem info_ID : (Try.prog.info? 33).map (fun i => (i.zero, i.size, i.bytes)) = some (some (.agg #[.int .i64 0, .int .i64 0]), 2, 16) := by kernel_rfl

set_option maxRecDepth 100000 in
set_option maxHeartbeats 2000000 in
theorem apYield (ac bc : Code) (hac : ac = acOf Try.f67) (hbc : bc = bcOf Try.f67) (m : Nat) (w0 : World) (fn : FuncId) (sv : Value) (Bs l D t : Nat) (hBl : Bs ≠ l) (hDl : D ≠ l) (hDB : D ≠ Bs) (h0B : w0.heap.size ≤ Bs) (h0l : w0.heap.size ≤ l) (hBt : Bs ≠ t) (hlt : l ≠ t) (hDt : D ≠ t) (h0t : w0.heap.size ≤ t)
    (N : Nat) (hN : N ≤ maxLen) (hNb : N * 16 ≤ 140737488355328) (ss : List ID) (x : ID) (W : World) (h : ApAt ac bc w0 fn sv Bs l D t ss W) (htW : t < W.heap.size) (hlen : ss.length < N)
    (R : Ending → World → Prop) (hR : ∀ W', ApAt ac bc w0 fn sv Bs l D t (ss ++ [x]) W' → W.heap.size ≤ W'.heap.size → W'.heap[t]? = W.heap[t]? → R (.returned (.bool true)) W') :
    YieldAt Fence.wide m Try.prog l #[idV x] W R := by
  have HA := Lib.hid hac
  have HB := Lib.hid hbc
  have HR := Lib.hid hR
  clear hac hbc hR
  obtain ⟨i0, hi, hz0, hz1, hz2⟩ := info_parts info_ID
  obtain ⟨W1, hW1⟩ : ∃ W1, W.alloc (.cells #[.int .i64 x.1, .int .i64 x.2] 33) = W1 := ⟨_, rfl⟩
  have hE1 : Blk W1 W.heap.size 33 #[.int .i64 x.1, .int .i64 x.2] := by rw [← hW1]; exact Blk.new _ _ _
  have h1 : ApAt ac bc w0 fn sv Bs l D t ss W1 := by rw [← hW1]; exact ap_abides _ _ _ _ _ _ _ _ _ hBt hlt hDt h0t _ _ _ h (World.grownBy_alloc W _ _)
  have hs1 : W1.heap.size = W.heap.size + 1 := by rw [← hW1]; simp
  have ht1 : W1.heap[t]? = W.heap[t]? := by rw [← hW1]; exact Below.heap_alloc _ _ t htW
  have hlW : l < W.heap.size := (Array.getElem?_eq_some_iff.1 h.L).1
  obtain ⟨v, hv, hrow, _, htv⟩ := h1.box
  refine ⟨fn, #[.slice none 0 0, sv, .pointer (some ⟨Bs, 0, none⟩), undef, .slice none 0 0, undef, sv, idV x, undef, undef, undef, undef, undef], ac, bc, by simpa [apRec] using run_yield (P := Try.prog) (args := #[idV x]) h.L rfl, roundIn_of_wpIn trivial ?_⟩
  have hl : l < W1.heap.size := (Array.getElem?_eq_some_iff.1 h1.L).1
  have hbr := run_beginRound (P := Try.prog) h1.L rfl
  obtain ⟨W2, hW2⟩ : ∃ W2, W1.putObj l (.loop { apRec ac bc fn sv Bs D .ready none with state := .busy }) = W2 := ⟨_, rfl⟩
  rw [hW2, ← hW1] at hbr
  have hg2 : W1.grownBy W2 (some l) := by rw [← hW2]; exact grownBy_putObj _ _ _
  have hs2 : W.heap.size ≤ W2.heap.size := by have := hg2.size; omega
  have ht2 : W2.heap[t]? = W.heap[t]? := (hg2.block t (by omega) (fun e => hlt (by injection e with e; exact e.symm))).trans ht1
  have hv2 : W2.heap[Bs]? = some (.cells #[v] 30 (0, 0)) := by rw [← hW2]; exact (World.putObj_heap_other hBl).trans hv
  have hE2 : Blk W2 W.heap.size 33 #[.int .i64 x.1, .int .i64 x.2] := by rw [← hW2]; exact (World.putObj_heap_other (by omega)).trans hE1
  have hE20 := hE2.cell 0
  have hE21 := hE2.cell 1
  have hK2 : W2.heap[D]? = some (.deferred (some [])) := by rw [← hW2]; exact (World.putObj_heap_other hDl).trans h1.K
  have hL2 : W2.heap[l]? = some (.loop { apRec ac bc fn sv Bs D .ready none with state := .busy }) := by rw [← hW2]; exact World.putObj_heap_same hl
  have hrow2 : W2.ownsRow w0.heap.size 33 2 v ss.length (ss.flatMap cID) := hrow.kept hg2 (ownsRow_ne hrow h1.L (fun cur e => by cases e))
  have hb2 : Below w0.heap.size w0 W2 := h1.below.grown hg2 h1.below.size (fun k e => by cases e; exact h0l)
  obtain ⟨hc2, hf2⟩ := cell_of_box hv2
  have hBlt : Bs < W2.heap.size := (Array.getElem?_eq_some_iff.1 hv2).1
  have hl2 : l < W2.heap.size := (Array.getElem?_eq_some_iff.1 hL2).1
  have hDlt : D < W2.heap.size := (Array.getElem?_eq_some_iff.1 hK2).1
  have ne_of : ∀ (j : Nat) (o : Obj), W2.heap[j]? = some o → (∀ cur, o ≠ .cells cur 33 (0, 0)) → some j ≠ v.ownBlock := fun j o hj hno => by
    rcases ownsRow_ne hrow2 hj hno with e | e
    · rw [e]; simp
    · exact fun e' => e e'.symm
  clear hW2
  have HK2 := Lib.hid hK2
  have HL2 := Lib.hid hL2
  have HG2 := Lib.hid hg2
  have HT2 := Lib.hid ht2
  have HW := Lib.hid htW
  have HV2 := Lib.hid hv2
  have HNe := Lib.hid ne_of
  clear hg2 ht2 hrow hv h h1 htW hK2 hL2 hv2 ne_of hE1 hE2 hW1 hs1 ht1 hlW hl
  rw [HA.out, HB.out]
  simp only [acOf, bcOf, rfAssign, rfBody, inBlk, sndS, fstS, bodyOf, Try.f67]
  gi_wp2_with (first
    | (gi_at_builtin; refine wpListIn_append_own_at _ rfl _ _ 30 rfl w0.heap.size 33 i0 (.agg #[.int .i64 0, .int .i64 0]) 2 16 Try.underlying30 hi hz0 hz1 hz2 rfl (by decide) _ _ _ rfl (hrow2.alloc _) ⟨W2.heap.size, 0, none⟩ 1 1 (cID x) rfl rfl (cell_two_new _ _ _) (by intro u hu; simp at hu; rcases hu with rfl | rfl <;> rfl) (by omega) (by omega) (by have := hb2.size; simp; omega) ?_; intro v' w3 hown' hg3 hnil3 hat3
       have hv3 : w3.heap[Bs]? = some (.cells #[v] 30 (0, 0)) := (hg3.block Bs (by simp; omega) (HNe.out _ _ HV2.out (fun cur e => by cases e))).trans ((Below.heap_alloc _ _ Bs hBlt).trans HV2.out)
       obtain ⟨hc3, hf3⟩ := cell_of_box hv3
       obtain ⟨g', cap', cur', rfl, hbase', hgb', hr1, hr2, hr3, hr4⟩ : ∃ g' cap' cur', v' = .slice (some ⟨g', 0, none⟩) (ss.length + 1) cap' ∧ w0.heap.size ≤ g' ∧ w3.heap[g']? = some (.cells cur' 33 (0, 0)) ∧ ss.length + 1 ≤ cap' ∧ cap' ≤ maxLen ∧ cur'.size = cap' * 2 ∧ cur'.toList.take ((ss.length + 1) * 2) = ss.flatMap cID ++ (cID x) := by
         rcases hown'.2 with ⟨_, h0⟩ | h'
         · exact absurd h0 (by omega)
         · exact h'
       have HV3 := Lib.hid hv3
       clear hv3
       go_frame)
    | (rw [Oper.semAt_eq _ _ _ (fun c h => by cases h)]; go_simp))
  have hg3' : (W2.alloc (.cells #[.int .i64 x.1, .int .i64 x.2] 33)).grownBy w3 v.ownBlock := hg3
  have hat3' : some g' = v.ownBlock ∨ some g' = some (W2.alloc (.cells #[.int .i64 x.1, .int .i64 x.2] 33)).heap.size := hat3
  have hL3 : w3.heap[l]? = some (.loop { apRec ac bc fn sv Bs D .ready none with state := .busy }) := (hg3'.block l (by simp; omega) (HNe.out _ _ HL2.out (fun cur e => by cases e))).trans ((Below.heap_alloc _ _ l hl2).trans HL2.out)
  have hK3 : w3.heap[D]? = some (.deferred (some [])) := (hg3'.block D (by simp; omega) (HNe.out _ _ HK2.out (fun cur e => by cases e))).trans ((Below.heap_alloc _ _ D hDlt).trans HK2.out)
  have ht3 : w3.heap[t]? = W.heap[t]? := (hg3'.block t (by simp; have := HW.out; omega) (fun e => htv e.symm)).trans ((Below.heap_alloc _ _ t (by have := HW.out; omega)).trans HT2.out)
  have hs3 : W2.heap.size + 1 ≤ w3.heap.size := by have := hg3'.size; simp at this; omega
  have hv3 := HV3.out
  obtain ⟨w4, hw4⟩ : ∃ w4, w3.setCell ⟨Bs, 0, none⟩ (.slice (some ⟨g', 0, none⟩) (ss.length + 1) cap') = w4 := ⟨_, rfl⟩
  rw [hw4]
  have hg4 : w3.grownBy w4 (some Bs) := by rw [← hw4]; exact grownBy_setCell0 _ _ _
  have hv4 : w4.heap[Bs]? = some (.cells #[.slice (some ⟨g', 0, none⟩) (ss.length + 1) cap'] 30 (0, 0)) := by rw [← hw4]; exact heap_setCell_box _ hv3
  have hL4 : w4.heap[l]? = some (.loop { apRec ac bc fn sv Bs D .ready none with state := .busy }) := (hg4.block l (Array.getElem?_eq_some_iff.1 hL3).1 (fun e => hBl (by cases e; rfl))).trans hL3
  have hK4 : w4.heap[D]? = some (.deferred (some [])) := (hg4.block D (Array.getElem?_eq_some_iff.1 hK3).1 (fun e => hDB (by cases e; rfl))).trans hK3
  have ht4 : w4.heap[t]? = W.heap[t]? := (hg4.block t (by have := HW.out; omega) (fun e => hBt (by cases e; rfl))).trans ht3
  have hrow4 := hown'.kept hg4 (ownsRow_ne hown' hv3 (fun cur e => by cases e))
  have hl4 : l < w4.heap.size := (Array.getElem?_eq_some_iff.1 hL4).1
  have hb3 : Below w0.heap.size w0 w3 := (hb2.alloc hb2.size _).grown hg3' (by have := hb2.size; simp; omega) (fun k e => (hrow2.lt k e).1)
  have hb4 : Below w0.heap.size w0 w4 := hb3.grown hg4 hb3.size (fun k e => by cases e; exact h0B)
  have hs4 : w3.heap.size ≤ w4.heap.size := hg4.size
  have htg : some g' ≠ some t := by
    intro e
    rcases hat3' with h | h
    · exact htv (by rw [← h, e])
    · rw [e] at h; injection h with h; simp at h; have := HW.out; omega
  clear hw4
  have hrow5 := hrow4.kept (grownBy_putObj w4 l (.loop { { apRec ac bc fn sv Bs D .ready none with state := .busy } with state := if (none : Option Code).isNone then .ready else .done, pending := none })) (ownsRow_ne hrow4 hL4 (fun cur e => by cases e))
  refine ⟨_, _, run_endRound none hL4, HR.out _ ⟨⟨_, (World.putObj_heap_other hBl).trans hv4, by simpa using hrow5, by simp, by simpa [Value.ownBlock] using htg⟩, World.putObj_heap_same hl4, (World.putObj_heap_other hDl).trans hK4, hb4.grown (grownBy_putObj _ _ _) hb4.size (fun k e => by cases e; exact h0l)⟩ ?_ ?_⟩
  · exact Nat.le_trans (Nat.le_trans hs2 (by omega)) (grownBy_putObj _ _ _).size
  · exact (World.putObj_heap_other (fun e => hlt e.symm)).trans ht4

set_option maxRecDepth 100000 in
set_option maxHeartbeats 2000000 in
/-- slices.AppendSeq(nil, seq): it hands back just what the iterator gave, in that order. -/
theorem appendSeq_in (n : Nat) (hn : 2 ≤ n) (g : Nat) (lb : Array Value) (eg : ∀ args w, (callFunc g args).run Try.prog w = .ok (.enter g args) w)
    (S : List ID → Prop) (N : Nat) (hN : N ≤ maxLen) (hNb : N * 16 ≤ 140737488355328) (w : World) (hseq : Gives (n - 1) Try.prog g lb idV S N w) :
    CallsIn Fence.wide n Try.prog 67 #[.slice none 0 0, .func (.func g) #[] lb] w fun e w' => ∃ (v : Value) (ss : List ID), e = .returned v ∧ S ss ∧ w'.ownsRow w.heap.size 33 2 v ss.length (ss.flatMap cID) ∧ (v = .slice none 0 0 ↔ ss = []) ∧ Below w.heap.size w w' := by
  have h1 : 1 ≤ n := by omega
  refine callsIn_of_wp_marks Try.func67 rfl trivial ?_ rfl
  simp only [Try.ntmps67, List.size_toArray, List.length_cons, List.length_nil, Nat.reduceAdd, Nat.reduceSub, Array.replicate_succ, Array.replicate_zero, List.push_toArray, List.append_toArray, List.nil_append, List.cons_append]
  gi_wp2
  refine wpIn_rangeFunc ?_
  intro fn hfn
  have hro : Fence.wide.round = none := rfl
  rw [hro]
  obtain ⟨W0, hW0⟩ : ∃ W0, w.alloc (.cells #[.slice none 0 0] 30) = W0 := ⟨_, rfl⟩
  have hs0 : W0.heap.size = w.heap.size + 1 := by rw [← hW0]; simp
  have hv0 : W0.heap[w.heap.size]? = some (.cells #[.slice none 0 0] 30 (0, 0)) := by rw [← hW0]; exact World.alloc_heap_new w _
  have hb0 : Below w.heap.size w W0 := by rw [← hW0]; exact (Below.refl _ w).alloc (Nat.le_refl _) _
  rw [hW0]
  obtain ⟨W1, hW1⟩ : ∃ W1, (W0.alloc (.deferred (some []))).alloc (.loop (apRec (acOf Try.f67) (bcOf Try.f67) fn (.func (.func g) #[] lb) w.heap.size W0.heap.size .ready none)) = W1 := ⟨_, rfl⟩
  have hold : ∀ k, k < W0.heap.size → W1.heap[k]? = W0.heap[k]? := fun k hk => by
    rw [← hW1]; exact (Below.heap_alloc _ _ k (by simp; omega)).trans (Below.heap_alloc _ _ k hk)
  have hb1 : Below w.heap.size w W1 := by rw [← hW1]; exact (hb0.alloc hb0.size _).alloc (by have := hb0.size; simp; omega) _
  have hs1 : W1.heap.size = W0.heap.size + 2 := by rw [← hW1]; simp
  have hM : ApAt (acOf Try.f67) (bcOf Try.f67) w fn (.func (.func g) #[] lb) w.heap.size (W0.heap.size + 1) W0.heap.size W1.heap.size [] W1 :=
    ⟨⟨_, (hold w.heap.size (by omega)).trans hv0, ⟨rfl, .inl ⟨rfl, rfl⟩⟩, by simp, by simp [Value.ownBlock]⟩,
     by rw [← hW1]; have := World.alloc_heap_new (W0.alloc (.deferred (some []))) (.loop (apRec (acOf Try.f67) (bcOf Try.f67) fn (.func (.func g) #[] lb) w.heap.size W0.heap.size .ready none)); rwa [World.size_alloc] at this,
     by rw [← hW1]; exact (Below.heap_alloc _ _ _ (by simp)).trans (World.alloc_heap_new W0 _), hb1⟩
  refine ⟨W0.heap.size + 1, [{ target := .collected W0.heap.size, args := #[] }], W1, { target := .fn (.func g) lb, args := #[.func (.yield (W0.heap.size + 1)) #[] #[]] }, W1, g,
    #[.func (.yield (W0.heap.size + 1)) #[] #[]] ++ lb, W1, ?_, ?_, ?_, ?_, fun _ => h1, ?_⟩
  · rw [← hW1]; exact run_enterLoop_outer _ _ _ _ _
  · simp [resolve, go_sem]
  · intro f' hf'; trivial
  · simp [invoke, go_sem, eg]
  · refine (hseq (W0.heap.size + 1) (ApAt (acOf Try.f67) (bcOf Try.f67) w fn (.func (.func g) #[] lb) w.heap.size (W0.heap.size + 1) W0.heap.size W1.heap.size) W1 hb1
      (fun s A B hJ _ hg => ap_abides _ _ _ _ _ _ _ _ _ (by omega) (by omega) (by omega) hb1.size s A B hJ hg)
      (fun pre x W hJ hlt hl => apYield _ _ rfl rfl (n - 1 - 1) w fn _ w.heap.size (W0.heap.size + 1) W0.heap.size W1.heap.size (by omega) (by omega) (by omega) (Nat.le_refl _) (by omega) (by omega) (by omega) (by omega) hb1.size N hN hNb pre x W hJ hlt hl _
        (fun W' h1 h2 h3 => ⟨rfl, h1, h2, h3, h1.below⟩)) hM).mono ?_
    rintro e W2 ⟨⟨v0, rfl⟩, ss, hS, h2⟩
    obtain ⟨v, hv, hrow, hnil, _⟩ := h2.box
    have hend := run_endLoop (P := Try.prog) h2.L (by simp [apRec])
    obtain ⟨W3, hW3⟩ : ∃ W3, W2.putObj (W0.heap.size + 1) (.loop { apRec (acOf Try.f67) (bcOf Try.f67) fn (.func (.func g) #[] lb) w.heap.size W0.heap.size .ready none with state := .exhausted }) = W3 := ⟨_, rfl⟩
    rw [hW3] at hend
    have hg3 : W2.grownBy W3 (some (W0.heap.size + 1)) := by rw [← hW3]; exact grownBy_putObj _ _ _
    have hv3 : W3.heap[w.heap.size]? = some (.cells #[v] 30 (0, 0)) := by rw [← hW3]; exact (World.putObj_heap_other (by omega)).trans hv
    have hK3 : W3.heap[W0.heap.size]? = some (.deferred (some [])) := by rw [← hW3]; exact (World.putObj_heap_other (by omega)).trans h2.K
    have hrow3 := hrow.kept hg3 (ownsRow_ne hrow h2.L (fun cur e => by cases e))
    have hb3 : Below w.heap.size w W3 := h2.below.grown hg3 h2.below.size (fun k e => by cases e; omega)
    obtain ⟨hc3, hf3⟩ := cell_of_box hv3
    clear hW3
    refine ⟨none, W3, hend, ?_⟩
    gi_wp2
    rw [← hs0]
    refine ⟨by simp, .inl ⟨_, _, rfl, run_takeDeferred hK3, ?_⟩⟩
    exact ⟨_, results_tmp rfl _ _ _, v, ss, rfl, hS, hrow3.kept (grownBy_putObj _ _ _) (ownsRow_ne hrow3 hK3 (fun cur e => by cases e)), hnil, hb3.grown (grownBy_putObj _ _ _) hb3.size (fun k e => by cases e; omega)⟩

set_option maxHeartbeats 1000000 in
theorem collect_any (n : Nat) (hn : 3 ≤ n) (g : Nat) (lb : Array Value) (eg : ∀ args w, (callFunc g args).run Try.prog w = .ok (.enter g args) w)
    (S : List ID → Prop) (N : Nat) (hN : N ≤ maxLen) (hNb : N * 16 ≤ 140737488355328) (w : World) (hseq : Gives (n - 1 - 1) Try.prog g lb idV S N w) :
    Calls Try.prog 63 #[.func (.func g) #[] lb] w fun e w' => ∃ (v : Value) (ss : List ID), e = .returned v ∧ S ss ∧ w'.ownsRow w.heap.size 33 2 v ss.length (ss.flatMap cID) ∧ (v = .slice none 0 0 ↔ ss = []) ∧ Below w.heap.size w w' := by
  go_enter Try.func63, Try.ntmps63
  go_wp2_with fail
  refine (callsIn_wide.1 (appendSeq_in (n - 1) (by omega) g lb eg S N hN hNb _ hseq)).mono ?_
  rintro e w' ⟨v, ss, rfl, hS, hrow, hnil, hb⟩
  go_wp2
  go_ret
  exact ⟨v, ss, rfl, hS, hrow, hnil, hb⟩
end Go.Proofs.Ytenphdgnaknbeaa
