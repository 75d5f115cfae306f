/-
  'for x := range seq { .. }' with an iterator that gives its elements in turn (GivesR), the round's variable in a block of its own; rounds that go on.
-/
import Derived.Test.YtafolmgbmobfbaaRinA
namespace Go.Proofs.Ytafolmgbmobfbaa
open Go.RowKit

theorem rangeFunc_gives {P : Program} {n : Nat} {g : Operand} {p : Tmp} {assign body : Code} {Q : Exit → Act → World → Prop} {a : Act} {w : World} (h1 : 1 ≤ n) {gf : Nat} {lb : Array Value}
    (hg : a.eval g = .func (.func gf) #[] lb) (eg : ∀ args w, (callFunc gf args).run P w = .ok (.enter gf args) w) {α : Type} {enc : α → Value} {S : List α → Prop} {N : Nat} {R : World → Prop} (hseq : GivesR (n - 1) P gf lb enc S N R)
    (cells : α → Array Value) (ty : TypeId) (I : List α → World → Prop)
    (hI0 : ∀ W1, Keep (fun _ => False) w W1 → I [] W1) (hIR : ∀ s W, I s W → R W)
    (hIk : ∀ s A B, I s A → Keep (fun k => k = w.heap.size ∨ k = w.heap.size + 1 ∨ k = w.heap.size + 2) A B → I s B) (a₁ : α → Nat → Act)
    (hassign : ∀ (l : Nat) (x : α) (W : World) (K : Act → World → Prop), K (a₁ x W.heap.size) (W.alloc (.cells (cells x) ty)) →
      assign.wpIn (Fence.wide.inRound l) (n - 1 - 1) P (Exit.then K (fun _ _ _ => False)) { tmps := a.tmps.setIfInBounds p (enc x), defers := [] } W)
    (hbody : ∀ (pre : List α) (x : α) (W : World) (b : Nat), I pre W → Blk W b ty (cells x) → w.heap.size + 2 < b → pre.length < N →
      body.wpIn (Fence.wide.inRound (w.heap.size + 1)) (n - 1 - 1) P (fun ex _ W' => ex = .normal ∧ Keep (fun k => k < w.heap.size) W W' ∧ I (pre ++ [x]) W') (a₁ x b) W)
    (hdone : ∀ (xs : List α) (W : World), S xs → I xs W → W.heap[w.heap.size]? = some (.deferred (some [])) → Q .normal { a with defers := { target := .collected w.heap.size, args := #[] } :: a.defers } W) :
    (Code.rangeFunc g #[p] assign body).wpIn Fence.wide n P Q a w := by
  refine wpIn_rangeFunc ?_
  intro fn hfn
  have hro : Fence.wide.round = none := rfl
  rw [hro]
  obtain ⟨rec, hrec⟩ : ∃ rec : LoopState → Option Code → Loop, rec = fun st pe => { state := st, pending := pe, fn, tmps := a.tmps, params := #[p], assign, body, defers := w.heap.size } := ⟨_, rfl⟩
  obtain ⟨W1, hW1⟩ : ∃ W1, (w.alloc (.deferred (some []))).alloc (.loop (rec .ready none)) = W1 := ⟨_, rfl⟩
  have hL1 : W1.heap[w.heap.size + 1]? = some (.loop (rec .ready none)) := by
    rw [← hW1]; have := World.alloc_heap_new (w.alloc (.deferred (some []))) (.loop (rec .ready none)); rwa [World.size_alloc] at this
  have hK1 : W1.heap[w.heap.size]? = some (.deferred (some [])) := by
    rw [← hW1]; exact (Below.heap_alloc _ _ _ (by simp)).trans (World.alloc_heap_new w _)
  have hk1 : Keep (fun _ => False) w W1 := by rw [← hW1]; exact ((Keep.refl _ w).alloc _).alloc _
  have hs1 : W1.heap.size = w.heap.size + 2 := by rw [← hW1]; simp
  refine ⟨w.heap.size + 1, [{ target := .collected w.heap.size, args := #[] }], W1, { target := .fn (.func gf) lb, args := #[.func (.yield (w.heap.size + 1)) #[] #[]] }, W1, gf,
    #[.func (.yield (w.heap.size + 1)) #[] #[]] ++ lb, W1, ?_, ?_, ?_, ?_, fun _ => h1, ?_⟩
  · rw [← hW1, hrec]; exact run_enterLoop_outer _ _ _ _ _
  · simp only [resolve, hg]
    simp [go_sem]
  · intro f' hf'; trivial
  · simp [invoke, go_sem, eg]
  · refine (hseq (w.heap.size + 1) (fun pre W => I pre W ∧ W.heap[w.heap.size + 1]? = some (.loop (rec .ready none)) ∧ W.heap[w.heap.size]? = some (.deferred (some []))) W1 (hIR _ _ (hI0 _ hk1))
      (fun s A B hJ hs hgr => ?_) (fun pre x W hJ hRW hs hlen => ?_) ⟨hI0 _ hk1, hL1, hK1⟩).mono ?_
    · obtain ⟨h2, h3, h4⟩ := hJ
      refine ⟨hIk _ _ _ h2 (Keep.grown hgr (fun k e => by injection e with e; omega)), ?_, ?_⟩
      · exact (hgr.block _ (by omega) (fun e => by injection e with e; omega)).trans h3
      · exact (hgr.block _ (by omega) (fun e => by injection e with e; omega)).trans h4
    · obtain ⟨h2, h3, h4⟩ := hJ
      have hy := run_yield (P := P) (args := #[enc x]) h3 (by rw [hrec]; rfl)
      have hy' : (Instr.yield (w.heap.size + 1) #[enc x]).run P W = .ok (.round (w.heap.size + 1) fn (a.tmps.setIfInBounds p (enc x)) assign body) W := by simpa [hrec] using hy
      refine ⟨fn, _, assign, body, hy', roundIn_of_wpIn hfn ?_⟩
      refine hassign _ x W _ ?_
      obtain ⟨W2, hW2⟩ : ∃ W2, W.alloc (.cells (cells x) ty) = W2 := ⟨_, rfl⟩
      have hs2 : W2.heap.size = W.heap.size + 1 := by rw [← hW2]; simp
      have hk2 : Keep (fun _ => False) W W2 := by rw [← hW2]; exact (Keep.refl _ W).alloc _
      have hb2 : Blk W2 W.heap.size ty (cells x) := by rw [← hW2]; exact Blk.new _ _ _
      rw [hW2]
      have hl2 := hk2.heap h3 (fun h => h)
      have hd2 := hk2.heap h4 (fun h => h)
      refine ⟨_, run_beginRound hl2 (by rw [hrec]), ?_⟩
      obtain ⟨W3, hW3⟩ : ∃ W3, W2.putObj (w.heap.size + 1) (.loop { rec .ready none with state := .busy }) = W3 := ⟨_, rfl⟩
      rw [hW3]
      have hg3 : W2.grownBy W3 (some (w.heap.size + 1)) := by rw [← hW3]; exact grownBy_putObj _ _ _
      have hl3 : W3.heap[w.heap.size + 1]? = some (.loop { rec .ready none with state := .busy }) := by rw [← hW3]; exact World.putObj_heap_same (by omega)
      have hd3 : W3.heap[w.heap.size]? = some (.deferred (some [])) := by rw [← hW3]; exact (World.putObj_heap_other (by omega)).trans hd2
      have hb3 : Blk W3 W.heap.size ty (cells x) := by rw [← hW3]; exact (World.putObj_heap_other (by omega)).trans hb2
      have ht3 : W3.heap[w.heap.size + 2]? = W.heap[w.heap.size + 2]? := by rw [← hW3]; exact (World.putObj_heap_other (by omega)).trans (hk2.block _ (by omega) (fun h => h))
      have hs3 : W2.heap.size ≤ W3.heap.size := hg3.size
      have hI3 : I pre W3 := hIk _ _ _ (hIk _ _ _ h2 (hk2.mono fun _ _ h => h.elim)) (Keep.grown hg3 (fun k e => by injection e with e; omega))
      refine wpIn_mono (hbody pre x W3 W.heap.size hI3 hb3 (by omega) hlen) ?_
      rintro ex a' W4 ⟨rfl, hk4, hI4⟩
      have hl4 := hk4.heap hl3 (by omega)
      have hd4 := hk4.heap hd3 (by omega)
      have hs4 : W3.heap.size ≤ W4.heap.size := hk4.size
      have ht4 : W4.heap[w.heap.size + 2]? = W.heap[w.heap.size + 2]? := (hk4.block _ (by omega) (by omega)).trans ht3
      have hend := run_endRound (P := P) none hl4
      obtain ⟨W5, hW5⟩ : ∃ W5, W4.putObj (w.heap.size + 1) (.loop { { rec .ready none with state := .busy } with state := if (none : Option Code).isNone then .ready else .done, pending := none }) = W5 := ⟨_, rfl⟩
      rw [hW5] at hend
      have hg5 : W4.grownBy W5 (some (w.heap.size + 1)) := by rw [← hW5]; exact grownBy_putObj _ _ _
      have hI5 : I (pre ++ [x]) W5 := hIk _ _ _ hI4 (Keep.grown hg5 (fun k e => by injection e with e; omega))
      refine ⟨_, _, hend, rfl, ⟨hI5, ?_, ?_⟩, ?_, ?_, hIR _ _ hI5⟩
      · rw [← hW5, hrec]
        exact World.putObj_heap_same (by omega)
      · rw [← hW5]; exact (World.putObj_heap_other (by omega)).trans hd4
      · have := hg5.size; omega
      · rw [hs1]; rw [← hW5]; exact (World.putObj_heap_other (by omega)).trans ht4
    · rintro e W2 ⟨⟨v0, rfl⟩, ss, hS, h2, h3, h4⟩
      have hend := run_endLoop (P := P) h3 (by simp [hrec])
      have hp : (rec .ready none).pending = none := by rw [hrec]
      rw [hp] at hend
      refine ⟨none, _, hend, ?_⟩
      refine hdone ss _ hS (hIk _ _ _ h2 (Keep.grown (grownBy_putObj _ _ _) (fun k e => by injection e with e; omega))) ?_
      exact (World.putObj_heap_other (by omega)).trans h4
end Go.Proofs.Ytafolmgbmobfbaa
