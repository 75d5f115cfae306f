/-
  EntryNames: several entries at once; calls at nil; Copy.
-/
import Derived.Test.YtlnflbobcbnhhaaEntG
namespace Go.Proofs.Ytlnflbobcbnhhaa
open Go.RowKit

theorem tick_nil (w : World) : Calls Try.prog 10 #[.pointer none] w fun e w' => e = .returned (.tuple #[.slice none 0 0, .bool false]) ∧ w' = w := by
  go_enter Try.func10, Try.ntmps10
  go_wp2
  go_ret2
  exact ⟨rfl, rfl⟩
theorem answered_nil (w : World) : Calls Try.prog 12 #[.pointer none] w fun e w' => e = .returned (.tuple #[]) ∧ w' = w := by
  go_enter Try.func12, Try.ntmps12
  go_wp2
  go_end0
  exact ⟨rfl, rfl⟩
theorem ticks_nil (w : World) : Calls Try.prog 14 #[.pointer none] w fun e w' => e = .returned (.int .i64 0) ∧ w' = w := by
  go_enter Try.func14, Try.ntmps14
  go_wp2
  go_ret
  exact ⟨rfl, rfl⟩
theorem copy_nil (w : World) : Calls Try.prog 15 #[.pointer none] w fun e w' => e = .returned (.pointer none) ∧ w' = w := by
  go_enter Try.func15, Try.ntmps15
  go_wp2
  go_ret
  exact ⟨rfl, rfl⟩
theorem copy_any {b : Nat} {row : Option Nat} {x : E} (w : World) (h : EHas w b row x) :
    Calls Try.prog 15 #[.pointer (some ⟨b, 0, none⟩)] w fun e w' => e = .returned (.pointer (some ⟨w.heap.size, 0, none⟩)) ∧ EHas w' w.heap.size row x ∧ Keep (fun _ => False) w w' := by
  obtain ⟨A, n, c, hb, hs⟩ := h
  have p0 := hb.cell 0
  have p1 := hb.cell 1
  have p2 := hb.cell 2
  have p3 := hb.cell 3
  have p4 := hb.cell 4
  simp at p0 p1 p2 p3 p4
  have HS := Lib.hid hs
  clear hb hs
  go_enter Try.func15, Try.ntmps15
  go_wp2
  go_ret
  exact ⟨rfl, ⟨A, n, c, Blk.new _ _ _, HS.out.keep ((Keep.refl (fun _ => False) w).alloc _) (fun _ _ h => h)⟩, (Keep.refl (fun _ => False) w).alloc _⟩

/-- entries of the law's own, in blocks apart -/
structure ENs (w0 : World) (L : List (Nat × E)) (w : World) : Prop where
  old : Below w0.heap.size w0 w
  all : ∀ p ∈ L, EN w0 p.1 p.2 w
  apart : (L.map (·.1)).Nodup
theorem ENs.nil_ {w0 w : World} (h : Below w0.heap.size w0 w) : ENs w0 [] w := ⟨h, by simp, by simp⟩
theorem ENs.keep0 {w0 w w' : World} {L : List (Nat × E)} (h : ENs w0 L w) (hk : Keep (fun _ => False) w w') : ENs w0 L w' :=
  ⟨h.old.trans (hk.below h.old.size (fun _ h => h.elim)), fun p hp => (h.all p hp).keep0 hk, h.apart⟩
theorem ENs.new_ {w0 w w' : World} {L : List (Nat × E)} {b : Nat} {row : Option Nat} {x : E} (h : ENs w0 L w) (ok : x.Ok) (hE : EHas w' b row x) (hb : w.heap.size ≤ b) (hr : ∀ g, row = some g → w0.heap.size ≤ g) (hk : Keep (fun _ => False) w w') : ENs w0 (L ++ [(b, x)]) w' := by
  have hB := h.old.trans (hk.below h.old.size (fun _ h => h.elim))
  refine ⟨hB, ?_, ?_⟩
  · intro p hp
    rcases List.mem_append.1 hp with hp | hp
    · exact (h.all p hp).keep0 hk
    · simp only [List.mem_singleton] at hp
      subst hp
      exact ⟨row, hB, hE, Nat.le_trans h.old.size hb, hr, ok⟩
  · rw [List.map_append, List.nodup_append]
    refine ⟨h.apart, by simp, ?_⟩
    intro a ha c hc e
    simp only [List.map_cons, List.map_nil, List.mem_singleton] at hc
    obtain ⟨p, hp, rfl⟩ := List.mem_map.1 ha
    obtain ⟨r, hs⟩ := h.all p hp
    obtain ⟨A, n, c', hbb, _⟩ := hs.has
    have := hbb.lt
    omega
theorem ENs.made {w0 w w' : World} {L : List (Nat × E)} {b : Nat} {row : Option Nat} {x : E} (h : ENs w0 L w) (ok : x.Ok) (hE : EHas w' b row x) (hb : w.heap.size ≤ b) (hr : ∀ g, row = some g → w.heap.size ≤ g) (hk : Keep (fun _ => False) w w') : ENs w0 (L ++ [(b, x)]) w' :=
  h.new_ ok hE hb (fun g hg => Nat.le_trans h.old.size (hr g hg)) hk
theorem ESt.other {w0 w w' : World} {b b' : Nat} {row row' : Option Nat} {x x' : E} (h : ESt w0 w b row x) (h' : ESt w0 w b' row' x') (hne : b ≠ b') (hk : Keep (fun k => k = b) w w') : ESt w0 w' b' row' x' := by
  have hf := h'.has.row_far h.has
  obtain ⟨A, n, c, hb, hs⟩ := h'.has
  exact ⟨h.old.trans (hk.below h.old.size (fun k e => by have := h.own; omega)), ⟨A, n, c, hb.keep hk (fun e => hne e.symm), hs.keep hk (fun g hg e => hf (by rw [hg, e]))⟩, h'.own, h'.rown, h'.ok⟩
theorem ENs.step {w0 w : World} {l1 l2 : List (Nat × E)} {b : Nat} {x : E} (h : ENs w0 (l1 ++ (b, x) :: l2) w) :
    ∃ row, ESt w0 w b row x ∧ ∀ y w', y.Ok → EHas w' b row y → Keep (fun k => k = b) w w' → ENs w0 (l1 ++ (b, y) :: l2) w' := by
  obtain ⟨row, hs⟩ := h.all (b, x) (by simp)
  refine ⟨row, hs, fun y w' ok hE hk => ⟨h.old.trans (hk.below h.old.size (fun k e => by have := hs.own; omega)), ?_, by simpa using h.apart⟩⟩
  have hap := h.apart
  simp only [List.map_append, List.map_cons, List.nodup_append, List.nodup_cons] at hap
  intro p hp
  have one : ∀ p, p ∈ l1 ∨ p ∈ l2 → EN w0 p.1 p.2 w' := by
    intro p hp
    obtain ⟨r, h'⟩ := h.all p (by rcases hp with hp | hp <;> simp [hp])
    refine ⟨r, hs.other h' ?_ hk⟩
    intro e
    have e : b = p.1 := e
    rcases hp with hp | hp
    · exact hap.2.2 p.1 (List.mem_map_of_mem hp) b (by simp) e.symm
    · exact hap.2.1.1 (e ▸ List.mem_map_of_mem hp)
  rcases List.mem_append.1 hp with hp | hp
  · exact one p (.inl hp)
  · rcases List.mem_cons.1 hp with rfl | hp
    · exact EN.turn hs ok hE hk
    · exact one p (.inr hp)

theorem ens_ticksT {w0 w : World} (l1 l2 : List (Nat × E)) {b : Nat} {x : E} (L : List (List UInt8)) {g n c : Nat} {cs : Array Value} {t : TypeId} (h : ENs w0 (l1 ++ (b, x) :: l2) w) (hb : Blk w g t cs) (hcs : cs = (L.map fun l => Value.string ⟨l.toArray⟩).toArray) (ht : t ≠ 47)
    (hn : n = L.length) (hn2 : L.length ≤ 1000) (heq : ∀ i, i < L.length → L.getD i [] = (tickN i x).text) :
    Calls Try.prog 17 #[.pointer (some ⟨b, 0, none⟩), .slice (some ⟨g, 0, none⟩) n c] w fun e w' => e = .returned (.bool true) ∧ ENs w0 (l1 ++ (b, tickN n x) :: l2) w' := by
  obtain ⟨row, hs, hst⟩ := h.step
  subst hn hcs
  have hgb : g ≠ b := by
    obtain ⟨A, m, c, hbb, _⟩ := hs.has
    exact hb.ne_ hbb ht
  refine (ticks_true w hs.has hs.ok (fun i => L.getD i []) (fun i hi => by rw [Nat.zero_add, hb.cell]; simp [hi]) hgb hn2 heq).mono ?_
  rintro e w' ⟨rfl, hE, hK⟩
  exact ⟨rfl, hst _ _ (tickN_ok hs.ok _) hE hK⟩
theorem ens_answered {w0 w : World} (l1 l2 : List (Nat × E)) {b : Nat} {x : E} (h : ENs w0 (l1 ++ (b, x) :: l2) w) :
    Calls Try.prog 12 #[.pointer (some ⟨b, 0, none⟩)] w fun e w' => e = .returned (.tuple #[]) ∧ ENs w0 (l1 ++ (b, x.answer) :: l2) w' := by
  obtain ⟨row, hs, hst⟩ := h.step
  refine (answered_any w hs.has).mono ?_
  rintro e w' ⟨rfl, hE, hK⟩
  exact ⟨rfl, hst _ _ hs.ok.answer hE hK⟩
theorem ens_ticks {w0 w : World} (l1 l2 : List (Nat × E)) {b : Nat} {x : E} (h : ENs w0 (l1 ++ (b, x) :: l2) w) :
    Calls Try.prog 14 #[.pointer (some ⟨b, 0, none⟩)] w fun e w' => e = .returned (.int .i64 x.ticks) ∧ w = w' := by
  obtain ⟨row, hs, _⟩ := h.step
  exact ticks_any w hs.has
theorem ens_copy {w0 w : World} (l1 l2 : List (Nat × E)) {b : Nat} {x : E} (h : ENs w0 (l1 ++ (b, x) :: l2) w) :
    Calls Try.prog 15 #[.pointer (some ⟨b, 0, none⟩)] w fun e w' => ∃ b', e = .returned (.pointer (some ⟨b', 0, none⟩)) ∧ ENs w0 ((l1 ++ (b, x) :: l2) ++ [(b', x)]) w' := by
  obtain ⟨row, hs, _⟩ := h.step
  refine (copy_any w hs.has).mono ?_
  rintro e w' ⟨rfl, hE, hK⟩
  exact ⟨_, rfl, h.new_ hs.ok hE (Nat.le_refl _) hs.rown hK⟩
theorem blk_rd {w : World} {g : Nat} {t : TypeId} {xs : List Value} (h : Blk w g t xs.toArray) : Rd w (some ⟨g, 0, none⟩) xs.length xs :=
  ⟨rfl, fun k hk => ⟨g, 0, xs[k], rfl, by simp [hk], by rw [Nat.zero_add, h.cell]; simp [hk]⟩⟩
end Go.Proofs.Ytlnflbobcbnhhaa
