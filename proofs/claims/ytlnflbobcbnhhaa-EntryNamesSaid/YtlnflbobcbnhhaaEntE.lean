/-
  Entries that the law itself made; the examples ('works').
-/
import Derived.Test.YtlnflbobcbnhhaaEntD
namespace Go.Proofs.Ytlnflbobcbnhhaa
open Go.RowKit

/-- The law began in w0; an entry x of its own lies in block b; nothing of old has turned. -/
structure ESt (w0 w : World) (b : Nat) (row : Option Nat) (x : E) : Prop where
  old : Below w0.heap.size w0 w
  has : EHas w b row x
  own : w0.heap.size ≤ b
  rown : ∀ g, row = some g → w0.heap.size ≤ g
  ok : x.Ok
def EN (w0 : World) (b : Nat) (x : E) (w : World) : Prop := ∃ row, ESt w0 w b row x
/-- two of them -/
def EN2 (w0 : World) (b : Nat) (x : E) (b' : Nat) (x' : E) (w : World) : Prop := ∃ row row', ESt w0 w b row x ∧ ESt w0 w b' row' x' ∧ b ≠ b'
theorem EHas.row_far {w : World} {b b' : Nat} {row row' : Option Nat} {x x' : E} (h : EHas w b row x) (h' : EHas w b' row' x') : row ≠ some b' := by
  intro hg
  obtain ⟨A, n, c, _, hs⟩ := h
  obtain ⟨A', n', c', hb, _⟩ := h'
  rcases hs.2.2.2 with ⟨h1, _⟩ | ⟨g', off, cur, h1, _, hbb, _⟩
  · rw [h1] at hg; cases hg
  · rw [hg] at h1; injection h1 with h1; subst h1
    exact Blk.ne_ hb hbb (by decide) rfl
theorem EN.old {w0 w : World} {b : Nat} {x : E} (h : EN w0 b x w) : Below w0.heap.size w0 w := by obtain ⟨_, h⟩ := h; exact h.old
theorem EN.ok {w0 w : World} {b : Nat} {x : E} (h : EN w0 b x w) : x.Ok := by obtain ⟨_, h⟩ := h; exact h.ok
theorem EN2.swap {w0 w : World} {b b' : Nat} {x x' : E} (h : EN2 w0 b x b' x' w) : EN2 w0 b' x' b x w := by
  obtain ⟨r, r', h1, h2, hne⟩ := h
  exact ⟨r', r, h2, h1, fun e => hne e.symm⟩
theorem EN2.fst {w0 w : World} {b b' : Nat} {x x' : E} (h : EN2 w0 b x b' x' w) : EN w0 b x w := by
  obtain ⟨r, r', h1, _⟩ := h
  exact ⟨r, h1⟩
theorem EN2.old {w0 w : World} {b b' : Nat} {x x' : E} (h : EN2 w0 b x b' x' w) : Below w0.heap.size w0 w := h.fst.old
theorem ESt.keep0 {w0 w w' : World} {b : Nat} {row : Option Nat} {x : E} (h : ESt w0 w b row x) (hk : Keep (fun _ => False) w w') : ESt w0 w' b row x :=
  ⟨h.old.trans (hk.below h.old.size (fun _ h => h.elim)), h.has.keep0 hk, h.own, h.rown, h.ok⟩
theorem EN.keep0 {w0 w w' : World} {b : Nat} {x : E} (h : EN w0 b x w) (hk : Keep (fun _ => False) w w') : EN w0 b x w' := by
  obtain ⟨r, h⟩ := h
  exact ⟨r, h.keep0 hk⟩
theorem EN2.keep0 {w0 w w' : World} {b b' : Nat} {x x' : E} (h : EN2 w0 b x b' x' w) (hk : Keep (fun _ => False) w w') : EN2 w0 b x b' x' w' := by
  obtain ⟨r, r', h1, h2, hne⟩ := h
  exact ⟨r, r', h1.keep0 hk, h2.keep0 hk, hne⟩
theorem EN.turn {w0 w w' : World} {b : Nat} {row : Option Nat} {x y : E} (h : ESt w0 w b row x) (ok : y.Ok) (hy : EHas w' b row y) (hk : Keep (fun k => k = b) w w') : EN w0 b y w' :=
  ⟨row, h.old.trans (hk.below h.old.size (fun k e => by have := h.own; omega)), hy, h.own, h.rown, ok⟩
theorem EN2.turn {w0 w w' : World} {b b' : Nat} {row row' : Option Nat} {x x' y : E} (h : ESt w0 w b row x) (h' : ESt w0 w b' row' x') (hne : b ≠ b') (ok : y.Ok) (hy : EHas w' b row y) (hk : Keep (fun k => k = b) w w') : EN2 w0 b y b' x' w' := by
  have hf := h'.has.row_far h.has
  obtain ⟨A, n, c, hb, hs⟩ := h'.has
  have hB := h.old.trans (hk.below h.old.size (fun k e => by have := h.own; omega))
  exact ⟨row, row', ⟨hB, hy, h.own, h.rown, ok⟩, ⟨hB, ⟨A, n, c, hb.keep hk (fun e => hne e.symm), hs.keep hk (fun g hg e => hf (by rw [hg, e]))⟩, h'.own, h'.rown, h'.ok⟩, hne⟩

/-- whom it asks, in memory -/
def Asks (w : World) (A : Option Addr) (c : Nat) (l : List Int) : Prop := ∃ row, Sl w 3 row A l.length c (l.map (.int .i64))

theorem en_tick {w0 w : World} {b : Nat} {x : E} (h : EN w0 b x w) :
    Calls Try.prog 10 #[.pointer (some ⟨b, 0, none⟩)] w fun e w' => ∃ A c, e = .returned (.tuple #[.slice A x.asks.length c, .bool x.alone]) ∧ Asks w' A c x.asks ∧ EN w0 b x.tick w' := by
  obtain ⟨row, h⟩ := h
  refine (tick_any w h.has h.ok).mono ?_
  rintro e w' ⟨row', A, c, rfl, hs, _, hE, hK⟩
  exact ⟨A, c, rfl, ⟨row', hs⟩, EN.turn h h.ok.tick hE hK⟩
theorem en2_tick {w0 w : World} {b b' : Nat} {x x' : E} (h : EN2 w0 b x b' x' w) :
    Calls Try.prog 10 #[.pointer (some ⟨b, 0, none⟩)] w fun e w' => ∃ A c, e = .returned (.tuple #[.slice A x.asks.length c, .bool x.alone]) ∧ EN2 w0 b x.tick b' x' w' := by
  obtain ⟨row, row', h, h', hne⟩ := h
  refine (tick_any w h.has h.ok).mono ?_
  rintro e w' ⟨_, A, c, rfl, hs, _, hE, hK⟩
  exact ⟨A, c, rfl, EN2.turn h h' hne h.ok.tick hE hK⟩
theorem en2_tick' {w0 w : World} {b b' : Nat} {x x' : E} (h : EN2 w0 b x b' x' w) :
    Calls Try.prog 10 #[.pointer (some ⟨b', 0, none⟩)] w fun e w' => ∃ A c, e = .returned (.tuple #[.slice A x'.asks.length c, .bool x'.alone]) ∧ EN2 w0 b x b' x'.tick w' :=
  (en2_tick h.swap).mono fun _ _ ⟨A, c, he, h⟩ => ⟨A, c, he, h.swap⟩
def E.answer (x : E) : E := { x with ans := true }
theorem E.Ok.answer {x : E} (h : x.Ok) : x.answer.Ok := ⟨h.r1, h.r2, h.t1, h.t2, h.len⟩
theorem en_answered {w0 w : World} {b : Nat} {x : E} (h : EN w0 b x w) :
    Calls Try.prog 12 #[.pointer (some ⟨b, 0, none⟩)] w fun e w' => e = .returned (.tuple #[]) ∧ EN w0 b x.answer w' := by
  obtain ⟨row, h⟩ := h
  refine (answered_any w h.has).mono ?_
  rintro e w' ⟨rfl, hE, hK⟩
  exact ⟨rfl, EN.turn h h.ok.answer hE hK⟩
theorem en_ticks {w0 w : World} {b : Nat} {x : E} (h : EN w0 b x w) :
    Calls Try.prog 14 #[.pointer (some ⟨b, 0, none⟩)] w fun e w' => e = .returned (.int .i64 x.ticks) ∧ EN w0 b x w' := by
  have hN := h
  obtain ⟨row, h⟩ := h
  refine (ticks_any w h.has).mono ?_
  rintro e w' ⟨rfl, rfl⟩
  exact ⟨rfl, hN⟩

/-- a new one -/
def newE (seeds : List Int) (retry own : Int) : E := ⟨seeds, retry, own, 0, false⟩
theorem newE_ok {seeds : List Int} {retry own : Int} (h1 : 1 ≤ retry) (h2 : retry ≤ 4096) (h3 : seeds.length ≤ 1000) : (newE seeds retry own).Ok := ⟨h1, h2, by simp [newE], by simp [newE], h3⟩
theorem EN.made {w0 w w' : World} {b : Nat} {row : Option Nat} {x : E} (h0 : Below w0.heap.size w0 w) (ok : x.Ok) (h : EHas w' b row x) (hb : w.heap.size ≤ b) (hr : ∀ g, row = some g → w.heap.size ≤ g) (hk : Keep (fun _ => False) w w') : EN w0 b x w' :=
  ⟨row, h0.trans (hk.below h0.size (fun _ h => h.elim)), h, Nat.le_trans h0.size hb, fun g hg => Nat.le_trans h0.size (hr g hg), ok⟩
theorem EN2.made {w0 w w' : World} {b b1 : Nat} {row : Option Nat} {x x1 : E} (h1 : EN w0 b1 x1 w) (ok : x.Ok) (h : EHas w' b row x) (hb : w.heap.size ≤ b) (hr : ∀ g, row = some g → w.heap.size ≤ g) (hk : Keep (fun _ => False) w w') : EN2 w0 b1 x1 b x w' := by
  obtain ⟨r1, s1⟩ := h1
  obtain ⟨row', s2⟩ := EN.made s1.old ok h hb hr hk
  have hlt : b1 < w.heap.size := by obtain ⟨A, n, c, hb, _⟩ := s1.has; exact hb.lt
  refine ⟨r1, row', s1.keep0 hk, s2, by omega⟩

set_option maxHeartbeats 1000000 in
theorem two_any (w : World) : Calls Try.prog 16 #[] w fun e w' => e = .returned (cfgV (.slice (some ⟨w.heap.size + 1, 0, none⟩) 2 2) (.int .i64 0) (.int .i64 0) (.int .i64 0) (.int .i64 0) 3 (.int .i64 0) (.int .i64 0) (.int .u8 0) (.int .i64 0) (.bool false) (.bool false) (.int .i64 0) (.int .i64 0) (.int .i64 0) (.int .i64 0) (.int .i64 0)) ∧
    Keep (fun _ => False) w w' ∧ Sl w' 3 (some (w.heap.size + 1)) (some ⟨w.heap.size + 1, 0, none⟩) 2 2 ([1, 2].map (.int .i64)) := by
  go_enter Try.func16, Try.ntmps16
  go_wp2
  refine bodyPost_ret (v := cfgV (.slice (some ⟨w.heap.size + 1, 0, none⟩) 2 2) (.int .i64 0) (.int .i64 0) (.int .i64 0) (.int .i64 0) 3 (.int .i64 0) (.int .i64 0) (.int .u8 0) (.int .i64 0) (.bool false) (.bool false) (.int .i64 0) (.int .i64 0) (.int .i64 0) (.int .i64 0) (.int .i64 0)) (by simp [results, Try.results16, go_sem]) rfl ⟨rfl, ?_, ?_⟩
  · exact ((Keep.refl (fun _ => False) w).alloc _).alloc _
  · refine ⟨rfl, Nat.le_refl _, by simp [maxLen], .inr ⟨w.heap.size + 1, 0, #[.int .i64 1, .int .i64 2], rfl, rfl, ?_, by simp, fun j hj => ?_⟩⟩
    · exact Blk.new (w.alloc _) 3 #[.int .i64 1, .int .i64 2] |> fun h => by rw [World.size_alloc] at h; exact h
    · match j, hj with
      | 0, _ => rfl
      | 1, _ => rfl

theorem en2_ticksT {w0 w : World} {b b' g n c : Nat} {x x' : E} (h : EN2 w0 b x b' x' w) (cs : Array Value) (t : TypeId) (ws : Nat → List UInt8) (hb : Blk w g t cs) (ht : t ≠ 47) (hw : ∀ i, i < n → cs[i]? = some (.string ⟨(ws i).toArray⟩)) (hn : n ≤ 1000) (heq : ∀ i, i < n → ws i = (tickN i x).text) :
    Calls Try.prog 17 #[.pointer (some ⟨b, 0, none⟩), .slice (some ⟨g, 0, none⟩) n c] w fun e w' => e = .returned (.bool true) ∧ EN2 w0 b (tickN n x) b' x' w' := by
  obtain ⟨row, row', h, h', hne⟩ := h
  have hgb : g ≠ b := by
    obtain ⟨A, m, c, hbb, _⟩ := h.has
    exact hb.ne_ hbb ht
  refine (ticks_true w h.has h.ok ws (fun i hi => by rw [Nat.zero_add, hb.cell]; exact hw i hi) hgb hn heq).mono ?_
  rintro e w' ⟨rfl, hE, hK⟩
  exact ⟨rfl, EN2.turn h h' hne (tickN_ok h.ok n) hE hK⟩
theorem en2_ticksT' {w0 w : World} {b b' g n c : Nat} {x x' : E} (h : EN2 w0 b x b' x' w) (cs : Array Value) (t : TypeId) (ws : Nat → List UInt8) (hb : Blk w g t cs) (ht : t ≠ 47) (hw : ∀ i, i < n → cs[i]? = some (.string ⟨(ws i).toArray⟩)) (hn : n ≤ 1000) (heq : ∀ i, i < n → ws i = (tickN i x').text) :
    Calls Try.prog 17 #[.pointer (some ⟨b', 0, none⟩), .slice (some ⟨g, 0, none⟩) n c] w fun e w' => e = .returned (.bool true) ∧ EN2 w0 b x b' (tickN n x') w' :=
  (en2_ticksT h.swap cs t ws hb ht hw hn heq).mono fun _ _ ⟨he, h⟩ => ⟨he, h.swap⟩

def xA : E := newE [1, 2] 3 1
def xB : E := newE [1, 2] 3 3
def wsA (i : Nat) : List UInt8 := [[50], [45], [45], [50], [45], [97], [50, 97], [97]].getD i []
def wsB (i : Nat) : List UInt8 := [[49, 50], [45], [45], [49, 50], [45], [45], [49, 50], [45]].getD i []

theorem wsA_cells : ∀ i, i < 8 → (#[.string ⟨#[50]⟩, .string ⟨#[45]⟩, .string ⟨#[45]⟩, .string ⟨#[50]⟩, .string ⟨#[45]⟩, .string ⟨#[97]⟩, .string ⟨#[50, 97]⟩, .string ⟨#[97]⟩] : Array Value)[i]? = some (.string ⟨(wsA i).toArray⟩) := by
  intro i hi
  match i, hi with
  | 0, _ => rfl
  | 1, _ => rfl
  | 2, _ => rfl
  | 3, _ => rfl
  | 4, _ => rfl
  | 5, _ => rfl
  | 6, _ => rfl
  | 7, _ => rfl
theorem wsB_cells : ∀ i, i < 8 → (#[.string ⟨#[49, 50]⟩, .string ⟨#[45]⟩, .string ⟨#[45]⟩, .string ⟨#[49, 50]⟩, .string ⟨#[45]⟩, .string ⟨#[45]⟩, .string ⟨#[49, 50]⟩, .string ⟨#[45]⟩] : Array Value)[i]? = some (.string ⟨(wsB i).toArray⟩) := by
  intro i hi
  match i, hi with
  | 0, _ => rfl
  | 1, _ => rfl
  | 2, _ => rfl
  | 3, _ => rfl
  | 4, _ => rfl
  | 5, _ => rfl
  | 6, _ => rfl
  | 7, _ => rfl

theorem wsA_text : ∀ i, i < 8 → wsA i = (tickN i xA).text := by decide
theorem wsB_text : ∀ i, i < 8 → wsB i = (tickN i xB).text := by decide
set_option maxRecDepth 100000 in
set_option maxHeartbeats 2000000 in
theorem works_any (w : World) : Calls Try.prog 8 #[] w fun e w' => e = .returned (.bool true) ∧ Below w.heap.size w w' := by
  go_enter Try.func8, Try.ntmps8
  go_wp2_with fail
  refine (two_any w).mono ?_
  rintro e w1 ⟨rfl, hk1, hs1⟩
  go_wp2_with fail
  refine (new_ok [1, 2] _ _ _ _ 3 _ _ _ _ _ _ _ _ _ _ _ 1 1 w1 (by decide) (by decide) (by decide) hs1.rd (by decide)).mono ?_
  rintro e w2 ⟨b, row, rfl, hE, hb, hr, hk⟩
  have hN := EN.made (w0 := w) (hk1.below (Nat.le_refl _) (fun _ h => h.elim)) (newE_ok (seeds := [1, 2]) (retry := 3) (own := 1) (by decide) (by decide) (by decide)) hE hb hr hk
  clear hk1 hs1 hE hb hr hk
  go_wp2_with fail
  refine (two_any w2).mono ?_
  rintro e w3 ⟨rfl, hk3, hs3⟩
  have hN3 := hN.keep0 hk3
  clear hN hk3
  go_wp2_with fail
  refine (new_ok [1, 2] _ _ _ _ 3 _ _ _ _ _ _ _ _ _ _ _ 3 1 w3 (by decide) (by decide) (by decide) hs3.rd (by decide)).mono ?_
  rintro e w4 ⟨b', row', rfl, hE, hb, hr, hk⟩
  have h2 := EN2.made hN3 (newE_ok (seeds := [1, 2]) (retry := 3) (own := 3) (by decide) (by decide) (by decide)) hE hb hr hk
  clear hN3 hs3 hE hb hr hk
  go_wp2_with fail
  refine (en2_ticksT (h2.keep0 ((Keep.refl (fun _ => False) w4).alloc _)) _ 9 wsA (Blk.new w4 _ _) (by decide) wsA_cells (by decide) wsA_text).mono ?_
  clear h2
  rintro e w5 ⟨rfl, h5⟩
  go_wp2_with fail
  refine (en2_ticksT' (h5.keep0 ((Keep.refl (fun _ => False) w5).alloc _)) _ 9 wsB (Blk.new w5 _ _) (by decide) wsB_cells (by decide) wsB_text).mono ?_
  clear h5
  rintro e w6 ⟨rfl, h6⟩
  go_wp2
  go_ret
  exact ⟨rfl, h6.old⟩
end Go.Proofs.Ytlnflbobcbnhhaa
