/-
  A watch of a law's own ('LW'): what each method does to it, told once; the blocks of L are not touched by any.
-/
import Derived.Test.YtenphdgnaknbeaaWatB
import Derived.Test.YtenphdgnaknbeaaWatC
import Derived.Test.YtenphdgnaknbeaaWatD
import Derived.Test.YtenphdgnaknbeaaWatE
namespace Go.Proofs.Ytenphdgnaknbeaa
open Go.RowKit
set_option maxRecDepth 100000

/-- The law began in w0; now, in w, a watch of its own lies in block b; nothing of old has turned, and the blocks of L are none of its. -/
def LW (w0 w : World) (b n : Nat) (L : List Nat) (mn mx wd : Int) (m : M) : Prop :=
  ∃ S, Wt w b n S mn mx wd m ∧ (∀ g, S g → w0.heap.size ≤ g) ∧ (∀ g ∈ L, ¬ S g ∧ g < w.heap.size) ∧ Keep (fun _ => False) w0 w
/-- x is heard -/
def heardM (m : M) (x : ID) (now : Int) : M := fun y => if y = x then (m x).map (fun d => d.heard now) else m y
/-- what calls on the watch may turn -/
def Free (w0 : World) (L : List Nat) (g : Nat) : Prop := w0.heap.size ≤ g ∧ g ∉ L
section
variable {w0 w w' : World} {b n : Nat} {L : List Nat} {mn mx wd : Int} {m : M}
theorem LW.k (h : LW w0 w b n L mn mx wd m) : Keep (fun _ => False) w0 w := by obtain ⟨S, _, _, _, h⟩ := h; exact h
theorem LW.keep0 (h : LW w0 w b n L mn mx wd m) (hk : Keep (fun _ => False) w w') : LW w0 w' b n L mn mx wd m := by
  obtain ⟨S, h1, h2, h3, h4⟩ := h
  exact ⟨S, h1.keep0 hk, h2, fun g hg => ⟨(h3 g hg).1, Nat.lt_of_lt_of_le (h3 g hg).2 hk.size⟩, keep0_trans _ _ _ h4 hk⟩
/-- a write to blocks of L -/
theorem LW.keepL (h : LW w0 w b n L mn mx wd m) {T : Nat → Prop} (hk : Keep T w w') (hT : ∀ g, g < w.heap.size → T g → w0.heap.size ≤ g ∧ g ∈ L) : LW w0 w' b n L mn mx wd m := by
  obtain ⟨S, h1, h2, h3, h4⟩ := h
  have hk' : Keep (fun g => g ∈ L) w w' := hk.mono fun g hg e => (hT g hg e).2
  exact ⟨S, h1.keep hk' (fun g hs hg => (h3 g hg).1 hs), h2, fun g hg => ⟨(h3 g hg).1, Nat.lt_of_lt_of_le (h3 g hg).2 hk.size⟩, h4.trans (hk.mono fun g hg e => .inr (hT g hg e).1)⟩
theorem LW.mono (h : LW w0 w b n L mn mx wd m) {n' : Nat} (hn : n ≤ n') : LW w0 w b n' L mn mx wd m := by
  obtain ⟨S, h1, h2, h3, h4⟩ := h
  exact ⟨S, h1.mono hn, h2, h3, h4⟩
theorem LW.less (h : LW w0 w b n L mn mx wd m) {L' : List Nat} (hl : ∀ g ∈ L', g ∈ L) : LW w0 w b n L' mn mx wd m := by
  obtain ⟨S, h1, h2, h3, h4⟩ := h
  exact ⟨S, h1, h2, fun g hg => h3 g (hl g hg), h4⟩
/-- a block that is new since w may join L -/
theorem LW.more (h : LW w0 w b n L mn mx wd m) (hk : Keep (fun _ => False) w w') {g : Nat} (h1 : w.heap.size ≤ g) (h2 : g < w'.heap.size) : LW w0 w' b n (g :: L) mn mx wd m := by
  obtain ⟨S, q1, q2, q3, q4⟩ := h
  exact ⟨S, q1.keep0 hk, q2, fun y hy => by
    rcases List.mem_cons.1 hy with rfl | hy
    · exact ⟨fun hs => by have := q1.lt _ hs; omega, h2⟩
    · exact ⟨(q3 y hy).1, Nat.lt_of_lt_of_le (q3 y hy).2 hk.size⟩, keep0_trans _ _ _ q4 hk⟩
theorem LW.wf (h : LW w0 w b n L mn mx wd m) {x : ID} (hx : m x ≠ none) : wfI x := by obtain ⟨S, h, _⟩ := h; exact h.wf hx
theorem LW.ok (h : LW w0 w b n L mn mx wd m) {x : ID} {d : D} (hx : m x = some d) : d.Ok := by obtain ⟨S, h, _⟩ := h; exact h.ok hx
theorem lw_new (mn mx wd : Int) (h : MayNew mn mx wd) (hk : Keep (fun _ => False) w0 w) :
    Calls Try.prog 10 #[.int .i64 mn, .int .i64 mx, .int .i64 wd] w fun e w' => ∃ b, e = .returned (.tuple #[.pointer (some ⟨b, 0, none⟩), .int .i64 0]) ∧ LW w0 w' b 0 [] mn mx wd (fun _ => none) ∧ Keep (fun _ => False) w w' := by
  refine (wnew_ok mn mx wd w h).mono ?_
  rintro e w' ⟨b, S, rfl, h1, h2, h3⟩
  exact ⟨b, rfl, ⟨S, h1, fun g hg => Nat.le_trans hk.size (h2 g hg), fun g hg => (by cases hg), keep0_trans _ _ _ hk h3⟩, h3⟩
theorem lw_heard (h : LW w0 w b n L mn mx wd m) {x : ID} (hx : wfI x) (now : Int) :
    Calls Try.prog 12 #[.pointer (some ⟨b, 0, none⟩), idV x, .int .i64 now] w fun e w' => e = .returned (.bool (m x).isSome) ∧ LW w0 w' b n L mn mx wd (heardM m x now) ∧ Keep (Free w0 L) w w' := by
  have hh := h
  obtain ⟨S, h1, h2, h3, h4⟩ := h
  cases hm : m x with
  | none =>
    refine (wheard_none h1 hx hm now).mono ?_
    rintro e w' ⟨rfl, hk⟩
    have e : heardM m x now = m := by
      funext y
      unfold heardM
      by_cases e : y = x
      · subst e; simp [hm]
      · simp [e]
    refine ⟨rfl, ?_, hk.mono fun _ _ h => h.elim⟩
    rw [e]; exact hh.keep0 hk
  | some d =>
    have e : heardM m x now = updM m x (d.heard now) := by
      funext y
      unfold heardM updM
      rw [hm]; rfl
    rw [e]
    refine (wheard_some h1 hx hm now).mono ?_
    rintro e w' ⟨rfl, S', p1, p2, p3⟩
    refine ⟨rfl, ⟨S', p1, fun g hg => (p2 g hg).elim (h2 g) (fun h => Nat.le_trans h4.size h), fun g hg => ⟨fun hs => (p2 g hs).elim (h3 g hg).1 (fun h => by have := (h3 g hg).2; omega), Nat.lt_of_lt_of_le (h3 g hg).2 p3.size⟩, h4.trans (p3.mono fun g _ hs => .inr (h2 g hs))⟩, p3.mono fun g _ hs => ⟨h2 g hs, fun hg => (h3 g hg).1 hs⟩⟩
theorem lw_watched (h : LW w0 w b n L mn mx wd m) (hn : n ≤ 1000000) :
    Calls Try.prog 16 #[.pointer (some ⟨b, 0, none⟩)] w fun e w' => ∃ l, Ris l ∧ (∀ x, x ∈ l ↔ (m x).isSome = true) ∧ l.length ≤ n ∧ NewI l w e w' ∧ LW w0 w' b n L mn mx wd m := by
  have hh := h
  obtain ⟨S, h1, h2, h3, h4⟩ := h
  refine (watched_any h1 hn).mono ?_
  rintro e w' ⟨l, p1, p2, p3, p4⟩
  refine ⟨l, p1, p2, p3, p4, ?_⟩
  obtain ⟨row, A, c, _, _, _, hk⟩ := p4
  exact hh.keep0 hk
theorem lw_copy (h : LW w0 w b n L mn mx wd m) (hn : n ≤ 1000000) :
    Calls Try.prog 18 #[.pointer (some ⟨b, 0, none⟩)] w fun e w' => ∃ b', e = .returned (.pointer (some ⟨b', 0, none⟩)) ∧ LW w w' b' n [] mn mx wd m ∧ LW w0 w' b n L mn mx wd m := by
  have hh := h
  obtain ⟨S, h1, h2, h3, h4⟩ := h
  refine (wcopy_any h1 hn).mono ?_
  rintro e w' ⟨b', S', rfl, p1, p2, p3⟩
  exact ⟨b', rfl, ⟨S', p1, p2, fun g hg => (by cases hg), p3⟩, hh.keep0 p3⟩
/-- a look: those who are late, in new memory of the law's own -/
theorem lw_look (h : LW w0 w b n L mn mx wd m) (hmay : MayNew mn mx wd) (A : Option Addr) (k c : Nat) (ids : List ID) (hI : RdI w A k ids) (hwf : ∀ x ∈ ids, wfI x) (hn : n + k ≤ 1000000) (hA : ∀ g off, 0 < k → A = some ⟨g, off, none⟩ → g < w0.heap.size ∨ g ∈ L) (now : Int) :
    Calls Try.prog 13 #[.pointer (some ⟨b, 0, none⟩), .slice A k c, .int .i64 now] w fun e w' => ∃ (row : Option Nat) (A1 : Option Addr) (c1 : Nat),
      e = .returned (.slice A1 (lateL ((newD mn mx wd).begin_ now) m now ids).length c1) ∧ SlK w' 33 2 row A1 (lateL ((newD mn mx wd).begin_ now) m now ids).length c1 ((lateL ((newD mn mx wd).begin_ now) m now ids).flatMap cID) ∧
      (∀ g, row = some g → w0.heap.size ≤ g) ∧ LW w0 w' b (n + k) (row.toList ++ L) mn mx wd (lookM ((newD mn mx wd).begin_ now) m ids) ∧ Keep (Free w0 L) w w' := by
  obtain ⟨S, h1, h2, h3, h4⟩ := h
  refine (look_any h1 hmay A k c ids hI hwf hn (fun g off hk e hs => (hA g off hk e).elim (fun h => by have := h2 g hs; omega) (fun h => (h3 g h).1 hs)) now).mono ?_
  rintro e w' ⟨S', row, A1, c1, rfl, p1, p2, p3, p4, p5⟩
  refine ⟨row, A1, c1, rfl, p1, fun g hg => Nat.le_trans h4.size (p2 g hg).1, ⟨S', p3, fun g hg => (p4 g hg).elim (h2 g) (fun h => Nat.le_trans h4.size h), fun g hg => ?_, h4.trans (p5.mono fun g _ hs => .inr (h2 g hs))⟩, p5.mono fun g _ hs => ⟨h2 g hs, fun hg => (h3 g hg).1 hs⟩⟩
  rcases List.mem_append.1 hg with hg | hg
  · rw [Option.mem_toList] at hg
    exact ⟨(p2 g hg).2, p1.lt g hg⟩
  · exact ⟨fun hs => (p4 g hs).elim (h3 g hg).1 (fun h => by have := (h3 g hg).2; omega), Nat.lt_of_lt_of_le (h3 g hg).2 p5.size⟩
end
end Go.Proofs.Ytenphdgnaknbeaa
