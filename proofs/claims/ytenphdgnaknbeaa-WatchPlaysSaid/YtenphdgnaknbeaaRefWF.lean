/-
  The plain tie of both watches ('Tied'); both kinds of watches of a law's own, each in blocks of its own ('Own'; 'Two', 'Four'); the calls on them.
-/
import Derived.Test.YtenphdgnaknbeaaRefWE
import Derived.Test.YtenphdgnaknbeaaWatJ
import Derived.Test.YtenphdgnaknbeaaWatG
import Derived.Test.YtenphdgnaknbeaaWatF
import Derived.Test.YtenphdgnaknbeaaWatH
namespace Go.Proofs.Ytenphdgnaknbeaa
open Go.RowKit
set_option maxRecDepth 100000

/-- the program's watch m and the reference's watch (L, md) watch the same, alike -/
structure Tied (K : Nat) (m : M) (L : List Ent) (md : Nat → R) : Prop where
  dom : ∀ x, (m x).isSome = true ↔ x ∈ L.map Prod.fst
  one : (L.map Prod.fst).Nodup
  sim : ∀ e ∈ L, ∀ d, m e.1 = some d → Sim d (md e.2) ∧ (md e.2).Ok
  len : ∀ e ∈ L, (md e.2).gaps.length ≤ K
theorem tied_nil (K : Nat) (md : Nat → R) : Tied K (fun _ => none) [] md :=
  ⟨fun x => by simp, by simp, fun e he => (by cases he), fun e he => (by cases he)⟩
theorem Tied.mono {K K' : Nat} {m : M} {L : List Ent} {md : Nat → R} (h : Tied K m L md) (hk : K ≤ K') : Tied K' m L md := ⟨h.dom, h.one, h.sim, fun e he => Nat.le_trans (h.len e he) hk⟩
theorem ent_eq {L : List Ent} (h : (L.map Prod.fst).Nodup) : ∀ {e f : Ent}, e ∈ L → f ∈ L → e.1 = f.1 → e = f := by
  induction L with
  | nil => intro e f he; cases he
  | cons z L ih =>
    intro e f he hf h2
    rw [List.map_cons, List.nodup_cons] at h
    rcases List.mem_cons.1 he with he1 | he1 <;> rcases List.mem_cons.1 hf with hf1 | hf1
    · rw [he1, hf1]
    · exact absurd (List.mem_map.2 ⟨f, hf1, by rw [← h2, he1]⟩) h.1
    · exact absurd (List.mem_map.2 ⟨e, he1, by rw [h2, hf1]⟩) h.1
    · exact ih h.2 he1 hf1 h2
theorem Tied.late {K : Nat} {m : M} {L : List Ent} {md : Nat → R} (h : Tied K m L md) (now : Int) (nd : D) {e : Ent} (he : e ∈ L) : (lookD nd m e.1).late now = (md e.2).late now := by
  obtain ⟨d, hd⟩ := Option.isSome_iff_exists.1 ((h.dom e.1).2 (List.mem_map.2 ⟨e, he, rfl⟩))
  obtain ⟨h1, h2⟩ := h.sim e he d hd
  unfold lookD
  rw [hd]
  exact h1.late h2 now
theorem Tied.heard_no {K : Nat} {m : M} {L : List Ent} {md : Nat → R} (h : Tied K m L md) {x : ID} (hx : ∀ f ∈ L, f.1 ≠ x) : m x = none := by
  cases hm : m x with
  | none => rfl
  | some d =>
    obtain ⟨e, he, h1⟩ := List.mem_map.1 ((h.dom x).1 (by rw [hm]; rfl))
    exact absurd h1 (hx e he)
theorem ent_blk {L : List Ent} (h : (L.map Prod.snd).Nodup) : ∀ {e f : Ent}, e ∈ L → f ∈ L → e.2 = f.2 → e = f := by
  induction L with
  | nil => intro e f he; cases he
  | cons z L ih =>
    intro e f he hf h2
    rw [List.map_cons, List.nodup_cons] at h
    rcases List.mem_cons.1 he with he1 | he1 <;> rcases List.mem_cons.1 hf with hf1 | hf1
    · rw [he1, hf1]
    · exact absurd (List.mem_map.2 ⟨f, hf1, by rw [← h2, he1]⟩) h.1
    · exact absurd (List.mem_map.2 ⟨e, he1, by rw [h2, hf1]⟩) h.1
    · exact ih h.2 he1 hf1 h2
theorem Tied.heard {K : Nat} {m : M} {L : List Ent} {md : Nat → R} (h : Tied K m L md) (hs : (L.map Prod.snd).Nodup) {f : Ent} (hf : f ∈ L) (now : Int) : Tied (K + 1) (heardM m f.1 now) L (fun y => if y = f.2 then (md f.2).heard now else md y) := by
  refine ⟨fun x => ?_, h.one, fun e he d hd => ?_, fun e he => ?_⟩
  · rw [← h.dom x]
    unfold heardM
    by_cases e : x = f.1
    · subst e; simp
    · simp [e]
  · by_cases e1 : e.2 = f.2
    · obtain rfl := ent_blk hs he hf e1
      simp only [if_true]
      unfold heardM at hd
      rw [if_pos rfl] at hd
      obtain ⟨d0, hd0, rfl⟩ := Option.map_eq_some_iff.1 hd
      obtain ⟨h1, h2⟩ := h.sim e he d0 hd0
      exact ⟨h1.heard h2 now, h2.heard now⟩
    · simp only [if_neg e1]
      unfold heardM at hd
      have hne : ¬ e.1 = f.1 := fun h2 => e1 (by rw [ent_eq h.one he hf h2])
      rw [if_neg hne] at hd
      exact h.sim e he d hd
  · by_cases e1 : e.2 = f.2
    · simp only [e1, if_true]
      exact Nat.le_trans (R.heard_len _ _) (Nat.add_le_add_right (h.len f hf) 1)
    · simp only [if_neg e1]
      exact Nat.le_succ_of_le (h.len e he)
theorem sim_new {mn mx wd : Int} (h : MayNew mn mx wd) (now : Int) : Sim ((newD mn mx wd).begin_ now) ((newR mn mx wd).begin_ now) ∧ ((newR mn mx wd).begin_ now).Ok := by
  have ok := newR_ok h
  have s0 : Sim (newD mn mx wd) (newR mn mx wd) := by
    constructor <;> simp [newD, newR]
  exact ⟨s0.begin_ ok now, ok.begin_ now⟩
theorem Tied.look {K : Nat} {m : M} {L L' : List Ent} {md md' : Nat → R} (h : Tied K m L md) {mn mx wd : Int} (hm : MayNew mn mx wd) {now : Int} {ids : List ID} (hn : ids.Nodup) (hi : L'.map Prod.fst = ids)
    (hl : ∀ f ∈ L', LookR L md ((newR mn mx wd).begin_ now) f.1 (md' f.2)) : Tied K (lookM ((newD mn mx wd).begin_ now) m ids) L' md' := by
  refine ⟨fun x => ?_, by rw [hi]; exact hn, fun e he d hd => ?_, fun e he => ?_⟩
  · rw [hi]
    unfold lookM
    by_cases e : x ∈ ids <;> simp [e]
  · have hmem : e.1 ∈ ids := by rw [← hi]; exact List.mem_map.2 ⟨e, he, rfl⟩
    unfold lookM at hd
    rw [if_pos hmem] at hd
    injection hd with hd
    rcases hl e he with ⟨f, hf, h1, h2⟩ | ⟨h1, h2⟩
    · obtain ⟨d0, hd0⟩ := Option.isSome_iff_exists.1 ((h.dom f.1).2 (List.mem_map.2 ⟨f, hf, rfl⟩))
      have e0 : d0 = d := by
        rw [← hd]; unfold lookD; rw [← h1, hd0]; rfl
      rw [h2, ← e0]
      exact h.sim f hf d0 hd0
    · have h0 := h.heard_no h1
      have e0 : (newD mn mx wd).begin_ now = d := by rw [← hd]; unfold lookD; rw [h0]; rfl
      rw [h2, ← e0]
      exact sim_new hm now
  · rcases hl e he with ⟨f, hf, _, h2⟩ | ⟨_, h2⟩
    · rw [h2]; exact h.len f hf
    · rw [h2]; simp [newR, R.begin_]
theorem late_same {K : Nat} {m : M} {L' : List Ent} {md' : Nat → R} {nd : D} {ids : List ID} {now : Int} (h : Tied K (lookM nd m ids) L' md') (hi : L'.map Prod.fst = ids) : lateL nd m now ids = lateR L' md' now := by
  have e : ∀ f ∈ L', (lookD nd m f.1).late now = (md' f.2).late now := fun f hf => by
    have h1 := h.late now nd hf
    have hmem : f.1 ∈ ids := by rw [← hi]; exact List.mem_map.2 ⟨f, hf, rfl⟩
    have h2 : lookD nd (lookM nd m ids) f.1 = lookD nd m f.1 := by
      show (lookM nd m ids f.1).getD nd = _
      unfold lookM
      rw [if_pos hmem]; rfl
    rw [h2] at h1; exact h1
  unfold lateL lateR
  rw [← hi, List.filter_map]
  congr 1
  exact List.filter_congr fun f hf => e f hf
end Go.Proofs.Ytenphdgnaknbeaa
namespace Go.Proofs.Ytenphdgnaknbeaa
open Go.RowKit
set_option maxRecDepth 100000

/-- the blocks of whichever number belong to one alone; all are new since w0 -/
structure Own (w0 w : World) (S : Nat → Nat → Prop) : Prop where
  one : ∀ i j g, S i g → S j g → i = j
  lo : ∀ i g, S i g → w0.heap.size ≤ g
  hi : ∀ i g, S i g → g < w.heap.size
  k : Keep (fun _ => False) w0 w
def swap (S : Nat → Nat → Prop) (i : Nat) (T : Nat → Prop) : Nat → Nat → Prop := fun j => if j = i then T else S j
theorem swap_same (S : Nat → Nat → Prop) (i : Nat) (T : Nat → Prop) : swap S i T i = T := if_pos rfl
theorem swap_other (S : Nat → Nat → Prop) {i j : Nat} (h : j ≠ i) (T : Nat → Prop) : swap S i T j = S j := if_neg h
section
variable {w0 w w' : World} {S : Nat → Nat → Prop}
theorem Own.nil_ (w : World) : Own w w (fun _ _ => False) := ⟨fun _ _ _ h => h.elim, fun _ _ h => h.elim, fun _ _ h => h.elim, Keep.refl _ _⟩
theorem Own.keep0 (h : Own w0 w S) (hk : Keep (fun _ => False) w w') : Own w0 w' S :=
  ⟨h.one, h.lo, fun i g hg => Nat.lt_of_lt_of_le (h.hi i g hg) hk.size, keep0_trans _ _ _ h.k hk⟩
/-- a write to new blocks -/
theorem Own.keepN (h : Own w0 w S) {T : Nat → Prop} (hk : Keep T w w') (hT : ∀ g, T g → w0.heap.size ≤ g) : Own w0 w' S :=
  ⟨h.one, h.lo, fun i g hg => Nat.lt_of_lt_of_le (h.hi i g hg) hk.size, h.k.trans (hk.mono fun g _ hg => .inr (hT g hg))⟩
theorem Own.turn (h : Own w0 w S) (i : Nat) (hk : Keep (S i) w w') {T : Nat → Prop} (hT : ∀ g, T g → S i g ∨ w.heap.size ≤ g) (hl : ∀ g, T g → g < w'.heap.size) : Own w0 w' (swap S i T) := by
  have cross : ∀ k g, k ≠ i → T g → S k g → False := fun k g hk ht hs => by
    rcases hT g ht with h1 | h1
    · exact hk (h.one k i g hs h1)
    · have := h.hi k g hs; omega
  refine ⟨fun j k g => ?_, fun j g => ?_, fun j g => ?_, (h.keepN hk (h.lo i)).k⟩
  · by_cases e1 : j = i <;> by_cases e2 : k = i
    · intro _ _; rw [e1, e2]
    · subst e1; rw [swap_same, swap_other S e2]; intro a b; exact (cross k g e2 a b).elim
    · subst e2; rw [swap_same, swap_other S e1]; intro a b; exact (cross j g e1 b a).elim
    · rw [swap_other S e1, swap_other S e2]; exact h.one j k g
  · by_cases e1 : j = i
    · subst e1; rw [swap_same]; intro a; exact (hT g a).elim (h.lo j g) (fun h1 => Nat.le_trans h.k.size h1)
    · rw [swap_other S e1]; exact h.lo j g
  · by_cases e1 : j = i
    · subst e1; rw [swap_same]; exact hl g
    · rw [swap_other S e1]; intro a; exact Nat.lt_of_lt_of_le (h.hi j g a) hk.size
theorem Own.new (h : Own w0 w S) (i : Nat) (hk : Keep (fun _ => False) w w') {T : Nat → Prop} (hT : ∀ g, T g → w.heap.size ≤ g) (hl : ∀ g, T g → g < w'.heap.size) : Own w0 w' (swap S i T) :=
  h.turn i (hk.mono fun _ _ h => h.elim) (fun g hg => .inr (hT g hg)) hl
theorem Own.far (h : Own w0 w S) {i j : Nat} (hij : i ≠ j) : ∀ g, S i g → ¬ S j g := fun g a b => hij (h.one i j g a b)
end
section
variable {w w' : World} {b n : Nat} {S : Nat → Prop} {mn mx wd : Int} {m : M} {L : List Ent} {md : Nat → R} {K : Nat}
theorem pw_heard (h : Wt w b n S mn mx wd m) {x : ID} (hx : wfI x) (now : Int) :
    Calls Try.prog 12 #[.pointer (some ⟨b, 0, none⟩), idV x, .int .i64 now] w fun e w' => e = .returned (.bool (m x).isSome) ∧ Keep S w w' ∧ ∃ T, Wt w' b n T mn mx wd (heardM m x now) ∧ ∀ g, T g → S g ∨ w.heap.size ≤ g := by
  cases hm : m x with
  | none =>
    refine (wheard_none h hx hm now).mono ?_
    rintro e w' ⟨rfl, hk⟩
    have e : heardM m x now = m := by
      funext y
      unfold heardM
      by_cases e : y = x
      · subst e; simp [hm]
      · simp [e]
    refine ⟨rfl, hk.mono fun _ _ h => h.elim, S, ?_, fun g hg => .inl hg⟩
    rw [e]; exact h.keep0 hk
  | some d =>
    have e : heardM m x now = updM m x (d.heard now) := by
      funext y
      unfold heardM updM
      rw [hm]; rfl
    rw [e]
    refine (wheard_some h hx hm now).mono ?_
    rintro e w' ⟨rfl, S', p1, p2, p3⟩
    exact ⟨rfl, p3, S', p1, p2⟩
theorem pr_heard (h : RWt w b S mn mx wd L md) (hone : (L.map Prod.snd).Nodup) (ht : Tied K m L md) (hL : L.length ≤ 1000) (hK : K ≤ 4000) (x : ID) (now : Int) :
    Calls Try.prog 20 #[.pointer (some ⟨b, 0, none⟩), idV x, .int .i64 now] w fun e w' => e = .returned (.bool (m x).isSome) ∧ Keep S w w' ∧ ∃ T md', RWt w' b T mn mx wd L md' ∧ Tied (K + 1) (heardM m x now) L md' ∧ ∀ g, T g → S g ∨ w.heap.size ≤ g := by
  refine (rwheard_any h hL (fun e he => Nat.le_trans (ht.len e he) hK) x now).mono ?_
  rintro e w' (⟨rfl, hno, hk⟩ | ⟨f, hf, rfl, rfl, T, h1, h2, h3⟩)
  · have h0 := ht.heard_no hno
    have e : heardM m x now = m := by
      funext y
      unfold heardM
      by_cases e : y = x
      · subst e; simp [h0]
      · simp [e]
    refine ⟨by rw [h0]; rfl, hk.mono fun _ _ h => h.elim, S, md, h.keep0 hk, ?_, fun g hg => .inl hg⟩
    rw [e]; exact ht.mono (by omega)
  · refine ⟨by rw [(ht.dom f.1).2 (List.mem_map.2 ⟨f, hf, rfl⟩)], h3, T, _, h1, ht.heard hone hf now, h2⟩
theorem RWt.one (h : RWt w b S mn mx wd L md) : (L.map Prod.snd).Nodup := by
  obtain ⟨_, _, _, _, _, _, _, _, h⟩ := h
  exact h.one
theorem Tied.same_ {L' : List Ent} {md' : Nat → R} (h : Tied K m L md) (e : vw L' md' = vw L md) : Tied K m L' md' ∧ L'.length = L.length := by
  have e1 : L'.map Prod.fst = L.map Prod.fst := by
    have := congrArg (List.map Prod.fst) e
    unfold vw at this
    rw [List.map_map, List.map_map] at this
    exact this
  have back : ∀ f ∈ L', ∃ e ∈ L, e.1 = f.1 ∧ md e.2 = md' f.2 := fun f hf => by
    have : (f.1, md' f.2) ∈ vw L md := by rw [← e]; exact List.mem_map.2 ⟨f, hf, rfl⟩
    obtain ⟨z, hz, h1⟩ := List.mem_map.1 this
    injection h1 with h1 h2
    exact ⟨z, hz, h1, h2⟩
  refine ⟨⟨fun x => by rw [e1]; exact h.dom x, by rw [e1]; exact h.one, fun f hf d hd => ?_, fun f hf => ?_⟩, by rw [← vw_len L md, ← e, vw_len]⟩
  · obtain ⟨z, hz, h1, h2⟩ := back f hf
    rw [← h2]
    exact h.sim z hz d (h1 ▸ hd)
  · obtain ⟨z, hz, _, h2⟩ := back f hf
    rw [← h2]
    exact h.len z hz
theorem pr_copy (h : RWt w b S mn mx wd L md) (ht : Tied K m L md) (hL : L.length ≤ 1000) (hK : K ≤ 4000) :
    Calls Try.prog 19 #[.pointer (some ⟨b, 0, none⟩)] w fun e w' => ∃ b' T L' md', e = .returned (.pointer (some ⟨b', 0, none⟩)) ∧ RWt w' b' T mn mx wd L' md' ∧ Tied K m L' md' ∧ L'.length = L.length ∧ (∀ g, T g → w.heap.size ≤ g) ∧ Keep (fun _ => False) w w' := by
  refine (rwcopy_any h hL (fun e he => Nat.le_trans (ht.len e he) hK)).mono ?_
  rintro e w' ⟨b', T, L', md', rfl, h1, h2, h3, h4⟩
  obtain ⟨k1, k2⟩ := ht.same_ h2
  exact ⟨b', T, L', md', rfl, h1, k1, k2, h3, h4⟩
theorem pr_watched (h : RWt w b S mn mx wd L md) (ht : Tied K m L md) (hL : L.length ≤ 1000) :
    Calls Try.prog 22 #[.pointer (some ⟨b, 0, none⟩)] w fun e w' => ∃ A k c l, e = .returned (.slice A k c) ∧ RdI w' A k l ∧ k ≤ 1000000 ∧ (∀ x, x ∈ l ↔ (m x).isSome = true) ∧ Keep (fun _ => False) w w' := by
  refine (rwwatched_any h hL).mono ?_
  rintro e w' ⟨A, k, c, rfl, h1, h2⟩
  refine ⟨A, k, c, _, rfl, h1.1, ?_, fun x => ?_, h2⟩
  · have h3 := h1.1.1
    have h4 := setM_len (L.map Prod.fst)
    rw [List.length_map] at h4
    omega
  · rw [setM_mem, ← ht.dom x]
theorem pr_look (h : RWt w b S mn mx wd L md) (ht : Tied K m L md) (hL : L.length ≤ 1000) (hK : K ≤ 4000) (hmay : MayNew mn mx wd) (A : Option Addr) (k c : Nat) (ids : List ID) (hI : RdI w A k ids) (hn : k ≤ 1000) (hr : Ris ids) (now : Int) :
    Calls Try.prog 21 #[.pointer (some ⟨b, 0, none⟩), .slice A k c, .int .i64 now] w fun e w' => ∃ (T : Nat → Prop) (L' : List Ent) (md' : Nat → R) (A1 : Option Addr) (k1 c1 : Nat),
      e = .returned (.slice A1 k1 c1) ∧ RdI w' A1 k1 (lateL ((newD mn mx wd).begin_ now) m now ids) ∧ k1 ≤ 1000000 ∧ RWt w' b T mn mx wd L' md' ∧ Tied K (lookM ((newD mn mx wd).begin_ now) m ids) L' md' ∧ L'.length = k ∧ (∀ g, T g → S g ∨ w.heap.size ≤ g) ∧ Keep S w w' := by
  have hnd : ids.Nodup := hr.nodup
  refine (rwlook_any h hmay hL (fun e he => Nat.le_trans (ht.len e he) hK) A k c ids hI hn hnd now).mono ?_
  rintro e w' ⟨T, L', md', row, A1, c1, rfl, h1, h2, h3, h4, h5, h6, h7⟩
  have t := ht.look hmay (now := now) hnd h4 h5
  have hs := late_same (now := now) t h4
  have hl : L'.length = k := by rw [← hI.1, ← h4, List.length_map]
  refine ⟨T, L', md', A1, _, c1, rfl, ?_, ?_, h3, t, hl, h6, h7⟩
  · rw [hs]; exact ⟨rfl, h1.rd⟩
  · have := lateR_len L' md' now; omega
end
end Go.Proofs.Ytenphdgnaknbeaa
namespace Go.Proofs.Ytenphdgnaknbeaa
open Go.RowKit
set_option maxRecDepth 100000

/-- a (the program's) and b (the reference's), tied -/
structure Two (w0 w : World) (S : Nat → Nat → Prop) (mn mx wd : Int) (a n : Nat) (m : M) (b : Nat) (L : List Ent) (md : Nat → R) : Prop where
  own : Own w0 w S
  A : Wt w a n (S 0) mn mx wd m
  B : RWt w b (S 1) mn mx wd L md
/-- and their copies c, d -/
structure Four (w0 w : World) (S : Nat → Nat → Prop) (mn mx wd : Int) (a n : Nat) (m : M) (b : Nat) (L : List Ent) (md : Nat → R) (c : Nat) (m' : M) (d : Nat) (L' : List Ent) (md' : Nat → R) : Prop extends Two w0 w S mn mx wd a n m b L md where
  C : Wt w c n (S 2) mn mx wd m'
  D : RWt w d (S 3) mn mx wd L' md'
section
variable {w0 w w' : World} {S : Nat → Nat → Prop} {mn mx wd : Int} {a n : Nat} {m : M} {b : Nat} {L : List Ent} {md : Nat → R} {c : Nat} {m' : M} {d : Nat} {L' : List Ent} {md' : Nat → R}
theorem Own.turnE (h : Own w0 w S) (i : Nat) (hk : Keep (S i) w w') {T : Nat → Prop} (hT : ∀ g, T g → S i g ∨ w.heap.size ≤ g) (hl : ∀ g, T g → g < w'.heap.size) : ∃ S', Own w0 w' S' ∧ S' i = T ∧ ∀ j, j ≠ i → S' j = S j :=
  ⟨_, h.turn i hk hT hl, swap_same _ _ _, fun _ hj => swap_other S hj T⟩
theorem Two.keep0 (h : Two w0 w S mn mx wd a n m b L md) (hk : Keep (fun _ => False) w w') : Two w0 w' S mn mx wd a n m b L md := ⟨h.own.keep0 hk, h.A.keep0 hk, h.B.keep0 hk⟩
theorem Two.mono (h : Two w0 w S mn mx wd a n m b L md) {n' : Nat} (hn : n ≤ n') : Two w0 w S mn mx wd a n' m b L md := ⟨h.own, h.A.mono hn, h.B⟩
theorem Four.keep0 (h : Four w0 w S mn mx wd a n m b L md c m' d L' md') (hk : Keep (fun _ => False) w w') : Four w0 w' S mn mx wd a n m b L md c m' d L' md' := ⟨h.toTwo.keep0 hk, h.C.keep0 hk, h.D.keep0 hk⟩
/-- a write to what is none of theirs, and new -/
theorem Four.keepN (h : Four w0 w S mn mx wd a n m b L md c m' d L' md') {T : Nat → Prop} (hk : Keep T w w') (hT : ∀ g, T g → w0.heap.size ≤ g) (hS : ∀ i g, T g → ¬ S i g) : Four w0 w' S mn mx wd a n m b L md c m' d L' md' :=
  ⟨⟨h.own.keepN hk hT, h.A.keep hk (fun g a b => hS 0 g b a), h.B.keep hk (fun g a b => hS 1 g b a)⟩, h.C.keep hk (fun g a b => hS 2 g b a), h.D.keep hk (fun g a b => hS 3 g b a)⟩
theorem Four.turnA (h : Four w0 w S mn mx wd a n m b L md c m' d L' md') (hk : Keep (S 0) w w') {T : Nat → Prop} {n2 : Nat} {m2 : M} (hn : n ≤ n2) (ha : Wt w' a n2 T mn mx wd m2) (hT : ∀ g, T g → S 0 g ∨ w.heap.size ≤ g) :
    ∃ S', Four w0 w' S' mn mx wd a n2 m2 b L md c m' d L' md' ∧ S' 0 = T ∧ ∀ j, j ≠ 0 → S' j = S j := by
  obtain ⟨S', o, e0, ex⟩ := h.own.turnE 0 hk hT ha.lt
  exact ⟨S', ⟨⟨o, by rw [e0]; exact ha, by rw [ex 1 (by decide)]; exact h.B.keep hk (h.own.far (by decide))⟩, by rw [ex 2 (by decide)]; exact (h.C.mono hn).keep hk (h.own.far (by decide)), by rw [ex 3 (by decide)]; exact h.D.keep hk (h.own.far (by decide))⟩, e0, ex⟩
theorem Four.turnB (h : Four w0 w S mn mx wd a n m b L md c m' d L' md') (hk : Keep (S 1) w w') {T : Nat → Prop} {L2 : List Ent} {md2 : Nat → R} (hb : RWt w' b T mn mx wd L2 md2) (hT : ∀ g, T g → S 1 g ∨ w.heap.size ≤ g) :
    ∃ S', Four w0 w' S' mn mx wd a n m b L2 md2 c m' d L' md' ∧ S' 1 = T ∧ ∀ j, j ≠ 1 → S' j = S j := by
  obtain ⟨S', o, e0, ex⟩ := h.own.turnE 1 hk hT hb.lt
  exact ⟨S', ⟨⟨o, by rw [ex 0 (by decide)]; exact h.A.keep hk (h.own.far (by decide)), by rw [e0]; exact hb⟩, by rw [ex 2 (by decide)]; exact h.C.keep hk (h.own.far (by decide)), by rw [ex 3 (by decide)]; exact h.D.keep hk (h.own.far (by decide))⟩, e0, ex⟩
/-- c has turned: a and b are as before -/
theorem Four.afterC (h : Four w0 w S mn mx wd a n m b L md c m' d L' md') (hk : Keep (S 2) w w') : Two w0 w' S mn mx wd a n m b L md ∧ RWt w' d (S 3) mn mx wd L' md' :=
  ⟨⟨h.own.keepN hk (h.own.lo 2), h.A.keep hk (h.own.far (by decide)), h.B.keep hk (h.own.far (by decide))⟩, h.D.keep hk (h.own.far (by decide))⟩
theorem Two.afterD (h : Two w0 w S mn mx wd a n m b L md) (hk : Keep (S 3) w w') : Two w0 w' S mn mx wd a n m b L md :=
  ⟨h.own.keepN hk (h.own.lo 3), h.A.keep hk (h.own.far (by decide)), h.B.keep hk (h.own.far (by decide))⟩
theorem Two.first {w1 w2 : World} (ha : ∃ T, Wt w1 a n T mn mx wd m ∧ ∀ g, T g → w.heap.size ≤ g) (hk : Keep (fun _ => False) w w1) (hb : ∃ T, RWt w2 b T mn mx wd L md ∧ ∀ g, T g → w1.heap.size ≤ g) (hk2 : Keep (fun _ => False) w1 w2) : ∃ S, Two w w2 S mn mx wd a n m b L md := by
  obtain ⟨T, ha, hT⟩ := ha
  obtain ⟨T', hb, hT'⟩ := hb
  obtain ⟨S1, o1, e1, _⟩ := (Own.nil_ w).turnE 0 (hk.mono fun _ _ h => h.elim) (fun g hg => .inr (hT g hg)) ha.lt
  obtain ⟨S2, o2, e2, x2⟩ := o1.turnE 1 (hk2.mono fun _ _ h => h.elim) (fun g hg => .inr (hT' g hg)) hb.lt
  exact ⟨S2, o2, by rw [x2 0 (by decide), e1]; exact ha.keep0 hk2, by rw [e2]; exact hb⟩
theorem Two.copies {w1 w2 : World} (h : Two w0 w S mn mx wd a n m b L md) (hc : ∃ T, Wt w1 c n T mn mx wd m' ∧ ∀ g, T g → w.heap.size ≤ g) (hk : Keep (fun _ => False) w w1) (hd : ∃ T, RWt w2 d T mn mx wd L' md' ∧ ∀ g, T g → w1.heap.size ≤ g) (hk2 : Keep (fun _ => False) w1 w2) :
    ∃ S', Four w0 w2 S' mn mx wd a n m b L md c m' d L' md' := by
  obtain ⟨T, hc, hT⟩ := hc
  obtain ⟨T', hd, hT'⟩ := hd
  obtain ⟨S1, o1, e1, x1⟩ := h.own.turnE 2 (hk.mono fun _ _ h => h.elim) (fun g hg => .inr (hT g hg)) hc.lt
  obtain ⟨S2, o2, e2, x2⟩ := o1.turnE 3 (hk2.mono fun _ _ h => h.elim) (fun g hg => .inr (hT' g hg)) hd.lt
  exact ⟨S2, ⟨⟨o2, by rw [x2 0 (by decide), x1 0 (by decide)]; exact (h.A.keep0 hk).keep0 hk2, by rw [x2 1 (by decide), x1 1 (by decide)]; exact (h.B.keep0 hk).keep0 hk2⟩, by rw [x2 2 (by decide), e1]; exact hc.keep0 hk2, by rw [e2]; exact hd⟩⟩
end
/-- a store into the second half of an ID -/
theorem SlK.storeI {w : World} {e : TypeId} {row : Option Nat} {A : Option Addr} {n c : Nat} {l : List ID} (h : SlK w e 2 row A n c (l.flatMap cID)) (hl : l.length = n) {j : Nat} (hj : j < n) (x : Int) :
    ∃ g off, A = some ⟨g, off, none⟩ ∧ row = some g ∧ g < w.heap.size ∧ (∃ v, w.cell? ⟨g, off + j * 2 + 1, none⟩ = some v) ∧ w.frozen? ⟨g, off + j * 2 + 1, none⟩ = false ∧
      ∃ l' : List ID, l'.length = n ∧ ∀ k, SlK ((w.drewN k).setCell ⟨g, off + j * 2 + 1, none⟩ (.int .i64 x)) e 2 row A n c (l'.flatMap cID) ∧ Keep (fun y => row = some y) w ((w.drewN k).setCell ⟨g, off + j * 2 + 1, none⟩ (.int .i64 x)) := by
  obtain ⟨h1, h2, h3, h4⟩ := h
  rcases h4 with ⟨_, _, h5⟩ | ⟨g, off, cur, hr, hA, hb, hs, hc⟩
  · omega
  · have hfl : (l.flatMap cID).length = n * 2 := by rw [flat_len cID 2 (fun _ => rfl), hl]
    have hi : off + j * 2 + 1 = off + (j * 2 + 1) := by omega
    have hlt : j * 2 + 1 < (l.flatMap cID).length := by omega
    refine ⟨g, off, hA, hr, hb.lt, ⟨(l.flatMap cID)[j * 2 + 1], ?_⟩, hb.frozen _, (l.take j ++ ((l.getD j (0, 0)).1, x) :: l.drop (j + 1)), ?_, fun k => ?_⟩
    · rw [hb.cell, hi, hc (j * 2 + 1) (by omega), List.getElem?_eq_getElem hlt]
    · simp; omega
    · have e1 : (l.take j ++ ((l.getD j (0, 0)).1, x) :: l.drop (j + 1)).flatMap cID = (l.flatMap cID).set (j * 2 + 1) (.int .i64 x) := by
        have e2 : l.getD j (0, 0) = l[j] := by simp [List.getD, show j < l.length by omega]
        have e3 : l = l.take j ++ l[j] :: l.drop (j + 1) := by rw [List.getElem_cons_drop]; exact (List.take_append_drop _ _).symm
        have e4 : ((l.take j).flatMap cID).length = j * 2 := by rw [flat_len cID 2 (fun _ => rfl), List.length_take]; congr 1; omega
        rw [e2]
        conv => rhs; rw [e3]
        rw [List.flatMap_append, List.flatMap_append, List.set_append_right _ _ (by omega), e4, List.flatMap_cons, List.flatMap_cons]
        have : j * 2 + 1 - j * 2 = 1 := by omega
        rw [this]
        rfl
      refine ⟨⟨by rw [e1]; simp [h1], h2, h3, .inr ⟨g, off, _, hr, hA, (hb.drewN k).set_ (off + j * 2 + 1) (.int .i64 x), by simpa using hs, fun i hi2 => ?_⟩⟩, ((Keep.refl _ w).drewN k).setCell (fun _ => hr) _⟩
      rw [e1, Array.getElem?_setIfInBounds, List.getElem?_set]
      by_cases e : j * 2 + 1 = i
      · subst e
        rw [if_pos (by omega), if_pos rfl, if_pos (by omega), if_pos (by omega)]
      · rw [if_neg (by omega), if_neg e]
        exact hc i hi2
end Go.Proofs.Ytenphdgnaknbeaa
