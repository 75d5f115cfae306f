/-
  Stage: one round of the closure of Ways: what stands behind it.
-/
import Derived.Test.YtngjecbdajognaaDoorStgE
namespace Go.Proofs.YtngjecbdajognaaDoor
open Go.RowKit

theorem Outs.row_lt {w : World} {bo : Nat} {orow : Option Nat} {rows : List (Option Nat)} {outs : List (List Nat)} (h : Outs w bo orow rows outs) : ∀ r ∈ rows, ∀ g, r = some g → g < w.heap.size := by
  intro r hr g hg
  obtain ⟨hl, A, c, vals, hb, hs, hv⟩ := h
  obtain ⟨i, hi, rfl⟩ := List.getElem_of_mem hr
  obtain ⟨A', c', q1, q2⟩ := hv i (by omega)
  refine q2.lt g ?_
  simp only [List.getD, List.getElem?_eq_getElem hi, Option.getD_some]
  exact hg
/-- the box and its row are no row of bytes -/
theorem Outs.far {w : World} {bo : Nat} {orow : Option Nat} {rows : List (Option Nat)} {outs : List (List Nat)} (h : Outs w bo orow rows outs) {row : Option Nat} {A : Option Addr} {n c : Nat} {xs : List Value} (hs : Sl w 5 row A n c xs) :
    (∀ g, row = some g → g ≠ bo) ∧ (∀ g, row = some g → orow ≠ some g) := by
  obtain ⟨hl, A', c', vals, hb, hs', hv⟩ := h
  exact ⟨fun g hg e => hs.row_ne hb (by decide) (by rw [hg, e]), fun g hg => hs.rows_ne hs' (by decide) g hg⟩

abbrev Free (bo : Nat) (orow wrow : Option Nat) (k : Nat) : Prop := k = bo ∨ orow = some k ∨ wrow = some k
structure Inv (w wr : World) (bo : Nat) (orow wrow : Option Nat) (rows : List (Option Nat)) (outs : List (List Nat)) (way : List Nat) (A : Option Addr) (c : Nat) (nrow : Option Nat) (NA : Option Addr) (nc : Nat) (l : List Nat) (found : List (List Nat)) (orow' : Option Nat) (rows' : List (Option Nat)) : Prop where
  outs_ : Outs wr bo orow' (rows ++ rows') (outs ++ found.map (way ++ ·))
  way_ : Sl wr 5 wrow A way.length c (u8s way)
  fresh : ∀ r ∈ rows', ∀ g, r = some g → w.heap.size ≤ g
  orow_ : orow' = orow ∨ ∃ g, orow' = some g ∧ w.heap.size ≤ g
  keep_ : Keep (Free bo orow wrow) w wr
  nxt : Sl wr 5 nrow NA l.length nc (u8s l)

theorem u8s_snoc (l : List Nat) (s : Nat) : u8s (l ++ [s]) = u8s l ++ [.int .u8 (s : Int)] := by simp [u8s]
theorem Inv.step {w wr w3 : World} {bo : Nat} {orow wrow row1 nrow : Option Nat} {rows : List (Option Nat)} {outs : List (List Nat)} {way : List Nat} {A A1 NA : Option Addr} {c c1 nc : Nat} {l : List Nat} {found : List (List Nat)} {orow' : Option Nat} {rows' : List (Option Nat)} {s : Nat} {wa : World} (k0 : Keep (fun _ => False) wr wa)
    (h : Inv w wr bo orow wrow rows outs way A c nrow NA nc l found orow' rows')
    (hwl : ∀ g, wrow = some g → g < w.heap.size) (hap : ∀ r ∈ rows, ∀ g, r = some g → wrow ≠ some g) (hnr : ∀ g, nrow = some g → w.heap.size ≤ g)
    (hs3 : Sl w3 5 row1 A1 (way.length + 1) c1 (u8s way ++ [.int .u8 (s : Int)]))
    (hr3 : (row1 = wrow ∧ A1 = A ∧ c1 = c ∧ Keep (fun g => wrow = some g) wa w3) ∨ (Keep (fun _ => False) wa w3 ∧ ∃ g, row1 = some g ∧ wa.heap.size ≤ g)) :
    Outs w3 bo orow' (rows ++ rows') (outs ++ found.map (way ++ ·)) ∧ (∀ r ∈ rows ++ rows', ∀ g, r = some g → row1 ≠ some g) ∧ Sl w3 5 row1 A1 (way ++ [s]).length c1 (u8s (way ++ [s])) ∧ Keep (Free bo orow wrow) w w3 ∧ (row1 = wrow ∨ ∃ g, row1 = some g ∧ w.heap.size ≤ g) ∧
    ∀ w4 orow4 rows4 (fs : List (List Nat)), Outs w4 bo orow4 ((rows ++ rows') ++ rows4) ((outs ++ found.map (way ++ ·)) ++ fs.map ((way ++ [s]) ++ ·)) → Sl w4 5 row1 A1 (way ++ [s]).length c1 (u8s (way ++ [s])) → (∀ r ∈ rows4, ∀ g, r = some g → w3.heap.size ≤ g) →
      (orow4 = orow' ∨ ∃ g, orow4 = some g ∧ w3.heap.size ≤ g) → Keep (Free bo orow' row1) w3 w4 → Inv w w4 bo orow wrow rows outs way A c nrow NA nc l (found ++ fs.map (s :: ·)) orow4 (rows' ++ rows4) := by
  have o2 := h.outs_.keep k0 (fun h => h) (fun _ _ h => h) (fun _ _ _ _ h => h)
  have y2 := h.way_.keep k0 (fun _ _ h => h)
  have n2 := h.nxt.keep k0 (fun _ _ h => h)
  have k3 := behind_append2 hr3
  have hw4 : w.heap.size ≤ wr.heap.size := h.keep_.size
  have hrow : ∀ r ∈ rows ++ rows', ∀ g, r = some g → wrow ≠ some g := by
    intro r hr g hg e
    rcases List.mem_append.1 hr with hr | hr
    · exact hap r hr g hg e
    · have := h.fresh r hr g hg
      have := hwl g e
      omega
  have hfar := o2.far y2
  have o3 := o2.keep k3 (fun e => hfar.1 bo e rfl) (fun g hg e => hfar.2 g e hg) (fun r hr g hg e => hrow r hr g hg e)
  have hnw : ∀ g, nrow = some g → wrow ≠ some g := fun g hg e => by have := hnr g hg; have := hwl g e; omega
  have n3 := n2.keep k3 hnw
  have hs3' : Sl w3 5 row1 A1 (way ++ [s]).length c1 (u8s (way ++ [s])) := by rw [u8s_snoc]; simpa using hs3
  have kS : Keep (Free bo orow wrow) w w3 := (h.keep_.trans (k0.mono fun _ _ e => e.elim)).trans (k3.mono fun k _ e => .inl (.inr (.inr e)))
  have hr1 : row1 = wrow ∨ ∃ g, row1 = some g ∧ w.heap.size ≤ g := by
    rcases hr3 with ⟨e, _⟩ | ⟨_, g, e, hg⟩
    · exact .inl e
    · exact .inr ⟨g, e, by have := k0.size; omega⟩
  refine ⟨o3, ?_, hs3', kS, hr1, ?_⟩
  · intro r hr g hg e
    rcases hr3 with ⟨e1, _⟩ | ⟨_, g', e1, hg'⟩
    · exact hrow r hr g hg (by rw [← e1, e])
    · have h1 := h.outs_.row_lt r hr g hg
      rw [e] at e1; injection e1 with e1
      have := k0.size
      omega
  · intro w4 orow4 rows4 fs o4 s4 f4 q4 k4
    have hmap : (outs ++ found.map (way ++ ·)) ++ fs.map ((way ++ [s]) ++ ·) = outs ++ (found ++ fs.map (s :: ·)).map (way ++ ·) := by
      simp [List.map_append, List.map_map, Function.comp_def, List.append_assoc]
    have hn4 : ∀ g, nrow = some g → ¬ Free bo orow' row1 g := by
      intro g hg e
      have f3 := o3.far n3
      rcases e with e | e | e
      · exact f3.1 g hg e
      · exact f3.2 g hg e
      · rcases hr3 with ⟨e1, _⟩ | ⟨_, g', e1, hg'⟩
        · exact hnw g hg (by rw [← e1, e])
        · have h1 := n2.lt g hg
          rw [e] at e1; injection e1 with e1
          omega
    refine ⟨by rw [← hmap, ← List.append_assoc]; exact o4, ?_, ?_, ?_, ?_, n3.keep k4 hn4⟩
    · rcases hr3 with ⟨e1, e2, e3, _⟩ | ⟨k3', g', e1, hg'⟩
      · rw [u8s_snoc] at s4
        have := Sl.front (by simpa using s4)
        rw [← e1, ← e2, ← e3]; exact this
      · have y3 := y2.keep k3' (fun _ _ h => h)
        have f3 := o3.far y3
        refine y3.keep k4 ?_
        intro g hg e
        rcases e with e | e | e
        · exact f3.1 g hg e
        · exact f3.2 g hg e
        · have h1 := y2.lt g hg
          rw [e] at e1; injection e1 with e1
          omega
    · intro r hr g hg
      rcases List.mem_append.1 hr with hr | hr
      · exact h.fresh r hr g hg
      · exact Nat.le_trans kS.size (f4 r hr g hg)
    · rcases q4 with q4 | ⟨g, q4, hg⟩
      · rw [q4]; exact h.orow_
      · exact .inr ⟨g, q4, Nat.le_trans kS.size hg⟩
    · refine kS.trans (k4.mono ?_)
      intro k _ e
      rcases e with e | e | e
      · exact .inl (.inl e)
      · rcases h.orow_ with q | ⟨g, q, hg⟩
        · exact .inl (.inr (.inl (by rw [← q, e])))
        · rw [e] at q; injection q with q
          exact .inr (by omega)
      · rcases hr1 with q | ⟨g, q, hg⟩
        · exact .inl (.inr (.inr (by rw [← q, e])))
        · rw [e] at q; injection q with q
          exact .inr (by omega)
end Go.Proofs.YtngjecbdajognaaDoor
