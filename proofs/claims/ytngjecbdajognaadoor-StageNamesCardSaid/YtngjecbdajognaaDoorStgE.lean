/-
  Stage: the closure of Ways: a way that ends is cloned and laid to the others.
-/
import Derived.Test.YtngjecbdajognaaDoorStgD
import Derived.Test.YtngjecbdajognaaDoorAppend2
import Derived.Deep.RegionHeldLaw
import Derived.Deep.RegionLaw
namespace Go.Proofs.YtngjecbdajognaaDoor
open Go.RowKit

def walkV (bt bo bw : Nat) : Value := .func (.func 20) #[] #[.pointer (some ⟨bt, 0, none⟩), .pointer (some ⟨bo, 0, none⟩), .pointer (some ⟨bw, 0, none⟩)]
theorem sl_info : (Tryd.prog.info? 25).map (fun i => (i.zero, i.size, i.bytes)) = some (some (.slice none 0 0), 1, 24) := by kernel_rfl

theorem Sl.row_ne {w : World} {e : TypeId} {row : Option Nat} {A : Option Addr} {n c : Nat} {xs : List Value} {g : Nat} {t : TypeId} {cs : Array Value} (h : Sl w e row A n c xs) (hb : Blk w g t cs) (hne : t ≠ e) : row ≠ some g := by
  intro hg
  rcases h.2.2.2 with ⟨q1, _⟩ | ⟨g', off, cur, q1, _, hbb, _⟩
  · rw [q1] at hg; cases hg
  · rw [hg] at q1; injection q1 with q1; subst q1
    exact Blk.ne_ hb hbb hne rfl
theorem Sl.rows_ne {w : World} {e e' : TypeId} {row row' : Option Nat} {A A' : Option Addr} {n c n' c' : Nat} {xs xs' : List Value} (h : Sl w e row A n c xs) (h' : Sl w e' row' A' n' c' xs') (hne : e ≠ e') : ∀ g, row = some g → row' ≠ some g := by
  intro g hg
  rcases h.2.2.2 with ⟨q1, _⟩ | ⟨g', off, cur, q1, _, hbb, _⟩
  · rw [q1] at hg; cases hg
  · rw [hg] at q1; injection q1 with q1; subst q1
    exact h'.row_ne hbb hne
theorem behind_append2 {row row' : Option Nat} {A A' : Option Addr} {c c' : Nat} {w w' : World} (h : (row' = row ∧ A' = A ∧ c' = c ∧ Keep (fun g => row = some g) w w') ∨ (Keep (fun _ => False) w w' ∧ ∃ g, row' = some g ∧ w.heap.size ≤ g)) : Keep (fun g => row = some g) w w' := by
  rcases h with ⟨_, _, _, h⟩ | ⟨h, _⟩
  · exact h
  · exact h.mono fun _ _ h => h.elim
theorem outs_push {w w1 w3 : World} {bo : Nat} {orow row3 row1 : Option Nat} {rows : List (Option Nat)} {outs : List (List Nat)} {vals : List Value} {way : List Nat} {A1 A3 OA : Option Addr} {c1 c3 oc : Nat} (hl : rows.length = outs.length)
    (hb : Blk w bo 27 #[.slice OA outs.length oc]) (hs : Sl w 25 orow OA outs.length oc vals)
    (hv : ∀ i, i < outs.length → ∃ A' c', vals[i]? = some (.slice A' (outs.getD i []).length c') ∧ Sl w 5 (rows.getD i none) A' (outs.getD i []).length c' (u8s (outs.getD i [])))
    (kk1 : Keep (fun _ => False) w w1) (hs1 : Sl w1 5 row1 A1 way.length c1 (u8s way)) (hs3 : Sl w3 25 row3 A3 (outs.length + 1) c3 (vals ++ [.slice A1 way.length c1]))
    (hr3 : (row3 = orow ∧ A3 = OA ∧ c3 = oc ∧ Keep (fun g => orow = some g) (w1.alloc (.cells #[.slice A1 way.length c1] 25)) w3) ∨ (Keep (fun _ => False) (w1.alloc (.cells #[.slice A1 way.length c1] 25)) w3 ∧ ∃ g, row3 = some g ∧ (w1.alloc (.cells #[.slice A1 way.length c1] 25)).heap.size ≤ g)) :
    Outs (w3.setCell ⟨bo, 0, none⟩ (.slice A3 (outs.length + 1) c3)) bo row3 (rows ++ [row1]) (outs ++ [way]) ∧ (row3 = orow ∨ ∃ g, row3 = some g ∧ w.heap.size ≤ g) ∧ Keep (fun k => k = bo ∨ orow = some k) w (w3.setCell ⟨bo, 0, none⟩ (.slice A3 (outs.length + 1) c3)) := by
  have k02 : Keep (fun _ => False) w (w1.alloc (.cells #[.slice A1 way.length c1] 25)) := kk1.alloc _
  have k23 := behind_append2 hr3
  have k34 : Keep (fun k => k = bo) w3 (w3.setCell ⟨bo, 0, none⟩ (.slice A3 (outs.length + 1) c3)) := (Keep.refl (fun k => k = bo) w3).setCell (fun _ => rfl) _
  have b2 := hb.keep k02 (fun h => h)
  have s2 := hs.keep k02 (fun _ _ h => h)
  have hob : orow ≠ some bo := s2.row_ne b2 (by decide)
  have b3 := b2.keep k23 hob
  have s1 : Sl (w1.alloc (.cells #[.slice A1 way.length c1] 25)) 5 row1 A1 way.length c1 (u8s way) := hs1.keep ((Keep.refl (fun _ => False) w1).alloc _) (fun _ _ h => h)
  have move : ∀ {r : Option Nat} {A : Option Addr} {n c : Nat} {xs : List Value}, Sl (w1.alloc (.cells #[.slice A1 way.length c1] 25)) 5 r A n c xs → Sl (w3.setCell ⟨bo, 0, none⟩ (.slice A3 (outs.length + 1) c3)) 5 r A n c xs := by
    intro r A n c xs h
    have h3 := h.keep k23 (fun g hg => h.rows_ne s2 (by decide) g hg)
    exact h3.keep k34 (fun g hg e => h3.row_ne b3 (by decide) (by rw [hg, e]))
  refine ⟨⟨by simp [hl], A3, c3, vals ++ [.slice A1 way.length c1], ?_, ?_, ?_⟩, ?_, ?_⟩
  · simpa using b3.set_ 0 (.slice A3 (outs.length + 1) c3)
  · simpa using hs3.keep k34 (fun g hg e => hs3.row_ne b3 (by decide) (by rw [hg, e]))
  · intro i hi
    have hvl : vals.length = outs.length := hs.1
    by_cases hlt : i < outs.length
    · obtain ⟨A', c', q1, q2⟩ := hv i hlt
      refine ⟨A', c', ?_, ?_⟩
      · rw [List.getElem?_append_left (by omega), q1]
        simp [List.getD, List.getElem?_append_left hlt]
      · have e1 : (rows ++ [row1]).getD i none = rows.getD i none := by simp [List.getD, List.getElem?_append_left (show i < rows.length by omega)]
        have e2 : (outs ++ [way]).getD i [] = outs.getD i [] := by simp [List.getD, List.getElem?_append_left hlt]
        rw [e1, e2]
        exact move (q2.keep k02 (fun _ _ h => h))
    · have hi2 : i = outs.length := by simp at hi; omega
      subst hi2
      have e1 : (rows ++ [row1]).getD outs.length none = row1 := by rw [← hl]; simp [List.getD]
      have e2 : (outs ++ [way]).getD outs.length [] = way := by simp [List.getD]
      rw [e1, e2]
      exact ⟨A1, c1, by rw [← hvl]; simp, move s1⟩
  · rcases hr3 with ⟨h, _⟩ | ⟨_, g, h, hg⟩
    · exact .inl h
    · exact .inr ⟨g, h, Nat.le_trans k02.size hg⟩
  · have k03 : Keep (fun k => k = bo ∨ orow = some k) w w3 := (k02.mono (T := fun k => k = bo ∨ orow = some k) fun _ _ h => h.elim).trans (k23.mono fun k _ h => .inl (.inr h))
    exact k03.trans (k34.mono fun k _ h => .inl (.inl h))
set_option maxHeartbeats 2000000 in
theorem walk_end (to bt bo bw : Nat) (way : List Nat) (w : World) (A : Option Addr) (c : Nat) (wrow orow : Option Nat) (rows : List (Option Nat)) (outs : List (List Nat))
    (ct : w.cell? ⟨bt, 0, none⟩ = some (.int .u8 (to : Int))) (hS : Sl w 5 wrow A way.length c (u8s way)) (hO : Outs w bo orow rows outs) (h1 : way.length ≤ 100) (h2 : outs.length ≤ 100000) :
    Calls Tryd.prog 20 #[.int .u8 (to : Int), .slice A way.length c, .pointer (some ⟨bt, 0, none⟩), .pointer (some ⟨bo, 0, none⟩), .pointer (some ⟨bw, 0, none⟩)] w fun e w' =>
      e = .returned (.tuple #[]) ∧ ∃ orow' r, Outs w' bo orow' (rows ++ [r]) (outs ++ [way]) ∧ (∀ g, r = some g → w.heap.size ≤ g) ∧ (orow' = orow ∨ ∃ g, orow' = some g ∧ w.heap.size ≤ g) ∧ Keep (fun k => k = bo ∨ orow = some k) w w' := by
  obtain ⟨i0, hi, hz0, hz1, hz2⟩ := info_parts sl_info
  obtain ⟨hl, OA, oc, vals, hb, hs, hv⟩ := hO
  have HI := Lib.hid hi
  have HZ0 := Lib.hid hz0
  have HZ1 := Lib.hid hz1
  have HZ2 := Lib.hid hz2
  have HB := Lib.hid hb
  have HS := Lib.hid hs
  have HV := Lib.hid hv
  have HW := Lib.hid hS
  have c0 := hb.cell 0
  have f0 := hb.frozen 0
  simp at c0
  clear hi hz0 hz1 hz2 hb hs hv hS
  go_enter Tryd.func20, Tryd.ntmps20
  go_wp2
  have hob : orow ≠ some bo := by
    intro hg
    rcases HS.out.2.2.2 with ⟨q1, _⟩ | ⟨g', off, cur, q1, _, hbb, _⟩
    · rw [q1] at hg; cases hg
    · rw [hg] at q1; injection q1 with q1; subst q1
      exact Blk.ne_ HB.out hbb (by decide) rfl
  go_region_law (first
    | (refine step_append_sl2 rfl _ _ _ rfl i0 _ 24 Tryd.underlying27 HI.out HZ0.out HZ1.out HZ2.out rfl (HS.out.keep ((((Keep.refl (fun _ => False) w).drew).trans (hk1.mono fun _ _ h => .inl h)).alloc _) (fun _ _ h => h)) (by rfl) ⟨w1.heap.size, 0, none⟩ (.slice A1 way.length c1) 1 (by rfl) (by simp) rfl (by unfold maxLen; omega) (by omega) ?_; intro row3 A3 c3 w3 hs3 hr3; have hk3 := behind_append2 hr3; have g3 := (hk3.cell (((Keep.refl (fun _ => False) w1).alloc _).cell g1 (fun h => h)) hob); have f3 := hk3.frozen (((Keep.refl (fun _ => False) w1).alloc _).frozen f1 (World.block_lt_of_cell? _ _ g1) (fun h => h)) (World.block_lt_of_cell? _ _ (((Keep.refl (fun _ => False) w1).alloc _).cell g1 (fun h => h))) hob)
    | (go_simp; go_at_call 21; refine (clone_any _ (HW.out.keep ((Keep.refl (fun _ => False) w).drew) (fun _ _ h => h)).rd (by omega)).mono ?_; rintro e w1 ⟨row1, A1, c1, rfl, hs1, hk1, hr1⟩; have g1 := hk1.cell (a := ⟨bo, 0, none⟩) c0 (fun h => h); have f1 := hk1.frozen (a := ⟨bo, 0, none⟩) f0 (World.block_lt_of_cell? w _ c0) (fun h => h); have l1 : bo < w1.heap.size := World.block_lt_of_cell? _ _ g1))
  all_goals
    go_wp2
    refine bodyPost_ret (v := .tuple #[]) (by simp [results, Tryd.results20, go_sem]) rfl ?_
    obtain ⟨q1, q2, q3⟩ := outs_push hl HB.out HS.out HV.out (((Keep.refl (fun _ => False) w).drew).trans (hk1.mono fun _ _ h => .inl h)) hs1 hs3 hr3
    exact ⟨rfl, row3, row1, q1, hr1, q2, q3⟩
end Go.Proofs.YtngjecbdajognaaDoor
