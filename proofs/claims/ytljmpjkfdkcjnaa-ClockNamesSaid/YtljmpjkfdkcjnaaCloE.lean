/-
  clock.Join, clock.Compare.
-/
import Derived.Test.YtljmpjkfdkcjnaaCloD
namespace Go.Proofs.Ytljmpjkfdkcjnaa
open Go.RowKit

theorem infoT' : (Try.prog.info? 35).map (fun i => (i.zero, i.size, i.bytes)) = some (some (.agg #[.int .i64 0, .int .i64 0, .int .i64 0]), 3, 24) := by kernel_rfl
theorem RdT.one_ {w : World} {g : Nat} {t : TypeId} {x : Tick} (h : Blk w g t #[.int .i64 x.1.1, .int .i64 x.1.2, .int .i64 x.2]) : RdT w (some ⟨g, 0, none⟩) 1 [x] := ⟨rfl, RdK.of_blk h 1 3 rfl⟩
/-- new memory that holds a list of ticks -/
def NewT (l : List Tick) (w : World) (e : Ending) (w' : World) : Prop :=
  ∃ row A c, e = .returned (.slice A l.length c) ∧ SlK w' 35 3 row A l.length c (l.flatMap cT) ∧ (∀ g, row = some g → w.heap.size ≤ g) ∧ Keep (fun _ => False) w w'
theorem NewT.got {l : List Tick} {w : World} {e : Ending} {w' : World} (h : NewT l w e w') : GotT l w e w' := by
  obtain ⟨row, A, c, rfl, hs, _, hk⟩ := h
  exact ⟨A, l.length, c, rfl, hs.tsl, hk⟩
theorem join1_grew {w w1 w2 : World} {row row2 : Option Nat} {A A2 : Option Addr} {c c2 m : Nat} (h : (m = 0 ∧ row2 = row ∧ A2 = A ∧ c2 = c ∧ w2 = w1) ∨ Grew row A c w1 row2 A2 c2 w2) (hk : Keep (fun _ => False) w w1) :
    Keep (fun g => row = some g) w w2 ∧ (row2 = row ∨ ∃ g, row2 = some g ∧ w.heap.size ≤ g) := by
  have hk' : Keep (fun g => row = some g) w w1 := hk.mono (fun _ _ h => h.elim)
  rcases h with ⟨_, e1, _, _, e2⟩ | h
  · rw [e1, e2]; exact ⟨hk', .inl rfl⟩
  · refine ⟨hk'.trans (h.keep.mono fun _ _ e => .inl e), ?_⟩
    rcases h with ⟨e, _⟩ | ⟨_, g, e, hg⟩
    · exact .inl e
    · exact .inr ⟨g, e, Nat.le_trans hk.size hg⟩
set_option maxRecDepth 100000 in
set_option maxHeartbeats 1000000 in
theorem join1_any (Bo : Nat) (row : Option Nat) (A : Option Addr) (n c : Nat) (l : List Tick) (x : ID) (p q : Int) (w : World) (hb : Blk w Bo 24 #[.slice A n c]) (hs : SlK w 35 3 row A n c (l.flatMap cT)) (hn : n ≤ 100000000) :
    Calls Try.prog 22 #[idV x, .int .i64 p, .int .i64 q, .pointer (some ⟨Bo, 0, none⟩)] w (fun e w' => (∃ v, e = .returned v) ∧ ∃ row' A' c', Blk w' Bo 24 #[.slice A' (n + 1) c'] ∧ SlK w' 35 3 row' A' (n + 1) c' ((l ++ [(x, max p q)]).flatMap cT) ∧ (row' = row ∨ ∃ g, row' = some g ∧ w.heap.size ≤ g) ∧ Keep (fun g => g = Bo ∨ row = some g) w w') := by
  obtain ⟨a, i⟩ := x
  obtain ⟨i0, hi, hz0, hz1, hz2⟩ := info_parts infoT'
  have HI := Lib.hid hi
  have HZ0 := Lib.hid hz0
  have HZ1 := Lib.hid hz1
  have HZ2 := Lib.hid hz2
  have HS := Lib.hid hs
  have HB := Lib.hid hb
  have hbc := hb.cell 0
  have hlt := hb.lt
  have hne : row ≠ some Bo := hs.row_ne hb (by decide)
  have HNE := Lib.hid hne
  clear hi hz0 hz1 hz2 hs hb hne
  have HL : Hid (∀ M : Int, True → (l ++ [((a, i), M)]).flatMap cT = l.flatMap cT ++ [.int .i64 a, .int .i64 i, .int .i64 M]) := Lib.hid fun M _ => by simp
  have hk0 := (Keep.refl (fun _ => False) w).alloc (.cells #[.int .i64 a, .int .i64 i] 28)
  have hb0 := Blk.new w 28 #[.int .i64 a, .int .i64 i]
  have HK0 := Lib.hid hk0
  have HB0 := Lib.hid hb0
  have hc0 := hb0.cell 0
  have hc1 := hb0.cell 1
  have hbc0 := hk0.cell hbc (fun h => h)
  clear hk0 hb0
  go_enter Try.func22, Try.ntmps22
  go_wp2_with (at_builtin; refine wpList_append_slK rfl _ _ _ rfl i0 _ 24 Try.underlying24 HI.out HZ0.out HZ1.out HZ2.out rfl (by omega) (HS.out.keep (HK0.out.alloc _) (fun _ _ h => h)) rfl rfl (RdT.one_ (x := ((a, i), max p q)) (Blk.new_ (by simp) _ _)).2 (one_flatT _) (by unfold maxLen; omega) (by omega) ?_; intro row2 A2 c2 w3 hs2 hr2
               have hk3 := join1_grew hr2 (HK0.out.alloc _)
               have hb3 := HB.out.keep hk3.1 HNE.out
               have q0 := hb3.cell 0
               have q1 := hb3.frozen 0
               have HB3 := Lib.hid hb3
               have HK3 := Lib.hid hk3
               have HS2 := Lib.hid hs2
               clear hk3 hb3 hs2 hr2)
  go_end0
  have hne2 : row2 ≠ some Bo := HS2.out.row_ne HB3.out (by decide)
  refine ⟨⟨_, rfl⟩, row2, A2, c2, ?_, ?_, HK3.out.2, ?_⟩
  · exact HB3.out.set_ 0 _
  · rw [HL.out _ trivial]
    exact HS2.out.keep ((Keep.refl (fun g => g = Bo) _).setCell (fun _ => rfl) _) (fun g hg e => hne2 (by rw [hg, e]))
  · exact (HK3.out.1.mono (fun _ _ e => .inr e)).setCell (fun _ => .inl rfl) _
end Go.Proofs.Ytljmpjkfdkcjnaa
