/-
  Stage: Ways; ways that are read; Same.
-/
import Derived.Test.YtngjecbdajognaaDoorStgG
import Derived.Laws.BytesArg
import Derived.Laws.EntriesVeiled
namespace Go.Proofs.YtngjecbdajognaaDoor
open Go.RowKit

theorem waysT_far (to : Nat) (ht : 8 ≤ to) : ∀ d a, a < 8 → waysT to d a = []
  | 0, a, h => by simp [waysT, show a ≠ to by omega]
  | d + 1, a, h => by
    rw [waysT, if_neg (by omega), List.flatMap_eq_nil_iff]
    intro s hs
    rw [waysT_far to ht d s (nextT_gt a s hs).2]; rfl
theorem waysT_out (to d a : Nat) (h : 8 ≤ a) : (waysT to d a).length ≤ 1 := by
  have hn := nextT_far a h
  cases d with
  | zero => unfold waysT; split <;> simp
  | succ d => unfold waysT; rw [hn]; split <;> simp
theorem waysT_bd (to a : Nat) : (waysT to 8 a).length ≤ 1000 := by
  by_cases ha : a < 8
  · by_cases ht : to < 8
    · exact waysT_len to (by omega) 8 (by omega) a (by omega)
    · rw [waysT_far to (by omega) 8 a ha]; simp
  · have := waysT_out to 8 a (by omega); omega

/-- a slice of slices of bytes that can be read -/
def RdM (w : World) (A : Option Addr) (n : Nat) (outs : List (List Nat)) : Prop :=
  outs.length = n ∧ ∀ i, i < n → ∃ g off A' c', A = some ⟨g, off, none⟩ ∧ w.cell? ⟨g, off + i, none⟩ = some (.slice A' (outs.getD i []).length c') ∧ Rd w A' (outs.getD i []).length (u8s (outs.getD i []))
theorem RdM.keep {w w' : World} {A : Option Addr} {n : Nat} {outs : List (List Nat)} (h : RdM w A n outs) (hk : Keep (fun _ => False) w w') : RdM w' A n outs :=
  ⟨h.1, fun i hi => by
    obtain ⟨g, off, A', c', h1, h2, h3⟩ := h.2 i hi
    exact ⟨g, off, A', c', h1, hk.cell h2 (fun h => h), h3.keep hk (fun _ _ h => h)⟩⟩
theorem Outs.rdM {w : World} {bo : Nat} {orow : Option Nat} {rows : List (Option Nat)} {outs : List (List Nat)} (h : Outs w bo orow rows outs) : ∃ A c, w.cell? ⟨bo, 0, none⟩ = some (.slice A outs.length c) ∧ RdM w A outs.length outs := by
  obtain ⟨hl, A, c, vals, hb, hs, hv⟩ := h
  refine ⟨A, c, by rw [hb.cell]; rfl, rfl, fun i hi => ?_⟩
  obtain ⟨g, off, v, e1, e2, e3, e4⟩ := hs.at_ hi
  obtain ⟨A', c', q1, q2⟩ := hv i hi
  rw [e3] at q1; injection q1 with q1
  exact ⟨g, off, A', c', e1, by rw [e4, q1], q2.rd⟩

set_option maxHeartbeats 1000000 in
theorem ways_any (f t : Nat) (w : World) (hL : Laid w) :
    Calls Tryd.prog 12 #[.int .u8 (f : Int), .int .u8 (t : Int)] w fun e w' => ∃ A c, e = .returned (.slice A (waysT t 8 f).length c) ∧ RdM w' A (waysT t 8 f).length (waysT t 8 f) ∧ Keep (fun _ => False) w w' := by
  have hbd := waysT_bd t f
  have HL := Lib.hid hL
  have hs := hL.size 1 (by omega)
  clear hL
  go_enter Tryd.func12, Tryd.ntmps12
  go_wp2_with fail
  have k1 : Keep (fun _ => False) w (w.alloc (.cells #[.int .u8 (t : Int)] 5)) := (Keep.refl _ w).alloc _
  refine (walk_any t w.heap.size (w.heap.size + 1) (w.heap.size + 1 + 1) 8 f (by omega) [] _ none 0 none none [] [] ?_ ?_ ?_ (by omega) (by omega) (by simp) (by simp) (by simp) (by simp) (fun b hb => ⟨by omega, by simp, by simp⟩) (Sl.nil_ _ _) ?_ (by simp) ⟨by simp, by simp⟩ (by simp; omega)).mono ?_
  · exact HL.out.keep (((k1.alloc _).alloc _)) (fun _ _ h => h)
  · exact (((Blk.new w 5 #[.int .u8 (t : Int)]).alloc _).alloc _).cell 0
  · exact (Blk.new_ (by simp) _ _).cell 0
  · exact ⟨rfl, none, 0, [], (Blk.new_ (by simp) _ _).alloc _, Sl.nil_ _ _, by simp⟩
  rintro e w' ⟨rfl, orow', rows', h1, _, _, _, h5⟩
  obtain ⟨A, c, g1, g2⟩ := h1.rdM
  simp only [List.nil_append, List.map_id'] at g1 g2
  have hk : Keep (fun _ => False) w w' := ((k1.alloc _).alloc _).trans (h5.mono fun k hk e => .inr (e.elim (fun e => by omega) (fun e => e.elim (fun e => by cases e) (fun e => by cases e))))
  have G2 := Lib.hid g2
  clear g2 h1 h5
  go_wp2
  go_ret
  exact ⟨A, c, rfl, G2.out, hk⟩

/-- the bytes as a string -/
def strB (l : List Nat) : ByteArray := ⟨(l.map UInt8.ofNat).toArray⟩
theorem conv_any {w : World} {A : Option Addr} {n : Nat} {l : List Nat} (c : Nat) (h : Rd w A n (u8s l)) : (convert 25 9 (.slice A n c)).run Tryd.prog w = .ok (.string (strB l)) w := by
  have hl : l.length = n := by simpa [u8s] using h.1
  have hd : Tryd.prog.underlying 9 = some .string := Tryd.underlying9
  cases A with
  | none =>
    have hn : n = 0 := by
      rcases Nat.eq_zero_or_pos n with h0 | h0
      · exact h0
      · obtain ⟨g, off, v, h1, _⟩ := h.2 0 h0
        cases h1
    subst hn
    obtain rfl : l = [] := List.eq_nil_of_length_eq_zero hl
    exact run_convert_bytes_nil w 25 5 Tryd.underlying25 Tryd.underlying5 0 c _ hd
  | some a =>
    by_cases h0 : 0 < n
    · obtain ⟨g, off, v, h1, _⟩ := h.2 0 h0
      injection h1 with h1
      subst h1
      have := run_convert_bytes_arg (P := Tryd.prog) w 25 5 Tryd.underlying25 Tryd.underlying5 g off n c (l.map fun (s : Nat) => (s : Int)) (by simpa using hl) (fun i hi => by
        obtain ⟨g', off', v, e1, e2, e3⟩ := h.2 i hi
        injection e1 with e1; injection e1 with e1 e1'; subst e1 e1'
        rw [e3, ← e2]
        simp [u8s, hl, hi]) _ hd
      rw [this]
      simp [strOfNums, strB, Function.comp_def]
    · have hn : n = 0 := by omega
      subst hn
      obtain rfl : l = [] := List.eq_nil_of_length_eq_zero hl
      obtain ⟨b, off, x⟩ := a
      rw [run_convert_bytes_string w 25 9 5 _ 0 c Tryd.underlying25 Tryd.underlying5 hd]
      rw [run_bytesToString w _ 0 c [] (run_loadCells_list (P := Tryd.prog) w _ [] (by simp))]
      rfl
theorem strB_inj {l m : List Nat} (hl : ∀ s ∈ l, s < 256) (hm : ∀ s ∈ m, s < 256) (h : strB l = strB m) : l = m := by
  have h1 : (l.map UInt8.ofNat) = m.map UInt8.ofNat := by
    have := congrArg (fun b => b.data.toList) h
    simpa [strB] using this
  have h2 : ∀ l : List Nat, (∀ s ∈ l, s < 256) → (l.map UInt8.ofNat).map UInt8.toNat = l := by
    intro l hl
    rw [List.map_map]
    conv => rhs; rw [← List.map_id l]
    refine List.map_congr_left fun s hs => ?_
    have := hl s hs
    simp [Nat.mod_eq_of_lt this]
  rw [← h2 l hl, ← h2 m hm, h1]
end Go.Proofs.YtngjecbdajognaaDoor
