/-
  long, rising of package coveylaw16.
-/
import Derived.Test.YtenphdgnaknbeaaWatO
import Derived.Test.YtenphdgnaknbeaaWatF
namespace Go.Proofs.Ytenphdgnaknbeaa
open Go.RowKit
set_option maxRecDepth 100000

def stp0 : Stp := ⟨false, (0, 0), none, 0, 0, [], 0⟩
def longM (l : List Stp) : Bool := decide (100 < l.length) || l.any (fun s => decide (30 < s.ids.length) || !decide (Ris s.ids))
theorem RdS.at_ {w : World} {A : Option Addr} {n : Nat} {l : List Stp} (h : RdS w A n l) {i : Nat} (hi : i < n) : ∃ g off, A = some ⟨g, off, none⟩ ∧ w.cell? ⟨g, off + i * 5, none⟩ = some (.bool (l.getD i stp0).hear) ∧ w.cell? ⟨g, off + i * 5 + 1, none⟩ = some (.int .i64 (l.getD i stp0).x.1) ∧
    w.cell? ⟨g, off + i * 5 + 2, none⟩ = some (.int .i64 (l.getD i stp0).x.2) ∧ w.cell? ⟨g, off + i * 5 + 3, none⟩ = some (.slice (l.getD i stp0).A (l.getD i stp0).n (l.getD i stp0).c) ∧ w.cell? ⟨g, off + i * 5 + 4, none⟩ = some (.int .i64 (l.getD i stp0).now) ∧ OkS w (l.getD i stp0) := by
  have hl : i < l.length := by rw [h.1]; exact hi
  have e : l.getD i stp0 = l[i] := by simp [List.getD, hl]
  rw [e]
  obtain ⟨g, off, v, h1, h2, h3⟩ := h.2.1.2 (i * 5) (by omega)
  have get : ∀ j, j < 5 → ∃ v, w.cell? ⟨g, off + (i * 5 + j), none⟩ = some v ∧ (cS l[i])[j]? = some v := fun j hj => by
    obtain ⟨g', off', v', q1, q2, q3⟩ := h.2.1.2 (i * 5 + j) (by omega)
    rw [h1] at q1; injection q1 with q1; injection q1 with q4 q5; subst q4 q5
    exact ⟨v', q3, by rw [← flat_get cS 5 (fun _ => rfl) l i j hl hj]; exact q2⟩
  obtain ⟨v0, a0, b0⟩ := get 0 (by omega)
  obtain ⟨v1, a1, b1⟩ := get 1 (by omega)
  obtain ⟨v2, a2, b2⟩ := get 2 (by omega)
  obtain ⟨v3, a3, b3⟩ := get 3 (by omega)
  obtain ⟨v4, a4, b4⟩ := get 4 (by omega)
  simp at b0 b1 b2 b3 b4
  subst b0 b1 b2 b3 b4
  simp only [← Nat.add_assoc] at a1 a2 a3 a4
  exact ⟨g, off, h1, a0, a1, a2, a3, a4, h.2.2 _ (List.getElem_mem hl)⟩
theorem long_next {l : List Stp} {k : Nat} (hk : k < l.length) : (l.take (k + 1)).any (fun s => decide (30 < s.ids.length) || !decide (Ris s.ids)) = ((l.take k).any (fun s => decide (30 < s.ids.length) || !decide (Ris s.ids)) || (decide (30 < (l.getD k stp0).ids.length) || !decide (Ris (l.getD k stp0).ids))) := by
  have : l.getD k stp0 = l[k] := by simp [List.getD, hk]
  rw [this, List.take_succ_eq_append_getElem hk, List.any_append]
  simp
theorem long_hit {l : List Stp} {k : Nat} (hk : k < l.length) (h : (decide (30 < (l.getD k stp0).ids.length) || !decide (Ris (l.getD k stp0).ids)) = true) : longM l = true := by
  have : l.getD k stp0 = l[k] := by simp [List.getD, hk]
  rw [this] at h
  unfold longM
  rw [Bool.or_eq_true]
  exact .inr (List.any_eq_true.2 ⟨_, List.getElem_mem hk, h⟩)
set_option maxHeartbeats 1000000 in
theorem long_any (A : Option Addr) (n c : Nat) (l : List Stp) (w : World) (h : RdS w A n l) : Calls Try.prog 8 #[.slice A n c] w (Tell (.bool (longM l)) w) := by
  have HR := Lib.hid h
  have HL := Lib.hid h.1
  clear h
  go_enter Try.func8, Try.ntmps8
  by_cases h100 : 100 < n
  · have q0 : (100 : Int) < (n : Int) := by omega
    go_wp2
    go_ret
    exact ⟨by rw [show longM l = true from by unfold longM; rw [HL.out]; simp [h100]]; rfl, Keep.refl _ _⟩
  have q0 : ¬ (100 : Int) < (n : Int) := by omega
  go_wp2
  go_loopw [3] (fun j wr => ∃ q : Nat, q ≤ n ∧ j = .int .i64 (q : Int) ∧ Hid ((l.take q).any (fun s => decide (30 < s.ids.length) || !decide (Ris s.ids)) = false) ∧ Hid (Keep (fun _ => False) w wr)) (fun j _ => n - (intOf j).toNat)
  case atStart => exact ⟨0, Nat.zero_le _, rfl, Lib.hid (by simp), Lib.hid (Keep.refl _ _)⟩
  case round =>
    obtain ⟨q, hq, rfl, HN, HK⟩ := hrel
    have e2 : IntKind.i64.wrap ((q : Int) + 1) = (q : Int) + 1 := IntWalk.i64_in _ (by omega)
    by_cases hlt : q < n
    · have HI := Lib.hid (HR.out.keep0 HK.out)
      obtain ⟨g, off, hA, p0, p1, p2, p3, p4, ok⟩ := HI.out.at_ hlt
      obtain ⟨s, hs⟩ : ∃ s, l.getD q stp0 = s := ⟨_, rfl⟩
      have HS := Lib.hid hs
      rw [hs] at p0 p1 p2 p3 p4 ok
      subst hA
      have HO := Lib.hid ok
      have q1 : (q : Int) < (n : Int) := by omega
      have q2 : (0 : Int) ≤ (q : Int) := by omega
      have hsn := ok.rd.1
      clear hs p0 p1 p2 p4 ok
      by_cases h30 : 30 < s.n
      · have q3 : (30 : Int) < (s.n : Int) := by omega
        go_wp2
        go_ret
        exact ⟨by rw [long_hit (k := q) (by rw [HL.out]; exact hlt) (by rw [HS.out, hsn]; simp [h30])]; rfl, HK.out⟩
      · have q3 : ¬ (30 : Int) < (s.n : Int) := by omega
        go_wp2_with fail
        refine (risingR_any s.A s.n s.c s.ids _ HO.out.rd (by omega)).mono ?_
        rintro e w1 ⟨rfl, hk⟩
        have HK1 := Lib.hid (keep0_trans _ _ _ HK.out hk)
        clear hk
        by_cases hris : Ris s.ids
        · rw [decide_eq_true hris]
          go_wp2
          go_roundw
          case rel => exact ⟨q + 1, by omega, by go_num, Lib.hid (by rw [long_next (by rw [HL.out]; exact hlt), HN.out, HS.out, hsn]; simp [h30, hris]), HK1⟩
          case measure => simp [intOf]; omega
        · rw [decide_eq_false hris]
          go_wp2
          go_ret
          exact ⟨by rw [long_hit (k := q) (by rw [HL.out]; exact hlt) (by rw [HS.out]; simp [hris])]; rfl, HK1.out⟩
    · obtain rfl : q = n := by omega
      go_wp2
      go_ret
      refine ⟨?_, HK.out⟩
      have : l.take q = l := List.take_of_length_le (Nat.le_of_eq HL.out)
      have h1 := HN.out
      rw [this] at h1
      rw [show longM l = false from by unfold longM; rw [h1, HL.out]; simp; omega]; rfl
/-- what int(uint(x) % 50) is -/
def g50 (x : Int) : Int := IntKind.i64.wrap ((IntKind.u64.wrap x).tmod 50)
theorem g50_bd (x : Int) : 0 ≤ g50 x ∧ g50 x < 50 := by
  obtain ⟨g, hg, e⟩ := mod_u64 x 50 (by omega) (by omega)
  unfold g50
  rw [e]; omega
/-- the time of the k-th step (k from 1 on) -/
def nwL (l : List Stp) (k : Nat) : Int := ((l.take k).map (fun s => g50 s.now)).sum
theorem nwL_zero (l : List Stp) : nwL l 0 = 0 := by simp [nwL]
theorem nwL_next {l : List Stp} {k : Nat} (hk : k < l.length) : nwL l (k + 1) = nwL l k + g50 (l.getD k stp0).now := by
  have : l.getD k stp0 = l[k] := by simp [List.getD, hk]
  unfold nwL
  rw [this, List.take_succ_eq_append_getElem hk, List.map_append, List.sum_append]
  simp
theorem nwL_bd (l : List Stp) (k : Nat) : 0 ≤ nwL l k ∧ nwL l k ≤ 50 * k := by
  unfold nwL
  have h : ∀ m : List Stp, 0 ≤ (m.map (fun s => g50 s.now)).sum ∧ (m.map (fun s => g50 s.now)).sum ≤ 50 * m.length := by
    intro m
    induction m with
    | nil => simp
    | cons s m ih =>
      have := g50_bd s.now
      simp only [List.map_cons, List.sum_cons, List.length_cons]
      omega
  have h1 := h (l.take k)
  have h2 := List.length_take_le k l
  omega
def risA (l : List Stp) (k : Nat) : List Stp := (List.range k).map (fun j => { l.getD j stp0 with now := nwL l (j + 1) })
theorem risA_next (l : List Stp) (k : Nat) : risA l (k + 1) = risA l k ++ [{ l.getD k stp0 with now := nwL l (k + 1) }] := by
  unfold risA
  rw [List.range_succ, List.map_append]
  rfl
theorem risA_len (l : List Stp) (k : Nat) : (risA l k).length = k := by simp [risA]
theorem risA_at {l : List Stp} {k j : Nat} (hj : j < k) : (risA l k).getD j stp0 = { l.getD j stp0 with now := nwL l (j + 1) } := by
  simp [risA, List.getD, hj]
end Go.Proofs.Ytenphdgnaknbeaa
