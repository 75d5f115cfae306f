/-
  Roster: numbered, Next, Get, At.
-/
import Derived.Test.YthlfgjlnjmjppaaRosC
namespace Go.Proofs.Ythlfgjlnjmjppaa
open Go.RowKit

def numT (x : Mem) : Bool := if x.st = 1 ∨ x.st = 2 then decide (x.no = 0) else if x.st = 3 ∨ x.st = 4 then decide (1 ≤ x.no ∧ x.no ≤ 1099511627776) else decide (0 ≤ x.no ∧ x.no ≤ 1099511627776)
set_option maxHeartbeats 400000 in
theorem num_any (x : Mem) (w : World) : Calls Try.prog 33 #[memV x] w (Tell (.bool (numT x)) w) := by
  obtain ⟨a, i, s, n⟩ := x
  have HO := Lib.hid (show numT ⟨a, i, s, n⟩ = if s = 1 ∨ s = 2 then decide (n = 0) else if s = 3 ∨ s = 4 then decide (1 ≤ n ∧ n ≤ 1099511627776) else decide (0 ≤ n ∧ n ≤ 1099511627776) from rfl)
  by_cases h1 : s = 1 ∨ s = 2
  · have H1 := Lib.hid h1
    rcases h1 with rfl | rfl
    all_goals
      go_enter Try.func33, Try.ntmps33
      go_wp2
      go_ret
      refine ⟨ret_bool ?_, (Keep.refl _ w).alloc _⟩
      rw [HO.out, if_pos H1.out, Bool.eq_iff_iff]; simp
  · have e1 : (s == 1) = false := by simp; omega
    have e2 : (s == 2) = false := by simp; omega
    by_cases h2 : s = 3 ∨ s = 4
    · have H2 := Lib.hid h2
      have H1 := Lib.hid h1
      clear h1
      rcases h2 with rfl | rfl
      all_goals
        go_enter Try.func33, Try.ntmps33
        go_wp2
      all_goals
        go_ret
        refine ⟨ret_bool ?_, (Keep.refl _ w).alloc _⟩
        rw [HO.out, if_neg H1.out, if_pos H2.out, Bool.eq_iff_iff]; simp; omega
    · have e3 : (s == 3) = false := by simp; omega
      have e4 : (s == 4) = false := by simp; omega
      have H2 := Lib.hid h2
      have H1 := Lib.hid h1
      clear h1 h2
      go_enter Try.func33, Try.ntmps33
      go_wp2
      all_goals
        go_ret
        refine ⟨ret_bool ?_, (Keep.refl _ w).alloc _⟩
        rw [HO.out, if_neg H1.out, if_neg H2.out, Bool.eq_iff_iff]; simp; omega

def maxNo (l : List Mem) : Int := l.foldl (fun n x => max n x.no) 0
def nextT (l : List Mem) : Int := if 1099511627776 ≤ maxNo l then maxNo l else maxNo l + 1
theorem maxNo_nonneg (l : List Mem) : 0 ≤ maxNo l := by
  have : ∀ (l : List Mem) (n : Int), 0 ≤ n → 0 ≤ l.foldl (fun n x => max n x.no) n := by
    intro l
    induction l with
    | nil => intro n hn; exact hn
    | cons x l ih => intro n hn; exact ih _ (by show 0 ≤ max n x.no; omega)
  exact this l 0 (by omega)
set_option maxHeartbeats 1000000 in
theorem next_any (A : Option Addr) (n c : Nat) (l : List Mem) (w : World) (h : RdMem w A n l) (hn : n ≤ 1000000) :
    Calls Try.prog 23 #[.slice A n c] w (Tell (.int .i64 (nextT l)) w) := by
  have H := Lib.hid h
  clear h
  go_enter Try.func23, Try.ntmps23
  go_wp2
  go_loopw [8, 3] (fun i v wr => ∃ k : Nat, k ≤ n ∧ i = .int .i64 (k : Int) ∧ v = .int .i64 (maxNo (l.take k)) ∧ Hid (Keep (fun _ => False) w wr)) (fun i _ _ => n - (intOf i).toNat)
  case atStart => exact ⟨0, Nat.zero_le _, rfl, rfl, Lib.hid (Keep.refl _ _)⟩
  case round =>
    obtain ⟨k, hk, rfl, rfl, HK⟩ := hrel
    have HL := Lib.hid H.out.1
    by_cases hlt : k < n
    · obtain ⟨g, off, rfl, c0, c1, c2, c3⟩ := (H.out.keep0 HK.out).at_ hlt
      have hl : k < l.length := by rw [HL.out]; exact hlt
      have hs : maxNo (l.take (k + 1)) = max (maxNo (l.take k)) (l.getD k zeroMem).no := by
        unfold maxNo
        rw [foldl_take _ _ _ _ hl]
        simp [List.getD, hl]
      have HS := Lib.hid hs
      clear hs hl
      generalize l.getD k zeroMem = x at *
      obtain ⟨a, i, s, m⟩ := x
      simp only at c0 c1 c2 c3
      generalize maxNo (l.take k) = v at *
      have hm : (if v < m then m else v) = max v m := by omega
      have HS2 := Lib.hid (show maxNo (l.take (k + 1)) = max v m from HS.out)
      go_wp2
      go_roundw
      case rel => exact ⟨k + 1, by omega, by go_num, by rw [HS2.out], Lib.hid (HK.out.trans (((Keep.refl (fun _ => False) wr).alloc _).mono fun _ _ h => h.elim))⟩
      case measure => simp [intOf]; omega
    · obtain rfl : k = n := by omega
      have hall : l.take k = l := List.take_of_length_le (by rw [HL.out]; exact Nat.le_refl _)
      rw [hall]
      have h0 := maxNo_nonneg l
      have HN := Lib.hid (show nextT l = if 1099511627776 ≤ maxNo l then maxNo l else maxNo l + 1 from rfl)
      clear hall
      generalize maxNo l = v at *
      by_cases hv : 1099511627776 ≤ v
      · have HN2 := Lib.hid (show nextT l = v by rw [HN.out, if_pos hv])
        go_wp2
        go_ret
        exact ⟨ret_int HN2.out.symm, HK.out⟩
      · have HN2 := Lib.hid (show nextT l = v + 1 by rw [HN.out, if_neg hv])
        go_wp2
        go_ret
        exact ⟨ret_int HN2.out.symm, HK.out⟩

/-- the member of an ID -/
def getT (l : List Mem) (p : ID) : Option Mem := l.find? (getPr p)
def optV (o : Option Mem) : Value := .tuple #[memV (o.getD zeroMem), .bool o.isSome]
theorem idxT_cases (pr : Mem → Bool) (l : List Mem) : (idxT pr l = -1 ∧ l.find? pr = none) ∨ ∃ k : Nat, k < l.length ∧ idxT pr l = (k : Int) ∧ l.find? pr = some (l.getD k zeroMem) := by
  unfold idxT
  cases h : l.findIdx? pr with
  | none =>
    left
    rw [List.findIdx?_eq_none_iff] at h
    exact ⟨rfl, List.find?_eq_none.2 (by simpa using h)⟩
  | some k =>
    right
    rw [List.findIdx?_eq_some_iff_getElem] at h
    obtain ⟨hk, h1, h2⟩ := h
    refine ⟨k, hk, rfl, ?_⟩
    rw [List.find?_eq_some_iff_getElem]
    exact ⟨by simpa [List.getD, hk] using h1, k, hk, by simp [List.getD, hk], fun j hj => by simpa using h2 j hj⟩
set_option maxHeartbeats 1000000 in
theorem get_any (A : Option Addr) (n c : Nat) (l : List Mem) (p : ID) (w : World) (h : RdMem w A n l) (hn : n ≤ 1000000) :
    Calls Try.prog 12 #[.slice A n c, idV p] w (Tell (optV (getT l p)) w) := by
  obtain ⟨pa, pi⟩ := p
  have H := Lib.hid h
  have k1 : Keep (fun _ => False) w ((w.alloc (.cells #[.int .i64 pa, .int .i64 pi] 27)).alloc (.cells #[.int .i64 0, .int .i64 0, .int .u8 0, .int .i64 0] 32)) := ((Keep.refl _ w).alloc _).alloc _
  have b0 := (Blk.new w 27 #[.int .i64 pa, .int .i64 pi]).alloc (.cells #[.int .i64 0, .int .i64 0, .int .u8 0, .int .i64 0] 32)
  have b1 := Blk.new_ (w := w.alloc (.cells #[.int .i64 pa, .int .i64 pi] 27)) (B := w.heap.size + 1) (by simp) 32 #[.int .i64 0, .int .i64 0, .int .u8 0, .int .i64 0]
  have K1 := Lib.hid k1
  have B0 := Lib.hid b0
  have B1 := Lib.hid b1
  have HC := Lib.hid (idxT_cases (getPr (pa, pi)) l)
  clear h k1 b0 b1
  go_enter Try.func12, Try.ntmps12
  go_wp2_with fail
  refine (getidx_any (pa, pi) w.heap.size A n c l _ (H.out.keep0 K1.out) hn (B0.out.cell 0) (B0.out.cell 1)).mono ?_
  rintro e w2 ⟨rfl, hk2⟩
  have HK2 := Lib.hid (keep0_trans _ _ _ K1.out hk2)
  have hb := B1.out.keep hk2 (fun h => h)
  have HB := Lib.hid hb
  have f0 := hb.frozen 0
  have f1 := hb.frozen 1
  have f2 := hb.frozen 2
  have f3 := hb.frozen 3
  have d0 := hb.cell 0
  have d1 := hb.cell 1
  have d2 := hb.cell 2
  have d3 := hb.cell 3
  simp at d0 d1 d2 d3
  clear hk2 hb
  rcases HC.out with ⟨h1, h2⟩ | ⟨k, hk, h1, h2⟩
  · rw [h1]
    have HF := Lib.hid h2
    clear h1 h2
    go_wp2
    refine bodyPost_ret (v := .tuple #[memV zeroMem, .bool false]) (by simp [results, Try.results12, go_sem, zeroMem, d0, d1, d2, d3]) rfl ⟨?_, ?_⟩
    · rw [getT, HF.out]; rfl
    · exact (((HK2.out.new (by simp) _).new (by simp) _).new (by simp) _).new (by simp) _
  · rw [h1]
    have HL := Lib.hid H.out.1
    obtain ⟨g, off, rfl, c0, c1, c2, c3⟩ := (H.out.keep0 HK2.out).at_ (i := k) (by rw [← HL.out]; exact hk)
    have HF := Lib.hid h2
    clear h1 h2
    generalize l.getD k zeroMem = x at *
    obtain ⟨a, i, s, m⟩ := x
    simp only at c0 c1 c2 c3
    have hkn : k < n := by have := HL.out; omega
    go_wp2
    refine bodyPost_ret (v := .tuple #[memV ⟨a, i, s, m⟩, .bool true]) (by simp [results, Try.results12, go_sem, d0, d1, d2, d3]) rfl ⟨?_, ?_⟩
    · rw [getT, HF.out]; rfl
    · exact (((HK2.out.new (by simp) _).new (by simp) _).new (by simp) _).new (by simp) _
end Go.Proofs.Ythlfgjlnjmjppaa
