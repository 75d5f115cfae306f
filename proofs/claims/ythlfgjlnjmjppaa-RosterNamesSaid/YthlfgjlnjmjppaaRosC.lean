/-
  Roster: Get, At, numbered, Next.
-/
import Derived.Test.YthlfgjlnjmjppaaRosB
import Derived.Test.YthlfgjlnjmjppaaEq
import Derived.Test.YthlfgjlnjmjppaaCmp
namespace Go.Proofs.Ythlfgjlnjmjppaa
open Go.RowKit

def getPr (p : ID) (x : Mem) : Bool := decide (x.id = p)
set_option maxHeartbeats 400000 in
theorem getfn_any (x : Mem) (p : ID) (b : Nat) (w : World) (c0 : w.cell? ⟨b, 0, none⟩ = some (.int .i64 p.1)) (c1 : w.cell? ⟨b, 1, none⟩ = some (.int .i64 p.2)) :
    Calls Try.prog 29 #[memV x, .pointer (some ⟨b, 0, none⟩)] w (Tell (.bool (getPr p x)) w) := by
  obtain ⟨a, i, s, n⟩ := x
  obtain ⟨pa, pi⟩ := p
  have hb := World.block_lt_of_cell? w _ c0
  have k1 : Keep (fun _ => False) w (w.alloc (.cells #[.int .i64 a, .int .i64 i, .int .u8 s, .int .i64 n] 32)) := (Keep.refl _ w).alloc _
  simp only at c0 c1
  have hg := gID
  have he : ∀ W, (binOp .eql 27 (.agg #[.int .i64 a, .int .i64 i]) (.agg #[.int .i64 pa, .int .i64 pi])).run Try.prog W = .ok (.bool (decide ((a, i) = (pa, pi)))) W := fun W => eql_ID (a, i) (pa, pi) W
  change ∀ W, _ = Result.ok (Value.bool (getPr (pa, pi) ⟨a, i, s, n⟩)) W at he
  generalize hr : getPr (pa, pi) ⟨a, i, s, n⟩ = r at he
  have HR := Lib.hid hr
  have HK := Lib.hid k1
  clear k1 hr
  go_enter Try.func29, Try.ntmps29
  go_wp2
  go_ret
  exact ⟨rfl, HK.out⟩
/-- the place by a predicate -/
def idxT (pr : Mem → Bool) (l : List Mem) : Int := match l.findIdx? pr with
  | some i => (i : Int)
  | none => -1
theorem idxT_hit (pr : Mem → Bool) (l : List Mem) (k : Nat) (hk : k < l.length) (hn : ∀ x ∈ l.take k, pr x = false) (hp : pr (l.getD k zeroMem) = true) : idxT pr l = (k : Int) := by
  have : l.findIdx? pr = some k := by
    rw [List.findIdx?_eq_some_iff_getElem]
    refine ⟨hk, by simpa [List.getD, hk] using hp, fun j hj => ?_⟩
    have := hn l[j] (List.mem_take_iff_getElem.2 ⟨j, by omega, rfl⟩)
    simp [this]
  simp [idxT, this]
theorem idxT_miss (pr : Mem → Bool) (l : List Mem) (hn : ∀ x ∈ l, pr x = false) : idxT pr l = -1 := by
  have : l.findIdx? pr = none := by
    rw [List.findIdx?_eq_none_iff]
    intro x hx; simp [hn x hx]
  simp [idxT, this]
theorem mem_take_one {α : Type} (l : List α) (k : Nat) (d : α) (h : k < l.length) (x : α) : x ∈ l.take (k + 1) ↔ x ∈ l.take k ∨ x = l.getD k d := by
  rw [List.take_succ_eq_append_getElem h]
  simp only [List.mem_append, List.mem_singleton, List.getD, List.getElem?_eq_getElem h, Option.getD_some]
def joinPr (x : Mem) : Bool := !okE x
theorem stB (s : Int) : (!(true && decide (1 ≤ s ∧ s ≤ 7))) = (decide (s < 1) || decide (7 < s)) := by
  by_cases h1 : s < 1 <;> by_cases h2 : 7 < s <;> simp [h1, h2] <;> omega
set_option maxHeartbeats 1000000 in
theorem getidx_any (p : ID) (b : Nat) (A : Option Addr) (n c : Nat) (l : List Mem) (w : World) (h : RdMem w A n l) (hn : n ≤ 1000000) (c0 : w.cell? ⟨b, 0, none⟩ = some (.int .i64 p.1)) (c1 : w.cell? ⟨b, 1, none⟩ = some (.int .i64 p.2)) :
    Calls Try.prog 28 #[.slice A n c, .func (.func 29) #[] #[.pointer (some ⟨b, 0, none⟩)]] w (Tell (.int .i64 (idxT (getPr p) l)) w) := by
  have H := Lib.hid h
  have C0 := Lib.hid c0
  have C1 := Lib.hid c1
  clear h c0 c1
  go_enter Try.func28, Try.ntmps28
  go_wp2
  go_loopw [8] (fun i wr => ∃ k : Nat, k ≤ n ∧ i = .int .i64 (k : Int) ∧ Hid (∀ x ∈ l.take k, (getPr p) x = false) ∧ Hid (Keep (fun _ => False) w wr)) (fun i _ => n - (intOf i).toNat)
  case atStart => exact ⟨0, Nat.zero_le _, rfl, Lib.hid (by simp), Lib.hid (Keep.refl _ _)⟩
  case round =>
    obtain ⟨k, hk, rfl, HN, HK⟩ := hrel
    have H1 := H.out.1
    have HL := Lib.hid H1
    clear H1
    by_cases hlt : k < n
    · obtain ⟨g, off, rfl, c0, c1, c2, c3⟩ := (H.out.keep0 HK.out).at_ hlt
      have hs := mem_take_one l k zeroMem (by rw [HL.out]; exact hlt)
      have hh := idxT_hit (getPr p) l k (by rw [HL.out]; exact hlt) HN.out
      have HS := Lib.hid hs
      have HH := Lib.hid hh
      clear hs hh
      generalize hx : l.getD k zeroMem = x at *
      clear hx
      obtain ⟨a, i, s, m⟩ := x
      simp only at c0 c1 c2 c3
      go_wp2_with fail
      refine (getfn_any ⟨a, i, s, m⟩ p b wr (HK.out.cell C0.out (fun h => h)) (HK.out.cell C1.out (fun h => h))).mono ?_
      rintro e w2 ⟨rfl, hk2⟩
      have HK2 := Lib.hid (keep0_trans _ _ _ HK.out hk2)
      clear hk2
      cases hb : (getPr p) ⟨a, i, s, m⟩
      · have HB := Lib.hid hb
        clear hb
        go_wp2
        go_roundw
        case rel => exact ⟨k + 1, by omega, by go_num, Lib.hid (fun x hx => by exact ((HS.out x).1 hx).elim (HN.out x) (fun h => h ▸ HB.out)), Lib.hid HK2.out⟩
        case measure => simp [intOf]; omega
      · have HB := Lib.hid (HH.out hb)
        clear hb
        go_wp2
        go_ret
        exact ⟨ret_int HB.out.symm, HK2.out⟩
    · obtain rfl : k = n := by omega
      have hall := HN.out
      rw [List.take_of_length_le (by rw [HL.out]; exact Nat.le_refl _)] at hall
      have HB := Lib.hid (idxT_miss _ l hall)
      clear hall
      go_wp2
      go_ret
      exact ⟨ret_int HB.out.symm, HK.out⟩
set_option maxHeartbeats 400000 in
theorem joinfn_any (x : Mem) (w : World) : Calls Try.prog 37 #[memV x] w (Tell (.bool (joinPr x)) w) := by
  obtain ⟨a, i, s, n⟩ := x
  go_enter Try.func37, Try.ntmps37
  go_wp2_with fail
  refine (may_any (a, i) _).mono ?_
  rintro e w1 ⟨rfl, hk⟩
  have hb := (Blk.new w 32 #[.int .i64 a, .int .i64 i, .int .u8 s, .int .i64 n]).keep hk (fun h => h)
  have c2 := hb.cell 2
  simp at c2
  have HK := Lib.hid (keep0_trans _ _ _ ((Keep.refl _ w).alloc _) hk)
  have HO := Lib.hid (show joinPr ⟨a, i, s, n⟩ = !(mayID (a, i) && decide (1 ≤ s ∧ s ≤ 7)) from rfl)
  clear hk hb
  cases hm : mayID (a, i)
  all_goals
    rw [hm] at HO
    clear hm
    go_wp2
  all_goals
    go_ret
    refine ⟨ret_bool ?_, HK.out⟩
    rw [HO.out]
    first | rfl | (rw [stB]; done) | (rw [stB]; simp [‹s < 1›])
set_option maxHeartbeats 1000000 in
theorem joinidx_any  (A : Option Addr) (n c : Nat) (l : List Mem) (w : World) (h : RdMem w A n l) (hn : n ≤ 1000000) :
    Calls Try.prog 28 #[.slice A n c, .func (.func 37) #[] #[]] w (Tell (.int .i64 (idxT joinPr l)) w) := by
  have H := Lib.hid h
  clear h
  go_enter Try.func28, Try.ntmps28
  go_wp2
  go_loopw [8] (fun i wr => ∃ k : Nat, k ≤ n ∧ i = .int .i64 (k : Int) ∧ Hid (∀ x ∈ l.take k, joinPr x = false) ∧ Hid (Keep (fun _ => False) w wr)) (fun i _ => n - (intOf i).toNat)
  case atStart => exact ⟨0, Nat.zero_le _, rfl, Lib.hid (by simp), Lib.hid (Keep.refl _ _)⟩
  case round =>
    obtain ⟨k, hk, rfl, HN, HK⟩ := hrel
    have H1 := H.out.1
    have HL := Lib.hid H1
    clear H1
    by_cases hlt : k < n
    · obtain ⟨g, off, rfl, c0, c1, c2, c3⟩ := (H.out.keep0 HK.out).at_ hlt
      have hs := mem_take_one l k zeroMem (by rw [HL.out]; exact hlt)
      have hh := idxT_hit joinPr l k (by rw [HL.out]; exact hlt) HN.out
      have HS := Lib.hid hs
      have HH := Lib.hid hh
      clear hs hh
      generalize hx : l.getD k zeroMem = x at *
      clear hx
      obtain ⟨a, i, s, m⟩ := x
      simp only at c0 c1 c2 c3
      go_wp2_with fail
      refine (joinfn_any ⟨a, i, s, m⟩ wr).mono ?_
      rintro e w2 ⟨rfl, hk2⟩
      have HK2 := Lib.hid (keep0_trans _ _ _ HK.out hk2)
      clear hk2
      cases hb : joinPr ⟨a, i, s, m⟩
      · have HB := Lib.hid hb
        clear hb
        go_wp2
        go_roundw
        case rel => exact ⟨k + 1, by omega, by go_num, Lib.hid (fun x hx => by exact ((HS.out x).1 hx).elim (HN.out x) (fun h => h ▸ HB.out)), Lib.hid HK2.out⟩
        case measure => simp [intOf]; omega
      · have HB := Lib.hid (HH.out hb)
        clear hb
        go_wp2
        go_ret
        exact ⟨ret_int HB.out.symm, HK2.out⟩
    · obtain rfl : k = n := by omega
      have hall := HN.out
      rw [List.take_of_length_le (by rw [HL.out]; exact Nat.le_refl _)] at hall
      have HB := Lib.hid (idxT_miss _ l hall)
      clear hall
      go_wp2
      go_ret
      exact ⟨ret_int HB.out.symm, HK.out⟩
end Go.Proofs.Ythlfgjlnjmjppaa
