/-
  Roster: At.
-/
import Derived.Test.YthlfgjlnjmjppaaRosD
namespace Go.Proofs.Ythlfgjlnjmjppaa
open Go.RowKit

def atStep (a : Int) (o : Option Mem) (x : Mem) : Option Mem := if x.addr = a ∧ (o = none ∨ ∃ y, o = some y ∧ y.inc < x.inc) then some x else o
/-- the newest member of an address -/
def atT (l : List Mem) (a : Int) : Option Mem := l.foldl (fun o x => match o with
  | none => if x.addr = a then some x else none
  | some y => if x.addr = a ∧ y.inc < x.inc then some x else some y) none
theorem blk_mem {w : World} {g : Nat} {t : TypeId} {a i s m : Int} (h : Blk w g t #[.int .i64 a, .int .i64 i, .int .u8 s, .int .i64 m]) :
    w.cell? ⟨g, 0, none⟩ = some (.int .i64 a) ∧ w.cell? ⟨g, 1, none⟩ = some (.int .i64 i) ∧ w.cell? ⟨g, 2, none⟩ = some (.int .u8 s) ∧ w.cell? ⟨g, 3, none⟩ = some (.int .i64 m) ∧
    w.frozen? ⟨g, 0, none⟩ = false ∧ w.frozen? ⟨g, 1, none⟩ = false ∧ w.frozen? ⟨g, 2, none⟩ = false ∧ w.frozen? ⟨g, 3, none⟩ = false :=
  ⟨h.cell 0, h.cell 1, h.cell 2, h.cell 3, h.frozen 0, h.frozen 1, h.frozen 2, h.frozen 3⟩
theorem blk_mem_set {w : World} {g : Nat} {t : TypeId} {a i s m a' i' s' m' : Int} (h : Blk w g t #[.int .i64 a, .int .i64 i, .int .u8 s, .int .i64 m]) :
    Blk ((((w.setCell ⟨g, 0, none⟩ (.int .i64 a')).setCell ⟨g, 1, none⟩ (.int .i64 i')).setCell ⟨g, 2, none⟩ (.int .u8 s')).setCell ⟨g, 3, none⟩ (.int .i64 m')) g t #[.int .i64 a', .int .i64 i', .int .u8 s', .int .i64 m'] := by
  have := (((h.set_ 0 (.int .i64 a')).set_ 1 (.int .i64 i')).set_ 2 (.int .u8 s')).set_ 3 (.int .i64 m')
  simpa using this

set_option maxHeartbeats 2000000 in
theorem at_any (A : Option Addr) (n c : Nat) (l : List Mem) (ad : Int) (w : World) (h : RdMem w A n l) (hn : n ≤ 1000000) :
    Calls Try.prog 18 #[.slice A n c, .int .i64 ad] w (Tell (optV (atT l ad)) w) := by
  have H := Lib.hid h
  have k1 : Keep (fun _ => False) w ((w.alloc (.cells #[.int .i64 0, .int .i64 0, .int .u8 0, .int .i64 0] 32)).alloc (.cells #[.int .i64 0, .int .i64 0, .int .u8 0, .int .i64 0] 32)) := ((Keep.refl _ w).alloc _).alloc _
  have b0 := (Blk.new w 32 #[.int .i64 0, .int .i64 0, .int .u8 0, .int .i64 0]).alloc (.cells #[.int .i64 0, .int .i64 0, .int .u8 0, .int .i64 0] 32)
  have b1 := Blk.new_ (w := w.alloc (.cells #[.int .i64 0, .int .i64 0, .int .u8 0, .int .i64 0] 32)) (B := w.heap.size + 1) (by simp) 32 #[.int .i64 0, .int .i64 0, .int .u8 0, .int .i64 0]
  have K1 := Lib.hid k1
  have B0 := Lib.hid b0
  have B1 := Lib.hid b1
  clear h k1 b0 b1
  go_enter Try.func18, Try.ntmps18
  go_wp2
  go_loopw [12, 7] (fun i v wr => ∃ (k : Nat) (o : Mem) (f : Bool), k ≤ n ∧ i = .int .i64 (k : Int) ∧ v = .bool f ∧ Hid (atT (l.take k) ad = if f then some o else none) ∧ Hid (f = false → o = zeroMem) ∧ Hid (Keep (fun _ => False) w wr) ∧ Hid (Blk wr w.heap.size 32 #[.int .i64 0, .int .i64 0, .int .u8 0, .int .i64 0]) ∧
      Hid (Blk wr (w.heap.size + 1) 32 #[.int .i64 o.addr, .int .i64 o.inc, .int .u8 o.st, .int .i64 o.no])) (fun i _ _ => n - (intOf i).toNat)
  case atStart => exact ⟨0, zeroMem, false, Nat.zero_le _, rfl, rfl, Lib.hid rfl, Lib.hid (fun _ => rfl), Lib.hid K1.out, Lib.hid B0.out, Lib.hid B1.out⟩
  case round =>
    obtain ⟨k, ⟨oa, oi, os, om⟩, f, hk, rfl, rfl, HT, HZ, HK, HB0, HB1⟩ := hrel
    have HL := Lib.hid H.out.1
    obtain ⟨o0, o1, o2, o3, p0, p1, p2, p3⟩ := blk_mem HB1.out
    have hsz := HB1.out.lt
    by_cases hlt : k < n
    · obtain ⟨g, off, rfl, c0, c1, c2, c3⟩ := (H.out.keep0 HK.out).at_ hlt
      have hl : k < l.length := by rw [HL.out]; exact hlt
      have hs : atT (l.take (k + 1)) ad = (match atT (l.take k) ad with
        | none => if (l.getD k zeroMem).addr = ad then some (l.getD k zeroMem) else none
        | some y => if (l.getD k zeroMem).addr = ad ∧ y.inc < (l.getD k zeroMem).inc then some (l.getD k zeroMem) else some y) := by
        unfold atT
        rw [foldl_take _ _ _ _ hl]
        simp [List.getD, hl]
      rw [HT.out] at hs
      have HS := Lib.hid hs
      clear hs hl
      generalize l.getD k zeroMem = x at *
      obtain ⟨a, i, s, m⟩ := x
      simp only at c0 c1 c2 c3
      by_cases ha : a = ad
      · have e1 : (a == ad) = true := by simpa using ha
        cases f
        · have HS2 : Hid (atT (l.take (k + 1)) ad = some ⟨a, i, s, m⟩) := Lib.hid (by rw [HS.out]; simp [ha])
          clear ha
          go_wp2
          go_roundw
          case rel => exact ⟨k + 1, ⟨a, i, s, m⟩, true, by omega, by go_num, rfl, Lib.hid HS2.out, Lib.hid (by simp), Lib.hid (((((HK.out.new (by simp) _).new (by simp) _).new (by simp) _).new (by simp) _).alloc _), Lib.hid (((((HB0.out.far (by simp) _).far (by simp) _).far (by simp) _).far (by simp) _).alloc _), Lib.hid ((blk_mem_set HB1.out).alloc _)⟩
          case measure => simp [intOf]; omega
        · by_cases hi : oi < i
          · have HS2 : Hid (atT (l.take (k + 1)) ad = some ⟨a, i, s, m⟩) := Lib.hid (by rw [HS.out]; simp [ha, hi])
            clear ha
            go_wp2
            go_roundw
            case rel => exact ⟨k + 1, ⟨a, i, s, m⟩, true, by omega, by go_num, rfl, Lib.hid HS2.out, Lib.hid (by simp), Lib.hid (((((HK.out.new (by simp) _).new (by simp) _).new (by simp) _).new (by simp) _).alloc _), Lib.hid (((((HB0.out.far (by simp) _).far (by simp) _).far (by simp) _).far (by simp) _).alloc _), Lib.hid ((blk_mem_set HB1.out).alloc _)⟩
            case measure => simp [intOf]; omega
          · have HS2 : Hid (atT (l.take (k + 1)) ad = some ⟨oa, oi, os, om⟩) := Lib.hid (by rw [HS.out]; simp [ha, hi])
            clear ha
            go_wp2
            go_roundw
            case rel => exact ⟨k + 1, ⟨oa, oi, os, om⟩, true, by omega, by go_num, rfl, Lib.hid HS2.out, Lib.hid (by simp), Lib.hid (HK.out.alloc _), Lib.hid (HB0.out.alloc _), Lib.hid (HB1.out.alloc _)⟩
            case measure => simp [intOf]; omega
      · have e1 : (a == ad) = false := by simpa using ha
        have HS2 : Hid (atT (l.take (k + 1)) ad = if f then some ⟨oa, oi, os, om⟩ else none) := Lib.hid (by rw [HS.out]; cases f <;> simp [ha])
        clear ha
        go_wp2
        go_roundw
        case rel => exact ⟨k + 1, ⟨oa, oi, os, om⟩, f, by omega, by go_num, rfl, Lib.hid HS2.out, Lib.hid HZ.out, Lib.hid (HK.out.alloc _), Lib.hid (HB0.out.alloc _), Lib.hid (HB1.out.alloc _)⟩
        case measure => simp [intOf]; omega
    · obtain rfl : k = n := by omega
      have hall := HT.out
      rw [List.take_of_length_le (by rw [HL.out]; exact Nat.le_refl _)] at hall
      have HA := Lib.hid hall
      clear hall
      obtain ⟨r0, r1, r2, r3, q0, q1, q2, q3⟩ := blk_mem HB0.out
      have hfin : Hid (optV (atT l ad) = .tuple #[memV ⟨oa, oi, os, om⟩, .bool f]) := Lib.hid (by
        rw [HA.out]
        cases f
        · have := HZ.out rfl; rw [this]; rfl
        · rfl)
      go_wp2
      refine bodyPost_ret (v := .tuple #[memV ⟨oa, oi, os, om⟩, .bool f]) (by simp [results, Try.results18, go_sem, r0, r1, r2, r3]) rfl ⟨by rw [hfin.out], ?_⟩
      exact (((HK.out.new (by simp) _).new (by simp) _).new (by simp) _).new (by simp) _
end Go.Proofs.Ythlfgjlnjmjppaa
