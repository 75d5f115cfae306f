/-
  Roster: Oldest. Written by gen_old.py.
-/
import Derived.Test.YthlfgjlnjmjppaaRosE
import Derived.Test.YthlfgjlnjmjppaaKord
namespace Go.Proofs.Ythlfgjlnjmjppaa
open Go.RowKit
attribute [local irreducible] kAll
attribute [local go_sem] kQuiet kQuietUpon
def oldC (o x : Mem) : Prop := 0 < x.no ∧ (o.no = 0 ∨ x.no < o.no ∨ (x.no = o.no ∧ ltID x.id o.id = true))
instance (o x : Mem) : Decidable (oldC o x) := by unfold oldC; exact inferInstance
def oldStep (o x : Mem) : Mem := if oldC o x then x else o
/-- the member with the least number -/
def oldT (l : List Mem) : Mem := l.foldl oldStep zeroMem
set_option maxRecDepth 100000 in
set_option maxHeartbeats 4000000 in
theorem old_any (A : Option Addr) (n c : Nat) (l : List Mem) (w : World) (h : RdMem w A n l) (hn : n ≤ 1000000) :
    Calls Try.prog 22 #[.slice A n c] w (Tell (.tuple #[memV (oldT l), .bool (decide (0 < (oldT l).no))]) w) := by
  have H := Lib.hid h
  have k1 : Keep (fun _ => False) w ((w.alloc (.cells #[.int .i64 0, .int .i64 0, .int .u8 0, .int .i64 0] 32)).alloc (.cells #[.int .i64 0, .int .i64 0, .int .u8 0, .int .i64 0] 32)) := ((Keep.refl _ w).alloc _).alloc _
  have b0 := (Blk.new w 32 #[.int .i64 0, .int .i64 0, .int .u8 0, .int .i64 0]).alloc (.cells #[.int .i64 0, .int .i64 0, .int .u8 0, .int .i64 0] 32)
  have b1 := Blk.new_ (w := w.alloc (.cells #[.int .i64 0, .int .i64 0, .int .u8 0, .int .i64 0] 32)) (B := w.heap.size + 1) (by simp) 32 #[.int .i64 0, .int .i64 0, .int .u8 0, .int .i64 0]
  have K1 := Lib.hid k1
  have B0 := Lib.hid b0
  have B1 := Lib.hid b1
  have HL := Lib.hid h.1
  clear h k1 b0 b1
  go_enter Try.func22, Try.ntmps22
  go_wp2
  go_loopw [9] (fun i wr => ∃ k : Nat, k ≤ n ∧ i = .int .i64 (k : Int) ∧ Hid (Keep (fun _ => False) w wr) ∧ Hid (Blk wr w.heap.size 32 #[.int .i64 0, .int .i64 0, .int .u8 0, .int .i64 0]) ∧
      Hid (Blk wr (w.heap.size + 1) 32 #[.int .i64 (oldT (l.take k)).addr, .int .i64 (oldT (l.take k)).inc, .int .u8 (oldT (l.take k)).st, .int .i64 (oldT (l.take k)).no])) (fun i _ => n - (intOf i).toNat)
  case atStart => exact ⟨0, Nat.zero_le _, rfl, K1, B0, B1⟩
  case round =>
    obtain ⟨k, hk, rfl, HK, HB0, HB1⟩ := hrel
    have hsz := HB1.out.lt
    by_cases hlt : k < n
    · obtain ⟨g, off, rfl, c0, c1, c2, c3⟩ := (H.out.keep0 HK.out).at_ hlt
      have hl : k < l.length := by rw [HL.out]; exact hlt
      have hs : oldT (l.take (k + 1)) = oldStep (oldT (l.take k)) (l.getD k zeroMem) := by
        unfold oldT
        rw [foldl_take _ _ _ _ hl]
        simp [List.getD, hl]
      have HS := Lib.hid hs
      clear hs hl
      generalize l.getD k zeroMem = x at *
      generalize oldT (l.take k) = o at *
      obtain ⟨a, i, s, m⟩ := x
      obtain ⟨oa, oi, os, om⟩ := o
      simp only at c0 c1 c2 c3 HB1
      obtain ⟨o0, o1, o2, o3, p0, p1, p2, p3⟩ := blk_mem HB1.out
      by_cases h0 : 0 < m
      · by_cases h1 : om = 0
        · subst h1
          have HS2 := Lib.hid (show oldT (l.take (k + 1)) = ⟨a, i, s, m⟩ from HS.out.trans (if_pos ⟨h0, .inl rfl⟩))
          go_wp2
          go_roundw
          case rel => exact ⟨k + 1, by omega, by go_num, Lib.hid (((((HK.out.new (by simp) _).new (by simp) _).new (by simp) _).new (by simp) _).alloc _), Lib.hid (((((HB0.out.far (by simp) _).far (by simp) _).far (by simp) _).far (by simp) _).alloc _), Lib.hid (by rw [HS2.out]; exact (blk_mem_set HB1.out).alloc _)⟩
          case measure => simp [intOf]; omega
        · have e1 : (om == 0) = false := by simpa using h1
          by_cases h2 : m < om
          · have HS2 := Lib.hid (show oldT (l.take (k + 1)) = ⟨a, i, s, m⟩ from HS.out.trans (if_pos ⟨h0, .inr (.inl h2)⟩))
            clear h1
            go_wp2
            go_roundw
            case rel => exact ⟨k + 1, by omega, by go_num, Lib.hid (((((HK.out.new (by simp) _).new (by simp) _).new (by simp) _).new (by simp) _).alloc _), Lib.hid (((((HB0.out.far (by simp) _).far (by simp) _).far (by simp) _).far (by simp) _).alloc _), Lib.hid (by rw [HS2.out]; exact (blk_mem_set HB1.out).alloc _)⟩
            case measure => simp [intOf]; omega
          · by_cases h3 : m = om
            · subst h3
              have BX := Lib.hid (Blk.new wr 32 #[.int .i64 a, .int .i64 i, .int .u8 s, .int .i64 m])
              have KX := Lib.hid ((Keep.refl (fun _ => False) wr).alloc (.cells #[.int .i64 a, .int .i64 i, .int .u8 s, .int .i64 m] 32))
              have H1 := Lib.hid h1
              clear h1
              go_wp2_with fail
              refine (ltID_any (a, i) (oa, oi) _).mono ?_
              rintro e w2 ⟨rfl, hk2⟩
              have HK2 := Lib.hid (keep0_trans _ _ _ HK.out (keep0_trans _ _ _ KX.out hk2))
              have HB02 := Lib.hid (HB0.out.keep (keep0_trans _ _ _ KX.out hk2) (fun h => h))
              have HB12 := Lib.hid (HB1.out.keep (keep0_trans _ _ _ KX.out hk2) (fun h => h))
              have BX2 := Lib.hid (BX.out.keep hk2 (fun h => h))
              clear hk2 o0 o1 o2 o3 p0 p1 p2 p3 c0 c1 c2 c3
              obtain ⟨o0, o1, o2, o3, p0, p1, p2, p3⟩ := blk_mem HB12.out
              obtain ⟨c0, c1, c2, c3, -, -, -, -⟩ := blk_mem BX2.out
              have hsz2 := HB12.out.lt
              have hsz3 := BX2.out.lt
              cases hlt2 : ltID (a, i) (oa, oi)
              · have HS2 := Lib.hid (show oldT (l.take (k + 1)) = ⟨oa, oi, os, m⟩ from HS.out.trans (if_neg (fun q => by rcases q.2 with q | q | q; exact H1.out q; exact absurd q (by simp); have := q.2; rw [show ltID (Mem.id ⟨a, i, s, m⟩) (Mem.id ⟨oa, oi, os, m⟩) = ltID (a, i) (oa, oi) from rfl, hlt2] at this; cases this)))
                clear hlt2
                go_wp2
                go_roundw
                case rel => exact ⟨k + 1, by omega, by go_num, Lib.hid (HK2.out), Lib.hid (HB02.out), Lib.hid (by rw [HS2.out]; exact HB12.out)⟩
                case measure => simp [intOf]; omega
              · have HS2 := Lib.hid (show oldT (l.take (k + 1)) = ⟨a, i, s, m⟩ from HS.out.trans (if_pos ⟨h0, .inr (.inr ⟨rfl, hlt2⟩)⟩))
                clear hlt2
                go_wp2
                go_roundw
                case rel => exact ⟨k + 1, by omega, by go_num, Lib.hid (((((HK2.out.new (by simp) _).new (by simp) _).new (by simp) _).new (by simp) _)), Lib.hid (((((HB02.out.far (by simp) _).far (by simp) _).far (by simp) _).far (by simp) _)), Lib.hid (by rw [HS2.out]; exact blk_mem_set HB12.out)⟩
                case measure => simp [intOf]; omega
            · have e3 : (m == om) = false := by simpa using h3
              have HS2 := Lib.hid (show oldT (l.take (k + 1)) = ⟨oa, oi, os, om⟩ from HS.out.trans (if_neg (fun q => by rcases q.2 with q | q | q; exact h1 q; exact h2 q; exact h3 q.1)))
              clear h1 h3
              go_wp2
              go_roundw
              case rel => exact ⟨k + 1, by omega, by go_num, Lib.hid (HK.out.alloc _), Lib.hid (HB0.out.alloc _), Lib.hid (by rw [HS2.out]; exact HB1.out.alloc _)⟩
              case measure => simp [intOf]; omega
      · have HS2 := Lib.hid (show oldT (l.take (k + 1)) = ⟨oa, oi, os, om⟩ from HS.out.trans (if_neg (fun q => h0 q.1)))
        go_wp2
        go_roundw
        case rel => exact ⟨k + 1, by omega, by go_num, Lib.hid (HK.out.alloc _), Lib.hid (HB0.out.alloc _), Lib.hid (by rw [HS2.out]; exact HB1.out.alloc _)⟩
        case measure => simp [intOf]; omega
    · obtain rfl : n = k := by omega
      have hall : l.take n = l := List.take_of_length_le (by rw [HL.out]; exact Nat.le_refl _)
      rw [hall] at HB1
      clear hall
      generalize oldT l = o at *
      obtain ⟨oa, oi, os, om⟩ := o
      simp only at HB1
      obtain ⟨o0, o1, o2, o3, p0, p1, p2, p3⟩ := blk_mem HB1.out
      obtain ⟨r0, r1, r2, r3, q0, q1, q2, q3⟩ := blk_mem HB0.out
      have hsz4 := HB0.out.lt
      have hne : w.heap.size ≠ w.heap.size + 1 := by omega
      go_wp2_with fail
      go_region
      all_goals
        go_wp2
        refine bodyPost_ret (v := .tuple #[memV ⟨oa, oi, os, om⟩, .bool (decide (0 < om))]) (by simp [results, Try.results22, go_sem, r0, r1, r2, r3]) rfl ⟨rfl, ?_⟩
        first
          | exact ((((HK.out.drew.new (by simp) _).new (by simp) _).new (by simp) _).new (by simp) _)
          | exact ((((HK.out.new (by simp) _).new (by simp) _).new (by simp) _).new (by simp) _).drew
end Go.Proofs.Ythlfgjlnjmjppaa
