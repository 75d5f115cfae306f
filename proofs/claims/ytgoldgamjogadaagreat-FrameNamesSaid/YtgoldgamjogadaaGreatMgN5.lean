/-
  crc: over one text, Sum; frame.sum.
  crc.Sum; frame.sum.
  crc.Bend.
  code.Num: a number behind bytes.
  code.Num: a number behind bytes.
  code.may, code.rise, code.ID, code.IDs.
  frame's writer: put, num, id, ids.
  Views in memory; frame's writer: view.
-/
import Derived.Test.YtgoldgamjogadaaGreatMgN4
import Derived.Laws.IdiomStrings
import Derived.Lib.Strings
import Derived.Lib.ConvBytes
import Derived.Test.YtgoldgamjogadaaGreatMgN1
namespace Go.Proofs.YtgoldgamjogadaaGreat
open Go.RowKit Go
set_option maxRecDepth 100000

def bs (l : Bs) : ByteArray := ⟨l.toArray⟩
theorem bs_data (l : Bs) : (bs l).data.toList = l := by simp [bs]
theorem bs_of (s : ByteArray) : bs s.data.toList = s := by cases s; simp [bs]
theorem bs_size (l : Bs) : (bs l).size = l.length := by simp [bs, ByteArray.size]
theorem bs_toList (l : Bs) : (bs l).toList = l := by rw [Lib.toList_data]; exact bs_data l
theorem bs_cat (a b : Bs) : bs a ++ bs b = bs (a ++ b) := by
  apply ByteArray.ext
  simp [bs]
theorem bs_get (l : Bs) (i : Nat) (h : i < (bs l).size) : (bs l)[i] = l[i]'(by rwa [bs_size] at h) := by
  show (bs l).data[i] = _
  simp [bs]
theorem bs_extract (l : Bs) (a b : Nat) : (bs l).extract a b = bs ((l.drop a).take (b - a)) := by
  apply ByteArray.ext
  rw [ByteArray.data_extract]
  apply Array.toList_inj.1
  simp [bs, List.take_drop]
attribute [local go_sem] bs_toList bs_size bs_get
set_option maxHeartbeats 4000000 in
theorem over_any (x : Nat) (hx : x < 2 ^ 32) (s : Bs) (hs : s.length ≤ 1000000000) (A : Option Addr) (cap : Nat) (w : World) (hA : RdK w 1 A 1 [.string (bs s)]) :
    Calls Tryz.prog 78 #[.int .u32 (x : Int), .slice A 1 cap] w (Tell (.int .u32 (overM x s : Nat)) w) := by
  have HA := Lib.hid hA
  have HX := Lib.hid hx
  clear hA
  go_enter Tryz.func78, Tryz.ntmps78
  go_wp2_with fail
  refine (table_any w).mono ?_
  rintro e W1 ⟨rfl, hk1⟩
  have HK1 := Lib.hid hk1
  clear hk1
  go_upto_region 2 with (refine wpList_store_row rfl 129 _ _ rfl W1.heap.size tabV rfl rfl 129 _ (Blk.new _ _ _) (by rw [tabV_size]; exact infoTab) (by rw [tabV_size]; exact zc_size) tabV_one ?_)
  have hb : Blk ((W1.alloc (.cells Tryz.zeroCells129 129)).setRow W1.heap.size tabV) W1.heap.size 129 tabV := (Blk.new W1 129 _).setRow_ tabV
  have hk : Keep (fun _ => False) W1 ((W1.alloc (.cells Tryz.zeroCells129 129)).setRow W1.heap.size tabV) := ((Keep.refl (fun _ => False) W1).alloc _).trans ((Keep.setRow_ _ _ _).mono fun g hg e => .inr (by rw [e]; exact Nat.le_refl _))
  have HB := Lib.hid hb
  have HK2 := Lib.hid (keep0_trans _ _ _ HK1.out hk)
  clear hb hk
  generalize (W1.alloc (.cells Tryz.zeroCells129 129)).setRow W1.heap.size tabV = W2 at *
  generalize W1.heap.size = b at *
  obtain ⟨g, off, v, rfl, h1, h2⟩ := (HA.out.keep0 HK2.out).2 0 (by decide)
  simp only [List.getElem?_cons_zero, Option.some.injEq] at h1
  subst h1
  rw [Nat.add_zero] at h2
  go_wp2
  go_loopw [12, 0] (fun j y wr => ∃ k : Nat, k ≤ 1 ∧ j = .int .i64 (k : Int) ∧ y = .int .u32 (if k = 0 then (x : Int) else (overM x s : Nat)) ∧ wr = W2) (fun j _ _ => 1 - (intOf j).toNat)
  case atStart => exact ⟨0, by omega, rfl, rfl, rfl⟩
  case round =>
    obtain ⟨k, hk, rfl, rfl, rfl⟩ := hrel
    rcases (by omega : k = 0 ∨ k = 1) with rfl | rfl
    · go_wp2
      go_loopw [18, 0] (fun j y wz => ∃ i : Nat, i ≤ s.length ∧ j = .int .i64 (i : Int) ∧ y = .int .u32 (overM x (s.take i) : Nat) ∧ wz = wr) (fun j _ _ => s.length - (intOf j).toNat)
      case atStart => exact ⟨0, Nat.zero_le _, rfl, rfl, rfl⟩
      case round =>
        obtain ⟨i, hil, rfl, rfl, rfl⟩ := hrel
        have e2 : IntKind.i64.wrap ((i : Int) + 1) = (i : Int) + 1 := IntWalk.i64_in _ (by omega)
        by_cases hlt : i < s.length
        · have q1 : (i : Int) < (s.length : Int) := by omega
          have q2 : (0 : Int) ≤ (i : Int) := by omega
          have hX := over_lt (s.take i) HX.out
          have hn : overM x (s.take (i + 1)) = stepM (overM x (s.take i)) s[i] := by
            rw [List.take_add_one, List.getElem?_eq_getElem hlt]
            exact over_app x _ [s[i]]
          have HN := Lib.hid hn
          obtain ⟨X, hXe⟩ : ∃ X, overM x (s.take i) = X := ⟨_, rfl⟩
          rw [hXe] at hX HN ⊢
          clear hn hXe
          have hc := (s[i]).toNat_lt
          have f1 : IntKind.u8.wrap (X : Int) = ((X % 256 : Nat) : Int) := by rw [IntKind.wrap_u8]; omega
          obtain ⟨Y, hY⟩ : ∃ Y, (X % 256) ^^^ (s[i]).toNat = Y := ⟨_, rfl⟩
          have hY256 : Y < 256 := by rw [← hY]; exact Nat.xor_lt_two_pow (n := 8) (by omega) hc
          have f2 : bits .xor .u8 ((X % 256 : Nat) : Int) ((s[i]).toNat : Int) = (Y : Int) := by rw [u8_xor_nat _ _ (by omega) hc, hY]
          have f2b : bits .xor .u8 ((X : Int) % 256) ((s[i]).toNat : Int) = (Y : Int) := by rw [← f2]; rfl
          have q3 : (0 : Int) ≤ (Y : Int) := by omega
          have q4 : (Y : Int) < 256 := by omega
          have cY := HB.out.cell Y
          rw [tabV_get hY256] at cY
          have hU : uN 8 Y < 2 ^ 32 := uN_lt 8 (by omega)
          have HN2 := Lib.hid (show overM x (s.take (i + 1)) = uN 8 Y ^^^ (X / 256) by rw [HN.out]; unfold stepM; rw [hY])
          obtain ⟨U, hUe⟩ : ∃ U, uN 8 Y = U := ⟨_, rfl⟩
          rw [hUe] at cY hU HN2
          have f3 : bits .xor .u32 (U : Int) ((X : Int) / 256) = ((U ^^^ (X / 256) : Nat) : Int) := by
            have := u32_xor_nat U (X / 256) (by omega) (by omega)
            rw [show ((X / 256 : Nat) : Int) = (X : Int) / 256 by omega] at this
            exact this
          clear hY hUe hc
          go_wp2
          go_roundw
          case rel => exact ⟨i + 1, by omega, by go_num, by rw [HN2.out], trivial⟩
          case measure => simp [intOf]; omega
        · have q1 : ¬ (i : Int) < (s.length : Int) := by omega
          have HE := Lib.hid (show overM x (s.take i) = overM x s by rw [List.take_of_length_le (by omega)])
          rw [HE.out]
          go_wp2
          go_roundw
          case rel => exact ⟨1, by omega, by go_num, rfl, trivial⟩
          case measure => simp [intOf]
    · go_wp2
      go_ret
      exact ⟨rfl, HK2.out⟩
end Go.Proofs.YtgoldgamjogadaaGreat

namespace Go.Proofs.YtgoldgamjogadaaGreat
open Go.RowKit Go
set_option maxRecDepth 100000
attribute [local go_sem] bs_toList bs_size bs_get
theorem sum_any (s : Bs) (hs : s.length ≤ 1000000000) (w : World) : Calls Tryz.prog 45 #[.string (bs s)] w (Tell (.int .u32 (sumM s : Nat)) w) := by
  go_enter Tryz.func45, Tryz.ntmps45
  go_wp2_with fail
  refine (over_any 4294967295 (by decide) s hs _ _ _ (RdK.of_blk (Blk.new w 9 #[.string (bs s)]) 1 1 rfl)).mono ?_
  rintro e W1 ⟨rfl, hk1⟩
  have HK := Lib.hid (keep0_trans _ _ _ ((Keep.refl (fun _ => False) w).alloc (.cells #[.string (bs s)] 9)) hk1)
  have hl := over_lt s (x := 4294967295) (by decide)
  have HS := Lib.hid (show sumM s = overM 4294967295 s ^^^ 4294967295 from rfl)
  clear hk1
  obtain ⟨Y, hY⟩ : ∃ Y, overM 4294967295 s = Y := ⟨_, rfl⟩
  rw [hY] at hl HS ⊢
  clear hY
  have hsg : IntKind.u32.signed = false := rfl
  have f1 : bits .xor .u32 IntKind.u32.max (Y : Int) = ((Y ^^^ 4294967295 : Nat) : Int) := by
    have := u32_xor_nat 4294967295 Y (by decide) hl
    rw [Nat.xor_comm] at this
    exact this
  go_wp2
  go_ret
  exact ⟨by rw [HS.out]; rfl, HK.out⟩
theorem byte_at {n : Nat} (h : n < 256) : ((UInt8.ofNat n).toNat : Int) = (n : Int) := by rw [UInt8.toNat_ofNat']; omega
theorem conv4 (W : World) (Y : Nat) : (convert 69 9 (.slice (some ⟨W.heap.size, 0, none⟩) 4 4)).run Tryz.prog (W.alloc (.cells #[.int .u8 ((Y : Int) % 256), .int .u8 ((Y : Int) / 256 % 256), .int .u8 ((Y : Int) / 65536 % 256), .int .u8 ((Y : Int) / 16777216 % 256)] 92)) =
    .ok (.string (bs (le4 Y))) (W.alloc (.cells #[.int .u8 ((Y : Int) % 256), .int .u8 ((Y : Int) / 256 % 256), .int .u8 ((Y : Int) / 65536 % 256), .int .u8 ((Y : Int) / 16777216 % 256)] 92)) := by
  have hb := Blk.new W 92 #[.int .u8 ((Y : Int) % 256), .int .u8 ((Y : Int) / 256 % 256), .int .u8 ((Y : Int) / 65536 % 256), .int .u8 ((Y : Int) / 16777216 % 256)]
  refine run_convert_bytes_back _ 69 9 5 ⟨W.heap.size, 0, none⟩ 4 (le4 Y) Tryz.underlying69 Tryz.underlying5 Tryz.underlying9 (fun j hj => ?_)
  rw [Addr.add_lit, hb.cell]
  have hj4 : j < 4 := hj
  rcases (by omega : j = 0 ∨ j = 1 ∨ j = 2 ∨ j = 3) with rfl | rfl | rfl | rfl
  · show some (Value.int .u8 ((Y : Int) % 256)) = some (.int .u8 ((UInt8.ofNat (Y % 256)).toNat : Int))
    rw [byte_at (Nat.mod_lt _ (by decide))]; rfl
  · show some (Value.int .u8 ((Y : Int) / 256 % 256)) = some (.int .u8 ((UInt8.ofNat (Y / 256 % 256)).toNat : Int))
    rw [byte_at (Nat.mod_lt _ (by decide))]; rfl
  · show some (Value.int .u8 ((Y : Int) / 65536 % 256)) = some (.int .u8 ((UInt8.ofNat (Y / 65536 % 256)).toNat : Int))
    rw [byte_at (Nat.mod_lt _ (by decide))]; rfl
  · show some (Value.int .u8 ((Y : Int) / 16777216 % 256)) = some (.int .u8 ((UInt8.ofNat (Y / 16777216 % 256)).toNat : Int))
    rw [byte_at (Nat.mod_lt _ (by decide))]; rfl
theorem fsum_any (s : Bs) (hs : s.length ≤ 1000000000) (w : World) : Calls Tryz.prog 26 #[.string (bs s)] w (Tell (.string (bs (le4 (sumM s)))) w) := by
  go_enter Tryz.func26, Tryz.ntmps26
  go_wp2_with fail
  refine (sum_any s hs w).mono ?_
  rintro e W1 ⟨rfl, hk1⟩
  have HK1 := Lib.hid hk1
  have hl := sum_lt s
  clear hk1
  obtain ⟨Y, hY⟩ : ∃ Y, sumM s = Y := ⟨_, rfl⟩
  have HY := Lib.hid hY
  rw [hY] at hl ⊢
  clear hY
  have f0 : IntKind.u8.wrap (Y : Int) = ((Y % 256 : Nat) : Int) := by rw [IntKind.wrap_u8]; omega
  have f1 : IntKind.u8.wrap ((Y : Int) / 256) = ((Y / 256 % 256 : Nat) : Int) := by rw [IntKind.wrap_u8]; omega
  have f2 : IntKind.u8.wrap ((Y : Int) / 65536) = ((Y / 65536 % 256 : Nat) : Int) := by rw [IntKind.wrap_u8]; omega
  have f3 : IntKind.u8.wrap ((Y : Int) / 16777216) = ((Y / 16777216 % 256 : Nat) : Int) := by rw [IntKind.wrap_u8]; omega
  have hcv := conv4 W1 Y
  clear hl
  go_wp2
  go_ret
  exact ⟨by rw [HY.out]; rfl, keep0_trans _ _ _ HK1.out ((Keep.refl _ _).alloc _)⟩
end Go.Proofs.YtgoldgamjogadaaGreat

namespace Go.Proofs.YtgoldgamjogadaaGreat
open Go.RowKit Go
set_option maxRecDepth 100000
attribute [local go_sem] bs_toList bs_size bs_get
attribute [local irreducible] kAll
attribute [local go_sem] kQuiet kQuietUpon

/-- bytes in a block -/
def BA (w : World) (g : Nat) (l : Bs) : Prop := ∃ cs fr, w.heap[g]? = some (.cells cs 5 fr) ∧ l.length ≤ fr.1 ∧ ∀ j (hj : j < l.length), cs[j]? = some (.int .u8 (l[j].toNat : Int))
theorem BA.cell {w : World} {g : Nat} {l : Bs} (h : BA w g l) {j : Nat} (hj : j < l.length) : w.cell? ⟨g, j, none⟩ = some (.int .u8 (l[j].toNat : Int)) := by
  obtain ⟨cs, fr, h1, _, h2⟩ := h
  rw [← h2 j hj]
  simp [World.cell?, h1]
theorem BA.frozen {w : World} {g : Nat} {l : Bs} (h : BA w g l) {j : Nat} (hj : j < l.length) : w.frozen? ⟨g, j, none⟩ = false := by
  obtain ⟨cs, ⟨lo, hi⟩, h1, h2, _⟩ := h
  have h2 : l.length ≤ lo := h2
  have h3 : ¬ lo ≤ j := by omega
  simp [World.frozen?, h1, h3]
theorem BA.keep0 {w w' : World} {g : Nat} {l : Bs} (h : BA w g l) (hk : Keep (fun _ => False) w w') : BA w' g l := by
  obtain ⟨cs, fr, h1, h2⟩ := h
  exact ⟨cs, fr, hk.heap h1 (fun h => h), h2⟩
theorem BA.set {w : World} {g : Nat} {l : Bs} (h : BA w g l) (j : Nat) (b : UInt8) : BA (w.setCell ⟨g, j, none⟩ (.int .u8 (b.toNat : Int))) g (l.set j b) := by
  obtain ⟨cs, fr, h1, h2, h3⟩ := h
  refine ⟨cs.setIfInBounds j (.int .u8 (b.toNat : Int)), fr, by simp [World.setCell, Array.getElem?_modify, h1], by rw [List.length_set]; exact h2, fun k hk => ?_⟩
  rw [List.length_set] at hk
  have hcs := h3 k hk
  have hlt : k < cs.size := (Array.getElem?_eq_some_iff.1 hcs).1
  by_cases e : j = k
  · subst e
    rw [Array.getElem?_setIfInBounds_self_of_lt hlt, List.getElem_set_self]
  · rw [Array.getElem?_setIfInBounds_ne e, List.getElem_set_ne e, hcs]
def byteK (x k : Nat) : UInt8 := UInt8.ofNat (x / 2 ^ (8 * k) % 256)
def bendS (l : Bs) (at_ : Int) (x k : Nat) : Bs := if at_ < l.length ∧ 0 ≤ at_ + k ∧ at_ + k < l.length then l.set (at_ + k).toNat (l.getD (at_ + k).toNat 0 ^^^ byteK x k) else l
def bendM (s : Bs) (at_ : Int) (x : Nat) : Nat → Bs
  | 0 => s
  | k + 1 => bendS (bendM s at_ x k) at_ x k
theorem bendS_len (l : Bs) (at_ : Int) (x k : Nat) : (bendS l at_ x k).length = l.length := by unfold bendS; split <;> simp
theorem bend_len (s : Bs) (at_ : Int) (x : Nat) : ∀ k, (bendM s at_ x k).length = s.length
  | 0 => rfl
  | k + 1 => (bendS_len _ _ _ _).trans (bend_len s at_ x k)
theorem keep_bytes (w : World) (s : ByteArray) : Keep (fun _ => False) w (Lib.bytesWorld w 5 s) :=
  ⟨rfl, rfl, rfl, by rw [Lib.bytesWorld_size]; omega, fun k hk _ => Lib.bytesWorld_at_old w _ s k hk⟩
theorem ba_bytes (w : World) (s : Bs) : BA (Lib.bytesWorld w 5 (bs s)) w.heap.size s := by
  refine ⟨_, _, Lib.bytesWorld_at_new w 5 (bs s), ?_, fun j hj => ?_⟩
  · show s.length ≤ (Lib.bytesCells w 5 (bs s)).size
    unfold Lib.bytesCells
    simp [bs]
  · have h := Lib.bytesWorld_cell w 5 (bs s) j (by rw [bs_size]; exact hj)
    simp only [World.cell?, Lib.bytesWorld_at_new] at h
    have e : (bs s).data.toList.getD j 0 = s[j] := by rw [bs_data]; simp [List.getD, List.getElem?_eq_getElem hj]
    rw [e] at h
    simpa using h
theorem byteK_nat (x k : Nat) : ((byteK x k).toNat : Int) = ((x / 2 ^ (8 * k) % 256 : Nat) : Int) := byte_at (Nat.mod_lt _ (by decide))
set_option maxHeartbeats 8000000 in
theorem bend_any (s : Bs) (hs : s.length ≤ 1000000000) (at_ : Int) (hat : -9223372036854775808 ≤ at_) (x : Nat) (hx : x < 2 ^ 32) (w : World) :
    Calls Tryz.prog 12 #[.string (bs s), .int .i64 at_, .int .u32 (x : Int)] w (Tell (.string (bs (bendM s at_ x 4))) w) := by
  have hcv := Lib.run_convert_string_bytes (P := Tryz.prog) w 9 69 5 (bs s) Tryz.underlying9 Tryz.underlying69 Tryz.underlying5
  rw [bs_size] at hcv
  have HK1 := Lib.hid (keep_bytes w (bs s))
  have HB1 := Lib.hid (ba_bytes w s)
  generalize grownCap w s.length 0 5 = cap at hcv
  generalize Lib.bytesWorld w 5 (bs s) = W1 at hcv HK1 HB1
  obtain ⟨g, hg⟩ : ∃ g, w.heap.size = g := ⟨_, rfl⟩
  have HG := Lib.hid hg
  rw [hg] at hcv HB1
  clear hg
  have HX := Lib.hid hx
  clear hx
  go_enter Tryz.func12, Tryz.ntmps12
  go_wp2
  clear hcv
  go_loopw [12] (fun j wr => ∃ k : Nat, k ≤ 4 ∧ j = .int .i64 (k : Int) ∧ Hid (BA wr g (bendM s at_ x k)) ∧ Hid (Keep (fun q => g = q) W1 wr)) (fun j _ => 4 - (intOf j).toNat)
  case atStart => exact ⟨0, by omega, rfl, HB1, Lib.hid (Keep.refl _ _)⟩
  case round =>
    obtain ⟨k, hk, rfl, HBA, HKk⟩ := hrel
    have e2 : IntKind.i64.wrap ((k : Int) + 1) = (k : Int) + 1 := IntWalk.i64_in _ (by omega)
    have hln := bend_len s at_ x k
    have HSt := Lib.hid (show bendM s at_ x (k + 1) = bendS (bendM s at_ x k) at_ x k from rfl)
    by_cases hk4 : k < 4
    · have q0 : (k : Int) < 4 := by omega
      by_cases ha : at_ < (s.length : Int)
      case neg =>
        have HN := Lib.hid (show bendM s at_ x (k + 1) = bendM s at_ x k by rw [HSt.out]; exact if_neg (fun h => by have := h.1; omega))
        clear hln
        go_wp2
        go_roundw
        case rel => exact ⟨k + 1, by omega, by go_num, Lib.hid (by rw [HN.out]; exact HBA.out), HKk⟩
        case measure => simp [intOf]; omega
      have e3 : IntKind.i64.wrap (at_ + (k : Int)) = at_ + (k : Int) := IntWalk.i64_in _ (by omega)
      obtain ⟨i, hi⟩ : ∃ i, at_ + (k : Int) = i := ⟨_, rfl⟩
      rw [hi] at e3
      have HE3 := Lib.hid (show IntKind.i64.wrap (at_ + (k : Int)) = i by rw [hi]; exact e3)
      clear e3
      by_cases hin : 0 ≤ i ∧ i < (s.length : Int)
      case neg =>
        have HN := Lib.hid (show bendM s at_ x (k + 1) = bendM s at_ x k by rw [HSt.out]; exact if_neg (fun h => by have := h.2; omega))
        have hor : i < 0 ∨ (0 ≤ i ∧ (s.length : Int) ≤ i) := by omega
        clear hln hin
        have e3 := HE3.out
        rcases hor with h0 | ⟨h0, h1⟩
        all_goals
          go_wp2
          go_roundw
          case rel => exact ⟨k + 1, by omega, by go_num, Lib.hid (by rw [HN.out]; exact HBA.out), HKk⟩
          case measure => simp [intOf]; omega
      obtain ⟨h0, h1⟩ := hin
      obtain ⟨n, hn⟩ : ∃ n : Nat, i = n := ⟨i.toNat, by omega⟩
      subst hn
      have hil : n < (bendM s at_ x k).length := by rw [hln]; omega
      obtain ⟨c, hc⟩ : ∃ c, (bendM s at_ x k)[n] = c := ⟨_, rfl⟩
      have HCi := Lib.hid hc
      have HN := Lib.hid (show bendM s at_ x (k + 1) = (bendM s at_ x k).set n (c ^^^ byteK x k) by
        rw [HSt.out]
        unfold bendS
        rw [if_pos (by rw [hln]; omega), hi, Int.toNat_natCast, ← hc]
        simp [List.getD, List.getElem?_eq_getElem hil])
      have hct := c.toNat_lt
      have hxx := HX.out
      have b1 := byteK_nat x k
      have b2 := (byteK x k).toNat_lt
      have f2 : bits .xor .u8 (c.toNat : Int) ((byteK x k).toNat : Int) = ((c ^^^ byteK x k).toNat : Int) := by rw [u8_xor_nat _ _ hct b2, UInt8.toNat_xor]
      obtain ⟨bk, hbk⟩ : ∃ b, byteK x k = b := ⟨_, rfl⟩
      rw [hbk] at b1 f2 HN
      clear hc hln hbk hi
      rcases (by omega : k = 0 ∨ k = 1 ∨ k = 2 ∨ k = 3) with rfl | rfl | rfl | rfl
      · have f1 : IntKind.u8.wrap ((x : Int)) = (bk.toNat : Int) := by rw [b1, IntKind.wrap_u8]; omega
        have e3 : IntKind.i64.wrap (at_) = (n : Int) := by have := HE3.out; simpa using this
        have w8 : IntKind.i64.wrap 0 = 0 := IntWalk.i64_in _ (by decide)
        clear b1
        go_wp2_with fail
        refine wp_region_krip (Keep (fun _ => False)) (Keep.refl _) keep0_trans 10 (by kernel_rfl) (by kernel_rfl) (Ts := [none, none, none, some (.inl (.int .u8 (c.toNat : Int))), none, none, none, none, none, none]) ?_
        simp only [List.take, List.drop]
        refine kAll_p (fun K hK => ?_)
        go_simp
        generalize hZ : (Act.mk _ _) = Z
        refine hK Z ?_
        subst hZ
        clear hK K
        refine kAll_p (fun K hK => ?_)
        go_simp
        generalize hZ : (Act.mk _ _) = Z
        refine hK Z ?_
        subst hZ
        clear hK K
        refine kAll_p (fun K hK => ?_)
        go_simp
        generalize hZ : (Act.mk _ _) = Z
        refine hK Z ?_
        subst hZ
        clear hK K
        refine kAll_dn _ (fun W hW hF => kStep_of fun K Q hK => ?_) (fun K hK => ?_)
        · have q := (HBA.out.keep0 (keepD (Keep.refl _ _) hW)).cell hil
          rw [HCi.out] at q
          go_simp
          exact hK _ _ (Keep.refl _ _) rfl
        go_simp
        generalize hZ : (Act.mk _ _) = Z
        refine hK Z ?_
        subst hZ
        clear hK K
        refine kAll_p (fun K hK => ?_)
        go_simp
        generalize hZ : (Act.mk _ _) = Z
        refine hK Z ?_
        subst hZ
        clear hK K
        refine kAll_p (fun K hK => ?_)
        go_simp
        generalize hZ : (Act.mk _ _) = Z
        refine hK Z ?_
        subst hZ
        clear hK K
        refine kAll_p (fun K hK => ?_)
        go_simp
        generalize hZ : (Act.mk _ _) = Z
        refine hK Z ?_
        subst hZ
        clear hK K
        refine kAll_p (fun K hK => ?_)
        go_simp
        generalize hZ : (Act.mk _ _) = Z
        refine hK Z ?_
        subst hZ
        clear hK K
        refine kAll_p (fun K hK => ?_)
        go_simp
        generalize hZ : (Act.mk _ _) = Z
        refine hK Z ?_
        subst hZ
        clear hK K
        refine kAll_p (fun K hK => ?_)
        go_simp
        generalize hZ : (Act.mk _ _) = Z
        refine hK Z ?_
        subst hZ
        clear hK K
        refine kAll_nil (fun W hW hF => ?_)
        have HKq := Lib.hid (keepD (Keep.refl _ _) hW)
        have hba := HBA.out.keep0 HKq.out
        have cn := hba.cell hil
        rw [HCi.out] at cn
        have fn := hba.frozen hil
        have hs2 := hba.set n (c ^^^ bk)
        have HB2 := Lib.hid hs2
        have HK2 := Lib.hid ((HKk.out.trans (HKq.out.mono fun _ _ h => h.elim)).trans (((Keep.refl (fun q => g = q) W).setCell (p := ⟨g, n, none⟩) (fun _ => rfl) (.int .u8 ((c ^^^ bk).toNat : Int))).mono fun q _ e => .inl e))
        clear hF hW hba hs2
        go_wp2
        go_roundw
        case rel => exact ⟨0 + 1, by omega, by go_num, Lib.hid (by rw [HN.out]; exact HB2.out), HK2⟩
        case measure => simp [intOf]
      · have f1 : IntKind.u8.wrap ((x : Int) / 256) = (bk.toNat : Int) := by rw [b1, IntKind.wrap_u8]; omega
        have e3 : IntKind.i64.wrap (at_ + 1) = (n : Int) := by have := HE3.out; simpa using this
        have w8 : IntKind.i64.wrap 8 = 8 := IntWalk.i64_in _ (by decide)
        clear b1
        go_wp2_with fail
        refine wp_region_krip (Keep (fun _ => False)) (Keep.refl _) keep0_trans 10 (by kernel_rfl) (by kernel_rfl) (Ts := [none, none, none, some (.inl (.int .u8 (c.toNat : Int))), none, none, none, none, none, none]) ?_
        simp only [List.take, List.drop]
        refine kAll_p (fun K hK => ?_)
        go_simp
        generalize hZ : (Act.mk _ _) = Z
        refine hK Z ?_
        subst hZ
        clear hK K
        refine kAll_p (fun K hK => ?_)
        go_simp
        generalize hZ : (Act.mk _ _) = Z
        refine hK Z ?_
        subst hZ
        clear hK K
        refine kAll_p (fun K hK => ?_)
        go_simp
        generalize hZ : (Act.mk _ _) = Z
        refine hK Z ?_
        subst hZ
        clear hK K
        refine kAll_dn _ (fun W hW hF => kStep_of fun K Q hK => ?_) (fun K hK => ?_)
        · have q := (HBA.out.keep0 (keepD (Keep.refl _ _) hW)).cell hil
          rw [HCi.out] at q
          go_simp
          exact hK _ _ (Keep.refl _ _) rfl
        go_simp
        generalize hZ : (Act.mk _ _) = Z
        refine hK Z ?_
        subst hZ
        clear hK K
        refine kAll_p (fun K hK => ?_)
        go_simp
        generalize hZ : (Act.mk _ _) = Z
        refine hK Z ?_
        subst hZ
        clear hK K
        refine kAll_p (fun K hK => ?_)
        go_simp
        generalize hZ : (Act.mk _ _) = Z
        refine hK Z ?_
        subst hZ
        clear hK K
        refine kAll_p (fun K hK => ?_)
        go_simp
        generalize hZ : (Act.mk _ _) = Z
        refine hK Z ?_
        subst hZ
        clear hK K
        refine kAll_p (fun K hK => ?_)
        go_simp
        generalize hZ : (Act.mk _ _) = Z
        refine hK Z ?_
        subst hZ
        clear hK K
        refine kAll_p (fun K hK => ?_)
        go_simp
        generalize hZ : (Act.mk _ _) = Z
        refine hK Z ?_
        subst hZ
        clear hK K
        refine kAll_p (fun K hK => ?_)
        go_simp
        generalize hZ : (Act.mk _ _) = Z
        refine hK Z ?_
        subst hZ
        clear hK K
        refine kAll_nil (fun W hW hF => ?_)
        have HKq := Lib.hid (keepD (Keep.refl _ _) hW)
        have hba := HBA.out.keep0 HKq.out
        have cn := hba.cell hil
        rw [HCi.out] at cn
        have fn := hba.frozen hil
        have hs2 := hba.set n (c ^^^ bk)
        have HB2 := Lib.hid hs2
        have HK2 := Lib.hid ((HKk.out.trans (HKq.out.mono fun _ _ h => h.elim)).trans (((Keep.refl (fun q => g = q) W).setCell (p := ⟨g, n, none⟩) (fun _ => rfl) (.int .u8 ((c ^^^ bk).toNat : Int))).mono fun q _ e => .inl e))
        clear hF hW hba hs2
        go_wp2
        go_roundw
        case rel => exact ⟨1 + 1, by omega, by go_num, Lib.hid (by rw [HN.out]; exact HB2.out), HK2⟩
        case measure => simp [intOf]
      · have f1 : IntKind.u8.wrap ((x : Int) / 65536) = (bk.toNat : Int) := by rw [b1, IntKind.wrap_u8]; omega
        have e3 : IntKind.i64.wrap (at_ + 2) = (n : Int) := by have := HE3.out; simpa using this
        have w8 : IntKind.i64.wrap 16 = 16 := IntWalk.i64_in _ (by decide)
        clear b1
        go_wp2_with fail
        refine wp_region_krip (Keep (fun _ => False)) (Keep.refl _) keep0_trans 10 (by kernel_rfl) (by kernel_rfl) (Ts := [none, none, none, some (.inl (.int .u8 (c.toNat : Int))), none, none, none, none, none, none]) ?_
        simp only [List.take, List.drop]
        refine kAll_p (fun K hK => ?_)
        go_simp
        generalize hZ : (Act.mk _ _) = Z
        refine hK Z ?_
        subst hZ
        clear hK K
        refine kAll_p (fun K hK => ?_)
        go_simp
        generalize hZ : (Act.mk _ _) = Z
        refine hK Z ?_
        subst hZ
        clear hK K
        refine kAll_p (fun K hK => ?_)
        go_simp
        generalize hZ : (Act.mk _ _) = Z
        refine hK Z ?_
        subst hZ
        clear hK K
        refine kAll_dn _ (fun W hW hF => kStep_of fun K Q hK => ?_) (fun K hK => ?_)
        · have q := (HBA.out.keep0 (keepD (Keep.refl _ _) hW)).cell hil
          rw [HCi.out] at q
          go_simp
          exact hK _ _ (Keep.refl _ _) rfl
        go_simp
        generalize hZ : (Act.mk _ _) = Z
        refine hK Z ?_
        subst hZ
        clear hK K
        refine kAll_p (fun K hK => ?_)
        go_simp
        generalize hZ : (Act.mk _ _) = Z
        refine hK Z ?_
        subst hZ
        clear hK K
        refine kAll_p (fun K hK => ?_)
        go_simp
        generalize hZ : (Act.mk _ _) = Z
        refine hK Z ?_
        subst hZ
        clear hK K
        refine kAll_p (fun K hK => ?_)
        go_simp
        generalize hZ : (Act.mk _ _) = Z
        refine hK Z ?_
        subst hZ
        clear hK K
        refine kAll_p (fun K hK => ?_)
        go_simp
        generalize hZ : (Act.mk _ _) = Z
        refine hK Z ?_
        subst hZ
        clear hK K
        refine kAll_p (fun K hK => ?_)
        go_simp
        generalize hZ : (Act.mk _ _) = Z
        refine hK Z ?_
        subst hZ
        clear hK K
        refine kAll_p (fun K hK => ?_)
        go_simp
        generalize hZ : (Act.mk _ _) = Z
        refine hK Z ?_
        subst hZ
        clear hK K
        refine kAll_nil (fun W hW hF => ?_)
        have HKq := Lib.hid (keepD (Keep.refl _ _) hW)
        have hba := HBA.out.keep0 HKq.out
        have cn := hba.cell hil
        rw [HCi.out] at cn
        have fn := hba.frozen hil
        have hs2 := hba.set n (c ^^^ bk)
        have HB2 := Lib.hid hs2
        have HK2 := Lib.hid ((HKk.out.trans (HKq.out.mono fun _ _ h => h.elim)).trans (((Keep.refl (fun q => g = q) W).setCell (p := ⟨g, n, none⟩) (fun _ => rfl) (.int .u8 ((c ^^^ bk).toNat : Int))).mono fun q _ e => .inl e))
        clear hF hW hba hs2
        go_wp2
        go_roundw
        case rel => exact ⟨2 + 1, by omega, by go_num, Lib.hid (by rw [HN.out]; exact HB2.out), HK2⟩
        case measure => simp [intOf]
      · have f1 : IntKind.u8.wrap ((x : Int) / 16777216) = (bk.toNat : Int) := by rw [b1, IntKind.wrap_u8]; omega
        have e3 : IntKind.i64.wrap (at_ + 3) = (n : Int) := by have := HE3.out; simpa using this
        have w8 : IntKind.i64.wrap 24 = 24 := IntWalk.i64_in _ (by decide)
        clear b1
        go_wp2_with fail
        refine wp_region_krip (Keep (fun _ => False)) (Keep.refl _) keep0_trans 10 (by kernel_rfl) (by kernel_rfl) (Ts := [none, none, none, some (.inl (.int .u8 (c.toNat : Int))), none, none, none, none, none, none]) ?_
        simp only [List.take, List.drop]
        refine kAll_p (fun K hK => ?_)
        go_simp
        generalize hZ : (Act.mk _ _) = Z
        refine hK Z ?_
        subst hZ
        clear hK K
        refine kAll_p (fun K hK => ?_)
        go_simp
        generalize hZ : (Act.mk _ _) = Z
        refine hK Z ?_
        subst hZ
        clear hK K
        refine kAll_p (fun K hK => ?_)
        go_simp
        generalize hZ : (Act.mk _ _) = Z
        refine hK Z ?_
        subst hZ
        clear hK K
        refine kAll_dn _ (fun W hW hF => kStep_of fun K Q hK => ?_) (fun K hK => ?_)
        · have q := (HBA.out.keep0 (keepD (Keep.refl _ _) hW)).cell hil
          rw [HCi.out] at q
          go_simp
          exact hK _ _ (Keep.refl _ _) rfl
        go_simp
        generalize hZ : (Act.mk _ _) = Z
        refine hK Z ?_
        subst hZ
        clear hK K
        refine kAll_p (fun K hK => ?_)
        go_simp
        generalize hZ : (Act.mk _ _) = Z
        refine hK Z ?_
        subst hZ
        clear hK K
        refine kAll_p (fun K hK => ?_)
        go_simp
        generalize hZ : (Act.mk _ _) = Z
        refine hK Z ?_
        subst hZ
        clear hK K
        refine kAll_p (fun K hK => ?_)
        go_simp
        generalize hZ : (Act.mk _ _) = Z
        refine hK Z ?_
        subst hZ
        clear hK K
        refine kAll_p (fun K hK => ?_)
        go_simp
        generalize hZ : (Act.mk _ _) = Z
        refine hK Z ?_
        subst hZ
        clear hK K
        refine kAll_p (fun K hK => ?_)
        go_simp
        generalize hZ : (Act.mk _ _) = Z
        refine hK Z ?_
        subst hZ
        clear hK K
        refine kAll_p (fun K hK => ?_)
        go_simp
        generalize hZ : (Act.mk _ _) = Z
        refine hK Z ?_
        subst hZ
        clear hK K
        refine kAll_nil (fun W hW hF => ?_)
        have HKq := Lib.hid (keepD (Keep.refl _ _) hW)
        have hba := HBA.out.keep0 HKq.out
        have cn := hba.cell hil
        rw [HCi.out] at cn
        have fn := hba.frozen hil
        have hs2 := hba.set n (c ^^^ bk)
        have HB2 := Lib.hid hs2
        have HK2 := Lib.hid ((HKk.out.trans (HKq.out.mono fun _ _ h => h.elim)).trans (((Keep.refl (fun q => g = q) W).setCell (p := ⟨g, n, none⟩) (fun _ => rfl) (.int .u8 ((c ^^^ bk).toNat : Int))).mono fun q _ e => .inl e))
        clear hF hW hba hs2
        go_wp2
        go_roundw
        case rel => exact ⟨3 + 1, by omega, by go_num, Lib.hid (by rw [HN.out]; exact HB2.out), HK2⟩
        case measure => simp [intOf]
    · obtain rfl : k = 4 := by omega
      have HL := Lib.hid (bend_len s at_ x 4)
      have hcv2 : (convert 69 9 (.slice (some ⟨g, 0, none⟩) s.length cap)).run Tryz.prog wr = .ok (.string (bs (bendM s at_ x 4))) wr := by
        have := run_convert_bytes_back wr 69 9 5 ⟨g, 0, none⟩ cap (bendM s at_ x 4) Tryz.underlying69 Tryz.underlying5 Tryz.underlying9 (fun j hj => by rw [Addr.add_lit, Nat.zero_add]; exact HBA.out.cell hj)
        rw [bend_len] at this
        exact this
      clear hln
      go_wp2
      go_ret
      exact ⟨rfl, HK1.out.trans (HKk.out.mono fun q _ e => .inr (by have := HG.out; omega))⟩
end Go.Proofs.YtgoldgamjogadaaGreat

namespace Go.Proofs.YtgoldgamjogadaaGreat
open Go.RowKit Go
set_option maxRecDepth 100000
attribute [local go_sem] bs_toList bs_size bs_get

/-- bytes in memory of the call's own (from block b0 on), that may be written behind -/
def SlB (b0 : Nat) (w : World) (v : Value) (l : Bs) : Prop := ∃ g c cur fr, v = .slice (some ⟨g, 0, none⟩) l.length c ∧ b0 ≤ g ∧ w.heap[g]? = some (.cells cur 5 fr) ∧ (c ≤ fr.1 ∨ fr.2 = 0) ∧ l.length ≤ c ∧ c ≤ cur.size ∧ c ≤ maxLen ∧ ∀ j (hj : j < l.length), cur[j]? = some (.int .u8 (l[j].toNat : Int))
def byV (l : Bs) : List Value := l.map fun x => .int .u8 (x.toNat : Int)
theorem SlB.cells {b0 : Nat} {w : World} {g c : Nat} {l : Bs} {cur : Array Value} {fr : Nat × Nat} (hb : w.heap[g]? = some (.cells cur 5 fr)) (h : ∀ j (hj : j < l.length), cur[j]? = some (.int .u8 (l[j].toNat : Int))) (_hc : b0 ≤ g) (_hl : l.length ≤ c) :
    ∀ j u, (byV l)[j]? = some u → w.cell? ((⟨g, 0, none⟩ : Addr).add j) = some u := fun j u hu => by
  have hj : j < l.length := by have := (List.getElem?_eq_some_iff.1 hu).1; simpa [byV] using this
  rw [Addr.add_lit, Nat.zero_add]
  unfold byV at hu
  rw [List.getElem?_map, List.getElem?_eq_getElem hj] at hu
  simp only [Option.map_some, Option.some.injEq] at hu
  subst hu
  rw [← h j hj]
  simp [World.cell?, hb]
theorem run_append_b {P : Program} (t ty : TypeId) (i : TypeInfo) (ht : P.underlying t = some (.slice 5)) (hi : P.info? 5 = some i) (hz : i.zero = some (.int .u8 0)) (hsize : i.size = 1) (hby : i.bytes = 1)
    {b0 : Nat} {w : World} {v : Value} {l : Bs} (h : SlB b0 w v l) (hb0 : b0 ≤ w.heap.size) (hl : l.length ≤ 2000000000) (x : UInt8) {g1 c1 : Nat} (hb1 : Blk w g1 5 #[.int .u8 (x.toNat : Int)]) :
    ∃ v' w', (Builtin.append_ #[t, t] ty #[v, .slice (some ⟨g1, 0, none⟩) 1 c1]).run P w = .ok v' w' ∧ SlB b0 w' v' (l ++ [x]) ∧ Keep (fun g => b0 ≤ g) w w' := by
  obtain ⟨g, c, cur, fr, rfl, hg, hb, hfr, hlc, hcs, hcm, hcur⟩ := h
  have hnews : ∀ j u, ([Value.int .u8 (x.toNat : Int)])[j]? = some u → w.cell? ((⟨g1, 0, none⟩ : Addr).add j) = some u := fun j u hu => by
    have hj : j = 0 := by have := (List.getElem?_eq_some_iff.1 hu).1; simpa using this
    subst hj
    rw [Addr.add_lit, hb1.cell]
    exact hu
  by_cases hr : l.length + 1 ≤ c
  · have hrun := run_append_room_cells (P := P) w t ty 5 i ht hi g 0 l.length c ⟨g1, 0, none⟩ 1 c1 [.int .u8 (x.toNat : Int)] (by rw [hsize]; rfl) hnews (by intro u hu; simp at hu; subst hu; rfl) hr
      (by intro j hj; simp at hj; subst hj; simp [World.cell?, hb, hsize]; omega)
      (by
        intro j hj
        simp at hj
        subst hj
        obtain ⟨lo, hi2⟩ := fr
        simp only at hfr
        have : ¬ (lo ≤ l.length ∧ l.length < hi2) := by omega
        simp [World.frozen?, hb, hsize]
        omega)
    rw [hsize, Nat.zero_add, Nat.mul_one] at hrun
    refine ⟨_, _, hrun, ⟨g, c, cur.setIfInBounds l.length (.int .u8 (x.toNat : Int)), fr, by rw [List.length_append]; rfl, hg, ?_, hfr, by rw [List.length_append]; exact hr, by rw [Array.size_setIfInBounds]; exact hcs, hcm, fun j hj => ?_⟩, ?_⟩
    · simp [World.setCells, World.setCell, Array.getElem?_modify, hb]
    · rw [List.length_append] at hj
      simp at hj
      by_cases e : j = l.length
      · subst e
        rw [Array.getElem?_setIfInBounds_self_of_lt (by omega)]
        simp
      · rw [Array.getElem?_setIfInBounds_ne (by omega), hcur j (by omega), List.getElem_append_left (by omega)]
    · exact (Keep.setCells (Keep.refl (fun k => k = g) w) (g := g) (fun _ => rfl) l.length [.int .u8 (x.toNat : Int)]).mono fun k _ e => by rw [e]; exact hg
  · obtain ⟨v', w', hrun, r1, r2⟩ := run_append_arg_grows (P := P) w t ty 5 i (.int .u8 0) 1 1 ht hi hz hsize hby rfl (by decide) ⟨g, 0, none⟩ l.length c (byV l) (by simp [byV]) (SlB.cells (b0 := b0) (c := c) hb hcur hg hlc) ⟨g1, 0, none⟩ 1 c1 [.int .u8 (x.toNat : Int)] rfl hnews (by omega) (by unfold maxLen; omega) (by omega)
    have hk : Keep (fun _ => False) w w' := Keep.grown r2 (by intro k hk; cases hk)
    refine ⟨v', w', hrun, ?_, hk.mono fun _ _ e => e.elim⟩
    rcases r1.2 with ⟨_, hn⟩ | ⟨g', cap, cur', rfl, hbb, hh, hnc, hcm', hsz, htk⟩
    · omega
    · refine ⟨g', cap, cur', (0, 0), by rw [List.length_append]; rfl, by omega, hh, .inr rfl, by rw [List.length_append]; exact hnc, by omega, hcm', fun j hj => ?_⟩
      have h2 : (cur'.toList.take ((l.length + 1) * 1))[j]? = (byV l ++ [.int .u8 (x.toNat : Int)])[j]? := by rw [htk]
      have hjl : j < l.length + 1 := by rw [List.length_append] at hj; exact hj
      rw [List.getElem?_take, if_pos (by omega), Array.getElem?_toList] at h2
      rw [h2, show byV l ++ [Value.int .u8 (x.toNat : Int)] = byV (l ++ [x]) by simp [byV]]
      unfold byV
      rw [List.getElem?_map, List.getElem?_eq_getElem hj]; rfl
end Go.Proofs.YtgoldgamjogadaaGreat

namespace Go.Proofs.YtgoldgamjogadaaGreat
open Go.RowKit Go
set_option maxRecDepth 100000
attribute [local go_sem] bs_toList bs_size bs_get

section
variable {P : Program}
theorem wpList_append_b {ops : Array Oper} {rest : List Oper} {o : Oper} {a : Act} {Q : Exit → Act → World → Prop} {w : World} (hgd : o.guard = none) (s x : Operand) (t : TypeId)
    (ho : o.op = .call { callee := .builtin .append, args := #[s, x], argTypes := #[t, t] })
    (i : TypeInfo) (ht : P.underlying t = some (.slice 5)) (hi : P.info? 5 = some i) (hz : i.zero = some (.int .u8 0)) (hsize : i.size = 1) (hby : i.bytes = 1)
    {b0 : Nat} {v : Value} {l : Bs} (h : SlB b0 w v l) (hs : a.eval s = v) (hb0 : b0 ≤ w.heap.size) (hl : l.length ≤ 2000000000) (y : UInt8) {g1 c1 : Nat} (hx : a.eval x = .slice (some ⟨g1, 0, none⟩) 1 c1) (hb1 : Blk w g1 5 #[.int .u8 (y.toNat : Int)])
    (hK : ∀ v' w', SlB b0 w' v' (l ++ [y]) → Keep (fun g => b0 ≤ g) w w' → wpList P ops Q rest (a.put o.dst v') w') : wpList P ops Q (o :: rest) a w :=
  wpList_plain hgd fun _ hK' => by
    obtain ⟨v', w', hr, h2, h3⟩ := run_append_b (P := P) t o.type i ht hi hz hsize hby h hb0 hl y (c1 := c1) hb1
    unfold Oper.wp execOp
    simp only [ho, resolve, invoke, builtin, Sem.run_bind, Sem.run_pure, Result.andThen_ok, List.map_toArray, List.map_cons, List.map_nil, hs, hx, hr]
    exact hK' _ _ (hK v' w' h2 h3)
end
theorem SlB.keep0 {b0 : Nat} {w w' : World} {v : Value} {l : Bs} (h : SlB b0 w v l) (hk : Keep (fun _ => False) w w') : SlB b0 w' v l := by
  obtain ⟨g, c, cur, fr, h1, h2, h3, h4⟩ := h
  exact ⟨g, c, cur, fr, h1, h2, hk.heap h3 (fun h => h), h4⟩
theorem SlB.back {P : Program} {b0 : Nat} {w : World} {v : Value} {l : Bs} (h : SlB b0 w v l) (hs : P.underlying 69 = some (.slice 5)) (he : P.underlying 5 = some (.int .u8)) (hd : P.underlying 9 = some .string) :
    (convert 69 9 v).run P w = .ok (.string (bs l)) w := by
  obtain ⟨g, c, cur, fr, rfl, hg, hb, hfr, hlc, hcs, hcm, hcur⟩ := h
  exact run_convert_bytes_back w 69 9 5 ⟨g, 0, none⟩ c l hs he hd (fun j hj => by rw [Addr.add_lit, Nat.zero_add, ← hcur j hj]; simp [World.cell?, hb])

theorem infoB : (Tryz.prog.info? 5).map (fun i => (i.zero, i.size, i.bytes)) = some (some (.int .u8 0), 1, 1) := by kernel_rfl
/-- a number's bytes -/
def numF : Nat → Nat → Bs
  | 0, n => [UInt8.ofNat n]
  | k + 1, n => if n < 128 then [UInt8.ofNat n] else UInt8.ofNat (n % 128 + 128) :: numF k (n / 128)
def numB (n : Nat) : Bs := numF 6 n
theorem numF_fuel : ∀ k n, n < 2 ^ (7 * (k + 1)) → numF (k + 1) n = numF k n
  | 0, n, h => by
    show (if n < 128 then [UInt8.ofNat n] else _) = [UInt8.ofNat n]
    rw [if_pos (by simpa using h)]
  | k + 1, n, h => by
    show (if n < 128 then [UInt8.ofNat n] else UInt8.ofNat (n % 128 + 128) :: numF (k + 1) (n / 128)) = (if n < 128 then [UInt8.ofNat n] else UInt8.ofNat (n % 128 + 128) :: numF k (n / 128))
    by_cases h1 : n < 128
    · rw [if_pos h1, if_pos h1]
    · rw [if_neg h1, if_neg h1, numF_fuel k (n / 128) (by
        rw [Nat.div_lt_iff_lt_mul (by decide)]
        calc n < 2 ^ (7 * (k + 1 + 1)) := h
          _ = 2 ^ (7 * (k + 1)) * 128 := by rw [show 7 * (k + 1 + 1) = 7 * (k + 1) + 7 by omega, Nat.pow_add])]
theorem numB_lt {n : Nat} (h : n < 128) : numB n = [UInt8.ofNat n] := by unfold numB; rw [numF, if_pos h]
theorem numB_ge {n : Nat} (h : 128 ≤ n) (hn : n ≤ 1099511627776) : numB n = UInt8.ofNat (n % 128 + 128) :: numB (n / 128) := by
  unfold numB
  rw [numF, if_neg (by omega), numF_fuel 5 (n / 128) (by
    have : n / 128 < 2 ^ 42 := by omega
    exact this)]
theorem numF_len : ∀ k n, (numF k n).length ≤ k + 1
  | 0, _ => by simp [numF]
  | k + 1, n => by
    rw [numF]
    split
    · simp
    · rw [List.length_cons]; have := numF_len k (n / 128); omega
theorem numB_len (n : Nat) : (numB n).length ≤ 7 := numF_len 6 n

theorem slb_bytes (w : World) (s : Bs) (hs : s.length ≤ 1000000000) : SlB w.heap.size (Lib.bytesWorld w 5 (bs s)) (.slice (some ⟨w.heap.size, 0, none⟩) s.length (grownCap w s.length 0 5)) s := by
  have h1 := grownCap_ge w s.length 0 5
  have h2 := grownCap_le_maxLen w s.length 0 5 (by unfold maxLen; omega)
  have h3 : (Lib.bytesCells w 5 (bs s)).size = grownCap w s.length 0 5 := by
    unfold Lib.bytesCells
    have e : (bs s).data.size = s.length := by simp [bs]
    rw [Array.size_append, Array.size_map, Array.size_replicate, bs_size, e]
    omega
  refine ⟨w.heap.size, _, _, _, rfl, Nat.le_refl _, Lib.bytesWorld_at_new w 5 (bs s), .inl ?_, h1, by omega, h2, fun j hj => ?_⟩
  · show grownCap w s.length 0 5 ≤ (Lib.bytesCells w 5 (bs s)).size
    omega
  · have h := Lib.bytesWorld_cell w 5 (bs s) j (by rw [bs_size]; exact hj)
    simp only [World.cell?, Lib.bytesWorld_at_new] at h
    have e : (bs s).data.toList.getD j 0 = s[j] := by rw [bs_data]; simp [List.getD, List.getElem?_eq_getElem hj]
    rw [e] at h
    simpa using h
theorem SlB.rebase {b0 b1 : Nat} {w : World} {v : Value} {l : Bs} (h : SlB b0 w v l) (hb : b1 ≤ b0) : SlB b1 w v l := by
  obtain ⟨g, c, cur, fr, h1, h2, h3⟩ := h
  exact ⟨g, c, cur, fr, h1, Nat.le_trans hb h2, h3⟩

theorem u8_or_128 : ∀ k : Fin 256, bits .or .u8 ((k.val : Nat) : Int) 128 = ((k.val % 128 + 128 : Nat) : Int) := by decide
/-- a number behind bytes, and whether it may be -/
def numS (s : Bs) (n : Int) : Bs × Int := if n < 0 ∨ 1099511627776 < n then (s, 1) else (s ++ numB n.toNat, 0)
def pairV (x : Bs × Int) : Value := .tuple #[.string (bs x.1), .int .i64 x.2]

set_option maxHeartbeats 8000000 in
theorem cnum_any (s : Bs) (hs : s.length ≤ 1000000000) (n : Int) (w : World) :
    Calls Tryz.prog 43 #[.string (bs s), .int .i64 n] w (Tell (pairV (numS s n)) w) := by
  by_cases hr : n < 0 ∨ 1099511627776 < n
  · have hm : numS s n = (s, 1) := by unfold numS; rw [if_pos hr]
    rw [hm]
    rcases hr with h | h
    · go_enter Tryz.func43, Tryz.ntmps43
      go_wp2
      go_ret2
      exact ⟨rfl, Keep.refl _ _⟩
    · have h0 : ¬ n < 0 := by omega
      clear hm
      go_enter Tryz.func43, Tryz.ntmps43
      go_wp2
      go_ret2
      exact ⟨rfl, Keep.refl _ _⟩
  · have hm : numS s n = (s ++ numB n.toNat, 0) := by unfold numS; rw [if_neg hr]
    rw [hm]
    obtain ⟨N, rfl⟩ : ∃ N : Nat, n = N := ⟨n.toNat, by omega⟩
    rw [Int.toNat_natCast]
    have hN : N ≤ 1099511627776 := by omega
    have h0 : ¬ (N : Int) < 0 := by omega
    have h1 : ¬ (1099511627776 : Int) < N := by omega
    clear hm hr
    have hcv := Lib.run_convert_string_bytes (P := Tryz.prog) w 9 69 5 (bs s) Tryz.underlying9 Tryz.underlying69 Tryz.underlying5
    rw [bs_size] at hcv
    have HK1 := Lib.hid (keep_bytes w (bs s))
    have HSB := Lib.hid (slb_bytes w s hs)
    generalize grownCap w s.length 0 5 = cap at hcv HSB
    generalize Lib.bytesWorld w 5 (bs s) = W1 at hcv HK1 HSB
    obtain ⟨g, hg⟩ : ∃ g, w.heap.size = g := ⟨_, rfl⟩
    have HG := Lib.hid hg
    rw [hg] at hcv HSB
    clear hg
    obtain ⟨i0, hi, hz0, hz1, hz2⟩ := info_parts infoB
    have HI := Lib.hid hi
    have HZ0 := Lib.hid hz0
    have HZ1 := Lib.hid hz1
    have HZ2 := Lib.hid hz2
    clear hi hz0 hz1 hz2
    have HN := Lib.hid hN
    clear hN
    go_enter Tryz.func43, Tryz.ntmps43
    go_wp2
    clear hcv
    go_loopw [1, 6] (fun j y wr => ∃ (m : Nat) (pre : Bs), m ≤ N ∧ j = .int .i64 (m : Int) ∧ Hid (SlB g wr y (s ++ pre)) ∧ Hid (Keep (fun _ => False) w wr) ∧ Hid (pre ++ numB m = numB N)) (fun j _ _ => (intOf j).toNat)
    case atStart => exact ⟨N, [], Nat.le_refl _, rfl, Lib.hid (by rw [List.append_nil]; exact HSB.out), HK1, Lib.hid rfl⟩
    case round =>
      obtain ⟨m, pre, hm, rfl, HS, HK, HP⟩ := hrel
      have hpl : pre.length ≤ 7 := by
        have h := congrArg List.length HP.out
        rw [List.length_append] at h
        have := numB_len N
        omega
      by_cases hlt : (128 : Int) ≤ (m : Int)
      · have hNN := HN.out
        have f1 : IntKind.u8.wrap (m : Int) = (m : Int) % 256 := by rw [IntKind.wrap_u8]
        obtain ⟨Y, hY⟩ : ∃ Y, m % 128 + 128 = Y := ⟨_, rfl⟩
        have f2 : bits .or .u8 ((m : Int) % 256) 128 = (Y : Int) := by
          have := u8_or_128 ⟨m % 256, by omega⟩
          simp only at this
          rw [show ((m : Int) % 256) = ((m % 256 : Nat) : Int) by omega, this]
          omega
        have f3 : ((UInt8.ofNat Y).toNat : Int) = (Y : Int) := by
          rw [UInt8.toNat_ofNat']; omega
        have HN2 := Lib.hid (numB_ge (n := m) (by omega) (by omega))
        rw [hY] at HN2
        have hsz : g ≤ (wr.alloc (.cells #[.int .u8 (Y : Int)] 5)).heap.size := by have := HK.out.size; have := HG.out; simp; omega
        have HSZ := Lib.hid hsz
        clear hsz hY
        have hbl := Blk.new wr 5 #[.int .u8 (Y : Int)]
        have HBL := Lib.hid hbl
        clear hbl
        go_wp2_with (at_builtin; go_loud (refine wpList_append_b rfl _ _ _ rfl i0 Tryz.underlying69 HI.out HZ0.out HZ1.out HZ2.out (HS.out.keep0 ((Keep.refl (fun _ => False) _).alloc _)) rfl HSZ.out (by rw [List.length_append]; omega) (UInt8.ofNat Y) rfl (by rw [f3]; exact HBL.out) ?_; intro v2 w2 hs2 hk2; have HS2 := Lib.hid hs2; have HK2 := Lib.hid (HK.out.trans (((Keep.refl (fun i => False ∨ w.heap.size ≤ i) wr).alloc _).trans (hk2.mono fun q _ e => .inl (.inr (by rw [HG.out]; exact e))))); clear hs2 hk2))
        go_wp2
        go_roundw
        case rel => exact ⟨m / 128, pre ++ [UInt8.ofNat Y], by omega, by go_num, Lib.hid (by rw [← List.append_assoc]; exact HS2.out), HK2, Lib.hid (by rw [List.append_assoc, List.singleton_append, ← HN2.out]; exact HP.out)⟩
        case measure => simp [intOf]; omega
      · have f1 : IntKind.u8.wrap (m : Int) = (m : Int) := by rw [IntKind.wrap_u8]; omega
        have f3 : ((UInt8.ofNat m).toNat : Int) = (m : Int) := by
          rw [UInt8.toNat_ofNat']; omega
        have HN2 := Lib.hid (numB_lt (n := m) (by omega))
        have hsz : g ≤ (wr.alloc (.cells #[.int .u8 (m : Int)] 5)).heap.size := by have := HK.out.size; have := HG.out; simp; omega
        have HSZ := Lib.hid hsz
        clear hsz
        have hbl := Blk.new wr 5 #[.int .u8 (m : Int)]
        have HBL := Lib.hid hbl
        clear hbl
        go_wp2_with (at_builtin; go_loud (refine wpList_append_b rfl _ _ _ rfl i0 Tryz.underlying69 HI.out HZ0.out HZ1.out HZ2.out (HS.out.keep0 ((Keep.refl (fun _ => False) _).alloc _)) rfl HSZ.out (by rw [List.length_append]; omega) (UInt8.ofNat m) rfl (by rw [f3]; exact HBL.out) ?_; intro v2 w2 hs2 hk2; have HS2 := Lib.hid hs2; have HK2 := Lib.hid (HK.out.trans (((Keep.refl (fun i => False ∨ w.heap.size ≤ i) wr).alloc _).trans (hk2.mono fun q _ e => .inl (.inr (by rw [HG.out]; exact e))))); clear hs2 hk2; have hcv := HS2.out.back (P := Tryz.prog) Tryz.underlying69 Tryz.underlying5 Tryz.underlying9))
        clear f1 f3
        go_wp2
        go_ret2
        refine ⟨?_, HK2.out⟩
        rw [← HP.out, HN2.out]
        rfl
end Go.Proofs.YtgoldgamjogadaaGreat

namespace Go.Proofs.YtgoldgamjogadaaGreat
open Go.RowKit Go
set_option maxRecDepth 100000
attribute [local go_sem] bs_toList bs_size bs_get

set_option maxHeartbeats 400000 in
theorem cmay_any (p : ID) (w : World) : Calls Tryz.prog 104 #[idV p] w (Tell (.bool (mayID p)) w) := by
  obtain ⟨a, i⟩ := p
  go_enter Tryz.func104, Tryz.ntmps104
  go_wp2
  all_goals
    go_ret
    refine ⟨ret_bool ?_, (Keep.refl _ w).alloc _⟩
    rw [Bool.eq_iff_iff]
    simp only [mayID, decide_eq_true_eq]
    first | (simp; omega) | omega
/-- do IDs rise, from one on? -/
def riseF : ID → List ID → Bool
  | _, [] => true
  | p, x :: l => mayID x && ltID p x && riseF x l
theorem riseF_drop (p : ID) (l : List ID) {k : Nat} (hk : k < l.length) : riseF p (l.drop k) = (mayID (l.getD k (0, 0)) && ltID p (l.getD k (0, 0)) && riseF (l.getD k (0, 0)) (l.drop (k + 1))) := by
  rw [List.drop_eq_getElem_cons hk, riseF]
  simp [List.getD, hk]
set_option maxHeartbeats 4000000 in
theorem crise_any (A : Option Addr) (n c : Nat) (l : List ID) (w : World) (h : RdI w A n l) (hn : n ≤ 9223372036854775806) :
    Calls Tryz.prog 92 #[.slice A n c] w (Tell (.bool (riseF (0, 0) l)) w) := by
  have HL := Lib.hid h.1
  have H := Lib.hid h
  clear h
  have b0 := Blk.new w 24 #[.int .i64 0, .int .i64 0]
  have B0 := Lib.hid b0
  have K0 := Lib.hid ((Keep.refl (fun _ => False) w).alloc (.cells #[.int .i64 0, .int .i64 0] 24))
  have f0 := b0.frozen 0
  have f1 := b0.frozen 1
  clear b0
  go_enter Tryz.func92, Tryz.ntmps92
  go_wp2
  go_loopw [9] (fun j wr => ∃ (k : Nat) (p : ID), k ≤ n ∧ j = .int .i64 (k : Int) ∧ Hid (Blk wr w.heap.size 24 #[.int .i64 p.1, .int .i64 p.2]) ∧ Hid (Keep (fun _ => False) w wr) ∧ Hid (riseF p (l.drop k) = riseF (0, 0) l)) (fun j _ => n - (intOf j).toNat)
  case atStart => exact ⟨0, (0, 0), by omega, rfl, B0, K0, Lib.hid rfl⟩
  case round =>
    obtain ⟨k, p, hk, rfl, HB, HK, HR⟩ := hrel
    by_cases hlt : k < n
    · obtain ⟨g, off, rfl, c0, c1⟩ := (H.out.keep0 HK.out).at_ hlt
      have HD := Lib.hid (riseF_drop p l (k := k) (by rw [HL.out]; exact hlt))
      have e2 : IntKind.i64.wrap ((k : Int) + 1) = (k : Int) + 1 := IntWalk.i64_in _ (by omega)
      have hkI : (k : Int) < (n : Int) := by omega
      have hkJ : (0 : Int) ≤ (k : Int) := by omega
      generalize l.getD k (0, 0) = x at *
      obtain ⟨a, i⟩ := x
      obtain ⟨la, li⟩ := p
      simp only at c0 c1
      have hb := Blk.new wr 24 #[.int .i64 a, .int .i64 i]
      have HBX := Lib.hid hb
      have HKX := Lib.hid ((Keep.refl (fun _ => False) wr).alloc (.cells #[.int .i64 a, .int .i64 i] 24))
      clear hb
      cases hM : mayID (a, i)
      · have HE := Lib.hid (show riseF (0, 0) l = false by rw [← HR.out, HD.out, hM]; rfl)
        have HM := Lib.hid hM
        clear hM
        go_wp2_with fail
        refine (cmay_any (a, i) _).mono ?_
        rintro e W1 ⟨rfl, hk1⟩
        rw [HM.out]
        have HKB := Lib.hid (keep0_trans _ _ _ HK.out (keep0_trans _ _ _ HKX.out hk1))
        clear hk1
        go_wp2
        go_ret
        exact ⟨ret_bool HE.out.symm, HKB.out⟩
      · have HDM := Lib.hid hM
        have HM := Lib.hid hM
        clear hM
        go_wp2_with fail
        refine (cmay_any (a, i) _).mono ?_
        rintro e W1 ⟨rfl, hk1⟩
        rw [HM.out]
        have hb1 := HB.out.keep (HKX.out.trans (hk1.mono fun _ _ h => h.elim)) (fun h => h)
        have HB1 := Lib.hid hb1
        have HKB := Lib.hid (keep0_trans _ _ _ HK.out (keep0_trans _ _ _ HKX.out hk1))
        have x0 := (HBX.out.keep hk1 (fun h => h)).cell 0
        have x1 := (HBX.out.keep hk1 (fun h => h)).cell 1
        have y0 := hb1.cell 0
        have y1 := hb1.cell 1
        have z0 := hb1.frozen 0
        have z1 := hb1.frozen 1
        simp at x0 x1 y0 y1
        clear hk1 hb1
        have HLT := Lib.hid (show ltID (la, li) (a, i) = decide (la < a ∨ (la = a ∧ li < i)) from rfl)
        by_cases q1 : a < la
        · have HE := Lib.hid (show riseF (0, 0) l = false by rw [← HR.out, HD.out, HLT.out, decide_eq_false (by omega), Bool.and_false]; rfl)
          go_wp2
          go_ret
          exact ⟨ret_bool HE.out.symm, HKB.out⟩
        have q1 : la ≤ a := by omega
        by_cases q2 : a = la
        · have q2' : (a == la) = true := by simpa using q2
          by_cases q3 : i ≤ li
          · have HE := Lib.hid (show riseF (0, 0) l = false by rw [← HR.out, HD.out, HLT.out, decide_eq_false (by omega), Bool.and_false]; rfl)
            go_wp2
            go_ret
            exact ⟨ret_bool HE.out.symm, HKB.out⟩
          have q3 : li < i := by omega
          have HE := Lib.hid (show riseF (a, i) (l.drop (k + 1)) = riseF (0, 0) l by rw [← HR.out, HD.out, HLT.out, HDM.out, decide_eq_true (by omega)]; rfl)
          go_wp2
          go_roundw
          case rel => exact ⟨k + 1, (a, i), by omega, by go_num, Lib.hid (by simpa [q2] using (HB1.out.set_ 0 (.int .i64 a)).set_ 1 (.int .i64 i)), Lib.hid ((HKB.out.new (p := ⟨w.heap.size, 0, none⟩) (Nat.le_refl _) _).new (p := ⟨w.heap.size, 1, none⟩) (Nat.le_refl _) _), HE⟩
          case measure => simp [intOf]; omega
        · have q2' : (a == la) = false := by simpa using q2
          have HE := Lib.hid (show riseF (a, i) (l.drop (k + 1)) = riseF (0, 0) l by rw [← HR.out, HD.out, HLT.out, HDM.out, decide_eq_true (by omega)]; rfl)
          go_wp2
          go_roundw
          case rel => exact ⟨k + 1, (a, i), by omega, by go_num, Lib.hid (by simpa using (HB1.out.set_ 0 (.int .i64 a)).set_ 1 (.int .i64 i)), Lib.hid ((HKB.out.new (p := ⟨w.heap.size, 0, none⟩) (Nat.le_refl _) _).new (p := ⟨w.heap.size, 1, none⟩) (Nat.le_refl _) _), HE⟩
          case measure => simp [intOf]; omega
    · obtain rfl : k = n := by omega
      have HE := Lib.hid (show riseF (0, 0) l = true by rw [← HR.out, ← HL.out, List.drop_length]; rfl)
      go_wp2
      go_ret
      exact ⟨ret_bool HE.out.symm, HK.out⟩

def idB (p : ID) : Bs := numB p.1.toNat ++ numB p.2.toNat
theorem idB_len (p : ID) : (idB p).length ≤ 14 := by unfold idB; rw [List.length_append]; have := numB_len p.1.toNat; have := numB_len p.2.toNat; omega
/-- an ID behind bytes -/
def idS (s : Bs) (p : ID) : Bs × Int := if mayID p then (s ++ idB p, 0) else (s, 4)
set_option maxHeartbeats 1000000 in
theorem cid_any (s : Bs) (hs : s.length ≤ 900000000) (p : ID) (w : World) :
    Calls Tryz.prog 93 #[.string (bs s), idV p] w (Tell (pairV (idS s p)) w) := by
  obtain ⟨a, i⟩ := p
  have hb := Blk.new w 24 #[.int .i64 a, .int .i64 i]
  have HB := Lib.hid hb
  have HK := Lib.hid ((Keep.refl (fun _ => False) w).alloc (.cells #[.int .i64 a, .int .i64 i] 24))
  have c0 := hb.cell 0
  have c1 := hb.cell 1
  simp at c0 c1
  clear hb
  cases hM : mayID (a, i)
  · have HE := Lib.hid (show idS s (a, i) = (s, 4) by unfold idS; rw [hM]; rfl)
    have HM := Lib.hid hM
    clear hM
    go_enter Tryz.func93, Tryz.ntmps93
    go_wp2_with fail
    refine (cmay_any (a, i) _).mono ?_
    rintro e W1 ⟨rfl, hk1⟩
    rw [HM.out]
    have HKB := Lib.hid (keep0_trans _ _ _ HK.out hk1)
    clear hk1
    go_wp2
    go_ret2
    exact ⟨by rw [HE.out]; rfl, HKB.out⟩
  · have hM2 := hM
    simp only [mayID, decide_eq_true_eq] at hM2
    have HE := Lib.hid (show idS s (a, i) = (s ++ numB a.toNat ++ numB i.toNat, 0) by unfold idS idB; rw [hM, if_pos rfl, List.append_assoc])
    have HN1 := Lib.hid (show numS s a = (s ++ numB a.toNat, 0) by unfold numS; rw [if_neg (by omega)])
    have HN2 := Lib.hid (show numS (s ++ numB a.toNat) i = (s ++ numB a.toNat ++ numB i.toNat, 0) by unfold numS; rw [if_neg (by omega)])
    have HL := Lib.hid (numB_len a.toNat)
    have HM := Lib.hid hM
    clear hM hM2
    go_enter Tryz.func93, Tryz.ntmps93
    go_wp2_with fail
    refine (cmay_any (a, i) _).mono ?_
    rintro e W1 ⟨rfl, hk1⟩
    rw [HM.out]
    have HKB := Lib.hid (keep0_trans _ _ _ HK.out hk1)
    have hb1 := HB.out.keep hk1 (fun h => h)
    have HB1 := Lib.hid hb1
    have x0 := hb1.cell 0
    simp at x0
    clear hk1 hb1 c0 c1
    go_wp2_with fail
    refine (cnum_any s (by omega) a _).mono ?_
    rintro e W2 ⟨rfl, hk2⟩
    rw [HN1.out]
    have HKC := Lib.hid (keep0_trans _ _ _ HKB.out hk2)
    have hb2 := HB1.out.keep hk2 (fun h => h)
    have y1 := hb2.cell 1
    simp at y1
    clear hk2 hb2 x0
    unfold pairV
    go_wp2_with fail
    refine (cnum_any (s ++ numB a.toNat) (by rw [List.length_append]; have := HL.out; omega) i _).mono ?_
    rintro e W3 ⟨rfl, hk3⟩
    rw [HN2.out]
    have HKD := Lib.hid (keep0_trans _ _ _ HKC.out hk3)
    clear hk3
    unfold pairV
    go_wp2
    go_ret2
    exact ⟨by rw [HE.out, List.append_assoc]; rfl, HKD.out⟩

theorem riseF_may : ∀ {p : ID} {l : List ID}, riseF p l = true → ∀ x ∈ l, mayID x = true
  | _, [], _, x, hx => by cases hx
  | p, y :: l, h, x, hx => by
    rw [riseF, Bool.and_eq_true, Bool.and_eq_true] at h
    rcases List.mem_cons.1 hx with rfl | hx
    · exact h.1.1
    · exact riseF_may h.2 x hx
def idsB (l : List ID) : Bs := numB l.length ++ l.flatMap idB
theorem flat_idB_len (l : List ID) : (l.flatMap idB).length ≤ 14 * l.length := by
  induction l with
  | nil => simp
  | cons x l ih => rw [List.flatMap_cons, List.length_append, List.length_cons]; have := idB_len x; omega
/-- a list behind bytes -/
def idsS (s : Bs) (l : List ID) : Bs × Int := if 64 < l.length then (s, 40) else if riseF (0, 0) l then (s ++ idsB l, 0) else (s, 4)
set_option maxHeartbeats 4000000 in
theorem cids_any (s : Bs) (hs : s.length ≤ 800000000) (A : Option Addr) (n c : Nat) (l : List ID) (w : World) (h : RdI w A n l) (hn : n ≤ 9223372036854775806) :
    Calls Tryz.prog 77 #[.string (bs s), .slice A n c] w (Tell (pairV (idsS s l)) w) := by
  have HL := Lib.hid h.1
  have H := Lib.hid h
  clear h
  by_cases h64 : 64 < n
  · have HE := Lib.hid (show idsS s l = (s, 40) by unfold idsS; rw [if_pos (by rw [HL.out]; exact h64)])
    have q : (64 : Int) < (n : Int) := by omega
    go_enter Tryz.func77, Tryz.ntmps77
    go_wp2
    go_ret2
    exact ⟨by rw [HE.out]; rfl, Keep.refl _ _⟩
  have q : ¬ (64 : Int) < (n : Int) := by omega
  cases hM : riseF (0, 0) l
  · have HE := Lib.hid (show idsS s l = (s, 4) by unfold idsS; rw [if_neg (by rw [HL.out]; exact h64), hM]; rfl)
    have HM := Lib.hid hM
    clear hM
    go_enter Tryz.func77, Tryz.ntmps77
    go_wp2_with fail
    refine (crise_any A n c l _ H.out hn).mono ?_
    rintro e W1 ⟨rfl, hk1⟩
    rw [HM.out]
    have HKB := Lib.hid hk1
    clear hk1
    go_wp2
    go_ret2
    exact ⟨by rw [HE.out]; rfl, HKB.out⟩
  · have HE := Lib.hid (show idsS s l = (s ++ idsB l, 0) by unfold idsS; rw [if_neg (by rw [HL.out]; exact h64), hM]; rfl)
    have HM := Lib.hid hM
    have HMY := Lib.hid (riseF_may hM)
    clear hM
    go_enter Tryz.func77, Tryz.ntmps77
    go_wp2_with fail
    refine (crise_any A n c l _ H.out hn).mono ?_
    rintro e W1 ⟨rfl, hk1⟩
    rw [HM.out]
    have HKB := Lib.hid hk1
    clear hk1
    have HN1 := Lib.hid (show numS s (n : Int) = (s ++ numB n, 0) by unfold numS; rw [if_neg (by omega), Int.toNat_natCast])
    go_wp2_with fail
    refine (cnum_any s (by omega) n _).mono ?_
    rintro e W2 ⟨rfl, hk2⟩
    rw [HN1.out]
    have HKC := Lib.hid (keep0_trans _ _ _ HKB.out hk2)
    clear hk2
    unfold pairV
    go_wp2
    go_loopw [29, 6] (fun j y wr => ∃ k : Nat, k ≤ n ∧ j = .int .i64 (k : Int) ∧ y = .string (bs (s ++ numB n ++ (l.take k).flatMap idB)) ∧ Hid (Keep (fun _ => False) w wr)) (fun j _ _ => n - (intOf j).toNat)
    case atStart => exact ⟨0, by omega, rfl, by simp, HKC⟩
    case round =>
      obtain ⟨k, hk, rfl, rfl, HK⟩ := hrel
      by_cases hlt : k < n
      · obtain ⟨g, off, rfl, c0, c1⟩ := (H.out.keep0 HK.out).at_ hlt
        have e2 : IntKind.i64.wrap ((k : Int) + 1) = (k : Int) + 1 := IntWalk.i64_in _ (by omega)
        have hkI : (k : Int) < (n : Int) := by omega
        have hkJ : (0 : Int) ≤ (k : Int) := by omega
        have hkl : k < l.length := by rw [HL.out]; exact hlt
        have HX := Lib.hid (HMY.out (l.getD k (0, 0)) (by simp [List.getD, hkl]))
        have HT := Lib.hid (show s ++ numB n ++ (l.take (k + 1)).flatMap idB = s ++ numB n ++ (l.take k).flatMap idB ++ idB (l.getD k (0, 0)) by
          rw [List.take_succ_eq_append_getElem hkl, List.flatMap_append, ← List.append_assoc]; simp [List.getD, hkl])
        have HLN := Lib.hid (show (s ++ numB n ++ (l.take k).flatMap idB).length ≤ 900000000 by
          have h1 := flat_idB_len (l.take k)
          have h2 := numB_len n
          rw [List.length_take] at h1
          simp only [List.length_append]; omega)
        generalize l.getD k (0, 0) = x at *
        generalize s ++ numB n ++ (l.take k).flatMap idB = S at *
        obtain ⟨a, i⟩ := x
        simp only at c0 c1
        have hb := Blk.new wr 24 #[.int .i64 a, .int .i64 i]
        have HKX := Lib.hid ((Keep.refl (fun _ => False) wr).alloc (.cells #[.int .i64 a, .int .i64 i] 24))
        have x0 := hb.cell 0
        have x1 := hb.cell 1
        simp at x0 x1
        clear hb
        go_wp2_with fail
        refine (cid_any S HLN.out (a, i) _).mono ?_
        rintro e W3 ⟨rfl, hk3⟩
        have HI := Lib.hid (show idS S (a, i) = (S ++ idB (a, i), 0) by unfold idS; rw [HX.out]; rfl)
        rw [HI.out]
        have HKD := Lib.hid (keep0_trans _ _ _ HK.out (keep0_trans _ _ _ HKX.out hk3))
        clear hk3
        unfold pairV
        go_wp2
        go_roundw
        case rel => exact ⟨k + 1, by omega, by go_num, by rw [HT.out], HKD⟩
        case measure => simp [intOf]; omega
      · obtain rfl : k = n := by omega
        have HF := Lib.hid (show s ++ numB k ++ (l.take k).flatMap idB = s ++ idsB l by rw [List.take_of_length_le (by rw [HL.out]; exact Nat.le_refl _)]; unfold idsB; rw [HL.out, List.append_assoc])
        generalize s ++ numB k ++ (l.take k).flatMap idB = S at *
        go_wp2
        go_ret2
        exact ⟨by rw [HE.out, ← HF.out]; rfl, HK.out⟩
end Go.Proofs.YtgoldgamjogadaaGreat

namespace Go.Proofs.YtgoldgamjogadaaGreat
open Go.RowKit Go
set_option maxRecDepth 100000
attribute [local go_sem] bs_toList bs_size bs_get

abbrev WS := Bs × Int
def putW (st x : WS) : WS := if st.2 = 0 then x else st
def numW (st : WS) (n : Int) : WS := putW st (numS st.1 n)
def numsW (st : WS) (l : List Int) : WS := l.foldl numW st
def idW (st : WS) (p : ID) : WS := numsW st [p.1, p.2]
def idsW (st : WS) (l : List ID) : WS := putW st (idsS st.1 l)
theorem putW_len (st x : WS) (k : Nat) (h : x.1.length ≤ st.1.length + k) : (putW st x).1.length ≤ st.1.length + k := by unfold putW; split <;> omega
theorem numS_len (s : Bs) (n : Int) : (numS s n).1.length ≤ s.length + 7 := by
  unfold numS
  split
  · simp
  · simp only [List.length_append]; have := numB_len n.toNat; omega
theorem numW_len (st : WS) (n : Int) : (numW st n).1.length ≤ st.1.length + 7 := putW_len _ _ _ (numS_len _ _)
theorem numsW_len : ∀ (l : List Int) (st : WS), (numsW st l).1.length ≤ st.1.length + 7 * l.length
  | [], _ => by simp [numsW]
  | x :: l, st => by
    have h1 := numsW_len l (numW st x)
    have h2 := numW_len st x
    have e : numsW st (x :: l) = numsW (numW st x) l := rfl
    rw [e, List.length_cons]; omega
theorem idW_len (st : WS) (p : ID) : (idW st p).1.length ≤ st.1.length + 14 := numsW_len [p.1, p.2] st
theorem idsS_len (s : Bs) (l : List ID) : (idsS s l).1.length ≤ s.length + 903 := by
  unfold idsS
  split
  · simp
  · split
    · unfold idsB
      simp only [List.length_append]; have := numB_len l.length; have := flat_idB_len l; omega
    · simp
theorem idsW_len (st : WS) (l : List ID) : (idsW st l).1.length ≤ st.1.length + 903 := putW_len _ _ _ (idsS_len _ _)
theorem numsW_take (st : WS) (l : List Int) {k : Nat} (hk : k < l.length) : numsW st (l.take (k + 1)) = numW (numsW st (l.take k)) (l.getD k 0) := by
  unfold numsW
  rw [List.take_succ_eq_append_getElem hk, List.foldl_append]
  simp [List.getD, hk]
/-- a writer in memory -/
def Wr (w : World) (B : Nat) (st : WS) : Prop := Blk w B 64 #[.string (bs st.1), .int .i64 st.2]
/-- a call that writes -/
def Wrote (B : Nat) (st : WS) (w : World) (e : Ending) (w' : World) : Prop := e = .returned (.tuple #[]) ∧ Wr w' B st ∧ Keep (fun q => B = q) w w'
theorem Keep.one_trans {B : Nat} {a b c : World} (h : Keep (fun q => B = q) a b) (k : Keep (fun q => B = q) b c) : Keep (fun q => B = q) a c := h.trans (k.mono fun _ _ h => .inl h)
theorem Keep.one {B : Nat} {a b : World} (h : Keep (fun _ => False) a b) : Keep (fun q => B = q) a b := h.mono fun _ _ h => h.elim
set_option maxHeartbeats 1000000 in
theorem wput_any (B : Nat) (st x : WS) (w : World) (h : Wr w B st) :
    Calls Tryz.prog 42 #[.pointer (some ⟨B, 0, none⟩), .string (bs x.1), .int .i64 x.2] w (Wrote B (putW st x) w) := by
  obtain ⟨s, e⟩ := st
  have hb : Blk w B 64 #[.string (bs s), .int .i64 e] := h
  have HB := Lib.hid hb
  have c0 := hb.cell 0
  have c1 := hb.cell 1
  have f0 := hb.frozen 0
  have f1 := hb.frozen 1
  simp at c0 c1
  clear h hb
  by_cases h0 : e = 0
  · subst h0
    have HE : Hid (putW (s, 0) x = x) := Lib.hid rfl
    go_enter Tryz.func42, Tryz.ntmps42
    go_wp2
    go_end0
    refine ⟨rfl, ?_, ((Keep.refl (fun q => B = q) w).setCell (fun _ => rfl) _).setCell (fun _ => rfl) _⟩
    have h2 := (HB.out.set_ 0 (.string (bs x.1))).set_ 1 (.int .i64 x.2)
    rw [HE.out]
    unfold Wr
    simpa using h2
  · have HE := Lib.hid (show putW (s, e) x = (s, e) from if_neg h0)
    have h0' : (e == 0) = false := by simpa using h0
    go_enter Tryz.func42, Tryz.ntmps42
    go_wp2
    go_end0
    exact ⟨rfl, by rw [HE.out]; exact HB.out, Keep.refl _ _⟩
set_option maxHeartbeats 2000000 in
theorem wnum_any (B : Nat) (st : WS) (l : List Int) (g n c : Nat) (w : World) (h : Wr w B st) (hg : Blk w g 3 (l.map fun x => Value.int .i64 x).toArray) (hn : l.length = n) (hl : st.1.length + 7 * n ≤ 1000000000) :
    Calls Tryz.prog 23 #[.pointer (some ⟨B, 0, none⟩), .slice (some ⟨g, 0, none⟩) n c] w (Wrote B (numsW st l) w) := by
  have HW := Lib.hid h
  have HG := Lib.hid hg
  have HNE := Lib.hid (Blk.ne_ h hg (by decide))
  clear h hg
  go_enter Tryz.func23, Tryz.ntmps23
  go_wp2
  go_loopw [8] (fun j wr => ∃ k : Nat, k ≤ n ∧ j = .int .i64 (k : Int) ∧ Hid (Wr wr B (numsW st (l.take k))) ∧ Hid (Keep (fun q => B = q) w wr)) (fun j _ => n - (intOf j).toNat)
  case atStart => exact ⟨0, by omega, rfl, HW, Lib.hid (Keep.refl _ _)⟩
  case round =>
    obtain ⟨k, hk, rfl, HR, HK⟩ := hrel
    by_cases hlt : k < n
    · have hkI : (k : Int) < (n : Int) := by omega
      have hkJ : (0 : Int) ≤ (k : Int) := by omega
      have e2 : IntKind.i64.wrap ((k : Int) + 1) = (k : Int) + 1 := IntWalk.i64_in _ (by omega)
      have hkl : k < l.length := by omega
      have cg := (HG.out.keep HK.out HNE.out).cell k
      have hgk : (l.map fun x => Value.int .i64 x).toArray[k]? = some (.int .i64 (l.getD k 0)) := by simp [List.getD, hkl]
      rw [hgk] at cg
      have HT := Lib.hid (numsW_take st l hkl)
      have HLN := Lib.hid (numsW_len (l.take k) st)
      have HLK := Lib.hid (show (l.take k).length = k by rw [List.length_take]; omega)
      clear hgk
      generalize l.getD k 0 = x at *
      generalize numsW st (l.take k) = sk at *
      obtain ⟨s, e⟩ := sk
      have hw : Blk wr B 64 #[.string (bs s), .int .i64 e] := HR.out
      have c0 := hw.cell 0
      simp at c0
      clear hw
      go_wp2_with fail
      refine (cnum_any s (by have h1 : s.length ≤ _ := HLN.out; have h2 := HLK.out; omega) x _).mono ?_
      rintro e1 W1 ⟨rfl, hk1⟩
      have HW1 : Hid (Wr W1 B (s, e)) := Lib.hid (Blk.keep HR.out hk1 (fun h => h))
      have HK1 := Lib.hid (HK.out.one_trans hk1.one)
      clear hk1 c0
      unfold pairV
      go_wp2_with fail
      refine (wput_any B (s, e) (numS s x) _ HW1.out).mono ?_
      rintro e1 W2 ⟨rfl, hw2, hk2⟩
      have HW2 := Lib.hid hw2
      have HK2 := Lib.hid (HK1.out.one_trans hk2)
      clear hw2 hk2
      go_wp2
      go_roundw
      case rel => exact ⟨k + 1, by omega, by go_num, Lib.hid (by rw [HT.out]; exact HW2.out), HK2⟩
      case measure => simp [intOf]; omega
    · obtain rfl : k = n := by omega
      have HF := Lib.hid (show numsW st (l.take k) = numsW st l by rw [List.take_of_length_le (by omega)])
      go_wp2
      go_end0
      exact ⟨rfl, by rw [← HF.out]; exact HR.out, HK.out⟩
set_option maxHeartbeats 1000000 in
theorem wid_any (B : Nat) (st : WS) (p : ID) (w : World) (h : Wr w B st) (hl : st.1.length ≤ 900000000) :
    Calls Tryz.prog 24 #[.pointer (some ⟨B, 0, none⟩), idV p] w (Wrote B (idW st p) w) := by
  obtain ⟨a, i⟩ := p
  have hb := Blk.new w 24 #[.int .i64 a, .int .i64 i]
  have c0 := hb.cell 0
  have c1 := hb.cell 1
  simp at c0 c1
  have hk := (Keep.refl (fun _ => False) w).alloc (.cells #[.int .i64 a, .int .i64 i] 24)
  have HK := Lib.hid hk
  have HW : Hid (Wr (w.alloc (.cells #[.int .i64 a, .int .i64 i] 24)) B st) := Lib.hid (Blk.keep h hk (fun h => h))
  clear hb hk
  go_enter Tryz.func24, Tryz.ntmps24
  go_wp2_with fail
  refine (wnum_any B st [a, i] _ 2 2 _ ?h1 ?h2 rfl (by omega)).mono ?_
  case h1 => exact Blk.keep HW.out ((Keep.refl (fun _ => False) _).alloc _) (fun h => h)
  case h2 => show Blk _ _ _ #[.int .i64 a, .int .i64 i]; exact Blk.new_ (by simp) _ _
  rintro e1 W2 ⟨rfl, hw2, hk2⟩
  have HW2 := Lib.hid hw2
  have HK2 := Lib.hid (((HK.out.trans (((Keep.refl (fun _ => False) _).alloc _).mono fun _ _ h => h.elim)).one (B := B)).one_trans hk2)
  clear hw2 hk2
  go_wp2
  go_end0
  exact ⟨rfl, HW2.out, HK2.out⟩
set_option maxHeartbeats 1000000 in
theorem wids_any (B : Nat) (st : WS) (A : Option Addr) (n c : Nat) (l : List ID) (w : World) (h : Wr w B st) (hl : st.1.length ≤ 800000000) (hr : RdI w A n l) (hn : n ≤ 9223372036854775806) :
    Calls Tryz.prog 44 #[.pointer (some ⟨B, 0, none⟩), .slice A n c] w (Wrote B (idsW st l) w) := by
  obtain ⟨s, e⟩ := st
  have HR := Lib.hid hr
  have hb : Blk w B 64 #[.string (bs s), .int .i64 e] := h
  have HB := Lib.hid hb
  have c0 := hb.cell 0
  simp at c0
  clear h hb hr
  go_enter Tryz.func44, Tryz.ntmps44
  go_wp2_with fail
  refine (cids_any s hl A n c l _ HR.out hn).mono ?_
  rintro e1 W1 ⟨rfl, hk1⟩
  have HW1 : Hid (Wr W1 B (s, e)) := Lib.hid (Blk.keep HB.out hk1 (fun h => h))
  have HK1 := Lib.hid (hk1.one (B := B))
  clear hk1 c0
  unfold pairV
  go_wp2_with fail
  refine (wput_any B (s, e) (idsS s l) _ HW1.out).mono ?_
  rintro e1 W2 ⟨rfl, hw2, hk2⟩
  have HW2 := Lib.hid hw2
  have HK2 := Lib.hid (HK1.out.one_trans hk2)
  clear hw2 hk2
  go_wp2
  go_end0
  exact ⟨rfl, HW2.out, HK2.out⟩
end Go.Proofs.YtgoldgamjogadaaGreat

namespace Go.Proofs.YtgoldgamjogadaaGreat
open Go.RowKit Go
set_option maxRecDepth 100000
attribute [local go_sem] bs_toList bs_size bs_get

structure RowM where
  of : ID
  ver : Int
  no : List ID
deriving instance DecidableEq for RowM
def row0 : RowM := ⟨(0, 0), 0, []⟩
structure VwM where
  mem : List Mem
  fl : List ID
  rows : List RowM
  clk : List Tick
  seen : List ID
deriving instance DecidableEq for VwM
/-- lists in memory, as values -/
def IsI (w : World) (v : Value) (l : List ID) : Prop := ∃ A n c, v = .slice A n c ∧ RdI w A n l
def IsMm (w : World) (v : Value) (l : List Mem) : Prop := ∃ A n c, v = .slice A n c ∧ RdMem w A n l
def IsTk (w : World) (v : Value) (l : List Tick) : Prop := ∃ A n c, v = .slice A n c ∧ RdT w A n l
def RdRow (w : World) (A : Option Addr) (n : Nat) (l : List RowM) : Prop := l.length = n ∧ ∀ i, i < n → ∃ g off v, A = some ⟨g, off, none⟩ ∧ w.cell? ⟨g, off + i * 4, none⟩ = some (.int .i64 (l.getD i row0).of.1) ∧ w.cell? ⟨g, off + i * 4 + 1, none⟩ = some (.int .i64 (l.getD i row0).of.2) ∧ w.cell? ⟨g, off + i * 4 + 2, none⟩ = some (.int .i64 (l.getD i row0).ver) ∧ w.cell? ⟨g, off + i * 4 + 3, none⟩ = some v ∧ IsI w v (l.getD i row0).no
def IsR (w : World) (v : Value) (l : List RowM) : Prop := ∃ A n c, v = .slice A n c ∧ RdRow w A n l
theorem IsI.keep0 {w w' : World} {v : Value} {l : List ID} (h : IsI w v l) (hk : Keep (fun _ => False) w w') : IsI w' v l := by
  obtain ⟨A, n, c, e, h⟩ := h; exact ⟨A, n, c, e, h.keep0 hk⟩
theorem IsMm.keep0 {w w' : World} {v : Value} {l : List Mem} (h : IsMm w v l) (hk : Keep (fun _ => False) w w') : IsMm w' v l := by
  obtain ⟨A, n, c, e, h⟩ := h; exact ⟨A, n, c, e, h.keep0 hk⟩
theorem IsTk.keep0 {w w' : World} {v : Value} {l : List Tick} (h : IsTk w v l) (hk : Keep (fun _ => False) w w') : IsTk w' v l := by
  obtain ⟨A, n, c, e, h⟩ := h; exact ⟨A, n, c, e, h.keep0 hk⟩
theorem RdRow.keep0 {w w' : World} {A : Option Addr} {n : Nat} {l : List RowM} (h : RdRow w A n l) (hk : Keep (fun _ => False) w w') : RdRow w' A n l :=
  ⟨h.1, fun i hi => by
    obtain ⟨g, off, v, e, h0, h1, h2, h3, h4⟩ := h.2 i hi
    exact ⟨g, off, v, e, hk.cell h0 (fun h => h), hk.cell h1 (fun h => h), hk.cell h2 (fun h => h), hk.cell h3 (fun h => h), h4.keep0 hk⟩⟩
theorem IsR.keep0 {w w' : World} {v : Value} {l : List RowM} (h : IsR w v l) (hk : Keep (fun _ => False) w w') : IsR w' v l := by
  obtain ⟨A, n, c, e, h⟩ := h; exact ⟨A, n, c, e, h.keep0 hk⟩
/-- a view in memory: the values of its five lists -/
structure IsV (w : World) (m f r c s : Value) (v : VwM) : Prop where
  mem : IsMm w m v.mem
  fl : IsI w f v.fl
  rows : IsR w r v.rows
  clk : IsTk w c v.clk
  seen : IsI w s v.seen
  stat : ∀ x ∈ v.mem, 0 ≤ x.st ∧ x.st < 256
theorem IsV.keep0 {w w' : World} {m f r c s : Value} {v : VwM} (h : IsV w m f r c s v) (hk : Keep (fun _ => False) w w') : IsV w' m f r c s v :=
  ⟨h.mem.keep0 hk, h.fl.keep0 hk, h.rows.keep0 hk, h.clk.keep0 hk, h.seen.keep0 hk, h.stat⟩
/-- no list is long -/
structure Few (v : VwM) : Prop where
  mem : v.mem.length ≤ 10000
  fl : v.fl.length ≤ 10000
  rows : v.rows.length ≤ 10000
  clk : v.clk.length ≤ 10000
  seen : v.seen.length ≤ 10000
  no : ∀ r ∈ v.rows, r.no.length ≤ 10000

def memW (st : WS) (x : Mem) : WS := numsW (idW st x.id) [x.st, x.no]
def rowW (st : WS) (r : RowM) : WS := idsW (numsW (idW st r.of) [r.ver]) r.no
def tickW (st : WS) (t : Tick) : WS := numsW (idW st t.1) [t.2]
def viewW (st : WS) (v : VwM) : WS :=
  idsW (v.clk.foldl tickW (numsW (v.rows.foldl rowW (numsW (idsW (v.mem.foldl memW (numsW st [(v.mem.length : Int)])) v.fl) [(v.rows.length : Int)])) [(v.clk.length : Int)])) v.seen
theorem memW_len (st : WS) (x : Mem) : (memW st x).1.length ≤ st.1.length + 1000 := by unfold memW; have := numsW_len [x.st, x.no] (idW st x.id); have := idW_len st x.id; simp only [List.length_cons, List.length_nil] at *; omega
theorem rowW_len (st : WS) (x : RowM) : (rowW st x).1.length ≤ st.1.length + 1000 := by unfold rowW; have := idsW_len (numsW (idW st x.of) [x.ver]) x.no; have := numsW_len [x.ver] (idW st x.of); have := idW_len st x.of; simp only [List.length_cons, List.length_nil] at *; omega
theorem tickW_len (st : WS) (x : Tick) : (tickW st x).1.length ≤ st.1.length + 1000 := by unfold tickW; have := numsW_len [x.2] (idW st x.1); have := idW_len st x.1; simp only [List.length_cons, List.length_nil] at *; omega
theorem foldW_len {α : Type} (f : WS → α → WS) (hf : ∀ st x, (f st x).1.length ≤ st.1.length + 1000) : ∀ (l : List α) (st : WS), (l.foldl f st).1.length ≤ st.1.length + 1000 * l.length
  | [], _ => by simp
  | x :: l, st => by
    have h1 := foldW_len f hf l (f st x)
    have h2 := hf st x
    rw [List.foldl_cons, List.length_cons]; omega
theorem foldW_take {α : Type} (f : WS → α → WS) (l : List α) (st : WS) (d : α) {k : Nat} (hk : k < l.length) : (l.take (k + 1)).foldl f st = f ((l.take k).foldl f st) (l.getD k d) := by
  rw [List.take_succ_eq_append_getElem hk, List.foldl_append]
  simp [List.getD, hk]
set_option maxHeartbeats 1000000 in
theorem wnum1_any (B : Nat) (st : WS) (x : Int) (w : World) (h : Wr w B st) (hl : st.1.length ≤ 900000000) :
    Calls Tryz.prog 23 #[.pointer (some ⟨B, 0, none⟩), .slice (some ⟨w.heap.size, 0, none⟩) 1 1] (w.alloc (.cells #[.int .i64 x] 3)) (Wrote B (numsW st [x]) w) := by
  have hk := (Keep.refl (fun _ => False) w).alloc (.cells #[.int .i64 x] 3)
  refine (wnum_any B st [x] w.heap.size 1 1 _ (Blk.keep h hk (fun h => h)) ?_ rfl (by omega)).mono ?_
  · show Blk _ _ _ #[.int .i64 x]
    exact Blk.new _ _ _
  · rintro e W ⟨rfl, h1, h2⟩
    exact ⟨rfl, h1, hk.one.one_trans h2⟩
set_option maxHeartbeats 1000000 in
theorem wnum2_any (B : Nat) (st : WS) (x y : Int) (w : World) (h : Wr w B st) (hl : st.1.length ≤ 900000000) :
    Calls Tryz.prog 23 #[.pointer (some ⟨B, 0, none⟩), .slice (some ⟨w.heap.size, 0, none⟩) 2 2] (w.alloc (.cells #[.int .i64 x, .int .i64 y] 3)) (Wrote B (numsW st [x, y]) w) := by
  have hk := (Keep.refl (fun _ => False) w).alloc (.cells #[.int .i64 x, .int .i64 y] 3)
  refine (wnum_any B st [x, y] w.heap.size 2 2 _ (Blk.keep h hk (fun h => h)) ?_ rfl (by omega)).mono ?_
  · show Blk _ _ _ #[.int .i64 x, .int .i64 y]
    exact Blk.new _ _ _
  · rintro e W ⟨rfl, h1, h2⟩
    exact ⟨rfl, h1, hk.one.one_trans h2⟩
/-- data read in w0 is there, while nothing but a newer block is written -/
theorem Keep.since {B : Nat} {w0 w w' : World} (h : Keep (fun _ => False) w0 w) (hB : w0.heap.size ≤ B) (k : Keep (fun q => B = q) w w') : Keep (fun _ => False) w0 w' :=
  h.trans (k.mono fun _ _ e => .inr (by omega))
set_option maxHeartbeats 8000000 in
theorem wview_any (B : Nat) (st : WS) (m f r c s : Value) (v : VwM) (w0 w : World) (h : Wr w B st) (hv : IsV w0 m f r c s v) (hk : Keep (fun _ => False) w0 w) (hB : w0.heap.size ≤ B) (hf : Few v) (hl : st.1.length ≤ 1000000) :
    Calls Tryz.prog 25 #[.pointer (some ⟨B, 0, none⟩), .agg #[m, f, r, c, s]] w (Wrote B (viewW st v) w) := by
  obtain ⟨mem, fl, rows, clk, seen⟩ := v
  obtain ⟨⟨Am, nm, cm, rfl, hm⟩, ⟨Af, nf, cf, rfl, hfl⟩, ⟨Ar, nr, cr, rfl, hr⟩, ⟨Ac, nc, cc, rfl, hc⟩, ⟨As, ns, cs, rfl, hs⟩, hst⟩ := hv
  obtain ⟨n1, n2, n3, n4, n5, n6⟩ := hf
  have HLm := Lib.hid hm.1
  have HLf := Lib.hid hfl.1
  have HLr := Lib.hid hr.1
  have HLc := Lib.hid hc.1
  have HLs := Lib.hid hs.1
  have HM := Lib.hid hm
  have HF := Lib.hid hfl
  have HR := Lib.hid hr
  have HC := Lib.hid hc
  have HS := Lib.hid hs
  have HST := Lib.hid hst
  have HN6 := Lib.hid n6
  simp only at n1 n2 n3 n4 n5
  rw [hm.1] at n1
  rw [hfl.1] at n2
  rw [hr.1] at n3
  rw [hc.1] at n4
  rw [hs.1] at n5
  clear hm hfl hr hc hs hst n6
  obtain ⟨W0, hW0⟩ : ∃ W0, w.alloc (.cells #[.slice Am nm cm, .slice Af nf cf, .slice Ar nr cr, .slice Ac nc cc, .slice As ns cs] 33) = W0 := ⟨_, rfl⟩
  have hb : Blk W0 w.heap.size 33 #[.slice Am nm cm, .slice Af nf cf, .slice Ar nr cr, .slice Ac nc cc, .slice As ns cs] := by rw [← hW0]; exact Blk.new _ _ _
  have hkb : Keep (fun _ => False) w W0 := by rw [← hW0]; exact (Keep.refl (fun _ => False) w).alloc _
  have x0 := hb.cell 0
  simp at x0
  have HBX := Lib.hid hb
  have HNE := Lib.hid (show ¬ B = w.heap.size from fun e => by have := Blk.lt h; omega)
  have HK0 := Lib.hid (hk.trans (hkb.mono fun _ _ h => h.elim))
  have HW : Hid (Wr W0 B st) := Lib.hid (Blk.keep h hkb (fun h => h))
  have HKB := Lib.hid (hkb.one (B := B))
  have HBB := Lib.hid hB
  clear hb hkb h hk hB
  go_enter Tryz.func25, Tryz.ntmps25
  go_wp2_with fail
  refine (wnum1_any B st nm _ HW.out (by omega)).mono ?_
  rintro e1 W ⟨rfl, hw, hk⟩
  have HW := Lib.hid hw
  have HBX := Lib.hid (HBX.out.keep hk HNE.out)
  have HK0 := Lib.hid (HK0.out.since HBB.out hk)
  have HKB := Lib.hid (HKB.out.one_trans hk)
  clear x0 hW0
  clear hw hk
  have hbx := HBX.out
  have x0 := hbx.cell 0
  simp at x0
  clear hbx
  go_wp2
  have HL1 := Lib.hid (numsW_len [(nm : Int)] st)
  obtain ⟨st1, h1⟩ : ∃ q, numsW st [(nm : Int)] = q := ⟨_, rfl⟩
  rw [h1] at HW HL1
  have HE1 := Lib.hid h1
  clear h1 x0
  go_loopw [19] (fun j wr => ∃ k : Nat, k ≤ nm ∧ j = .int .i64 (k : Int) ∧ Hid (Wr wr B ((mem.take k).foldl memW st1)) ∧ Hid (Blk wr w.heap.size 33 #[.slice Am nm cm, .slice Af nf cf, .slice Ar nr cr, .slice Ac nc cc, .slice As ns cs]) ∧ Hid (Keep (fun _ => False) w0 wr) ∧ Hid (Keep (fun q => B = q) w wr)) (fun j _ => nm - (intOf j).toNat)
  case atStart => exact ⟨0, by omega, rfl, HW, HBX, HK0, HKB⟩
  case round =>
    obtain ⟨k, hk, rfl, HW, HBX, HK0, HKB⟩ := hrel
    by_cases hlt : k < nm
    · have hkI : (k : Int) < (nm : Int) := by omega
      have hkJ : (0 : Int) ≤ (k : Int) := by omega
      have e2 : IntKind.i64.wrap ((k : Int) + 1) = (k : Int) + 1 := IntWalk.i64_in _ (by omega)
      have hkl : k < mem.length := by rw [HLm.out]; exact hlt
      have HT := Lib.hid (foldW_take memW mem st1 zeroMem hkl)
      have HLN := Lib.hid (show ((mem.take k).foldl memW st1).1.length ≤ 20000000 by
        have h1 := foldW_len memW memW_len (mem.take k) st1
        have h2 := HL1.out
        rw [List.length_take] at h1
        try simp only [List.length_cons, List.length_nil] at h1 h2
        omega)
      obtain ⟨g, off, rfl, c0, c1, c2, c3⟩ := (HM.out.keep0 HK0.out).at_ hlt
      have HSX := Lib.hid (HST.out (mem.getD k zeroMem) (by simp [List.getD, hkl]))
      generalize (mem.take k).foldl memW st1 = sk at *
      generalize mem.getD k zeroMem = x at *
      obtain ⟨a, i, t, q⟩ := x
      have ht := HSX.out
      have e3 : IntKind.i64.wrap t = t := IntWalk.i64_in _ (by simp only at ht; omega)
      clear ht
      try simp only at c0 c1 c2 c3
      have hx := Blk.new wr 35 #[.int .i64 a, .int .i64 i, .int .u8 t, .int .i64 q]
      have hkx := (Keep.refl (fun _ => False) wr).alloc (.cells #[.int .i64 a, .int .i64 i, .int .u8 t, .int .i64 q] 35)
      have HX := Lib.hid hx
      have HNX := Lib.hid (show ¬ B = wr.heap.size from fun e => by have := Blk.lt HW.out; omega)
      have HW : Hid (Wr (wr.alloc (.cells #[.int .i64 a, .int .i64 i, .int .u8 t, .int .i64 q] 35)) B sk) := Lib.hid (Blk.keep HW.out hkx (fun h => h))
      have HBX := Lib.hid (HBX.out.keep hkx (fun h => h))
      have HK0 := Lib.hid (keep0_trans _ _ _ HK0.out hkx)
      have HKB := Lib.hid (HKB.out.one_trans hkx.one)
      clear hkx
      have y0 := hx.cell 0
      simp at y0
      have y1 := hx.cell 1
      simp at y1
      clear hx
      go_wp2_with fail
      refine (wid_any B sk (a, i) _ HW.out (by have := HLN.out; omega)).mono ?_
      rintro e1 W ⟨rfl, hw, hk⟩
      have HW := Lib.hid hw
      have HBX := Lib.hid (HBX.out.keep hk HNE.out)
      have HK0 := Lib.hid (HK0.out.since HBB.out hk)
      have HKB := Lib.hid (HKB.out.one_trans hk)
      have hx := HX.out.keep hk HNX.out
      have HX := Lib.hid hx
      clear y0
      clear y1
      clear hw hk
      have y2 := hx.cell 2
      simp at y2
      have y3 := hx.cell 3
      simp at y3
      clear hx
      go_wp2_with fail
      refine (wnum2_any B (idW sk (a, i)) t q _ HW.out (by have := HLN.out; have := idW_len sk (a, i); omega)).mono ?_
      rintro e1 W ⟨rfl, hw, hk⟩
      have HW := Lib.hid hw
      have HBX := Lib.hid (HBX.out.keep hk HNE.out)
      have HK0 := Lib.hid (HK0.out.since HBB.out hk)
      have HKB := Lib.hid (HKB.out.one_trans hk)
      have hx := HX.out.keep hk HNX.out
      have HX := Lib.hid hx
      clear y2
      clear y3
      clear hw hk
      clear hx
      go_wp2
      go_roundw
      case rel => exact ⟨k + 1, by omega, by go_num, Lib.hid (by rw [HT.out]; exact HW.out), HBX, HK0, HKB⟩
      case measure => simp [intOf]; omega
    · obtain rfl : nm = k := by omega
      have HF2 := Lib.hid (show (mem.take nm).foldl memW st1 = mem.foldl memW st1 by rw [List.take_of_length_le (by rw [HLm.out]; exact Nat.le_refl _)])
      rw [HF2.out] at HW
      have HLA := Lib.hid (show (mem.foldl memW st1).1.length ≤ 20000000 by
        have h1 := foldW_len memW memW_len mem st1
        have h2 := HL1.out
        rw [HLm.out] at h1
        simp only [List.length_cons, List.length_nil] at h1 h2
        omega)
      obtain ⟨st2, h2⟩ : ∃ q, mem.foldl memW st1 = q := ⟨_, rfl⟩
      rw [h2] at HW HLA
      have HE2 := Lib.hid h2
      clear h2
      have hbx := HBX.out
      have x1 := hbx.cell 1
      simp at x1
      clear hbx
      go_wp2_with fail
      refine (wids_any B st2 Af nf cf fl _ HW.out (by have := HLA.out; omega) (HF.out.keep0 HK0.out) (by omega)).mono ?_
      rintro e1 W ⟨rfl, hw, hk⟩
      have HW := Lib.hid hw
      have HBX := Lib.hid (HBX.out.keep hk HNE.out)
      have HK0 := Lib.hid (HK0.out.since HBB.out hk)
      have HKB := Lib.hid (HKB.out.one_trans hk)
      clear x1
      clear hw hk
      have hbx := HBX.out
      have x2 := hbx.cell 2
      simp at x2
      clear hbx
      go_wp2_with fail
      refine (wnum1_any B (idsW st2 fl) nr _ HW.out (by have := HLA.out; have := idsW_len st2 fl; omega)).mono ?_
      rintro e1 W ⟨rfl, hw, hk⟩
      have HW := Lib.hid hw
      have HBX := Lib.hid (HBX.out.keep hk HNE.out)
      have HK0 := Lib.hid (HK0.out.since HBB.out hk)
      have HKB := Lib.hid (HKB.out.one_trans hk)
      clear x2
      clear hw hk
      have hbx := HBX.out
      have x2 := hbx.cell 2
      simp at x2
      clear hbx
      go_wp2
      have HL3 := Lib.hid (show (numsW (idsW st2 fl) [(nr : Int)]).1.length ≤ 20002000 by
        have h1 := numsW_len [(nr : Int)] (idsW st2 fl)
        have h2 := idsW_len st2 fl
        have h3 := HLA.out
        simp only [List.length_cons, List.length_nil] at h1
        omega)
      obtain ⟨st3, h3⟩ : ∃ q, numsW (idsW st2 fl) [(nr : Int)] = q := ⟨_, rfl⟩
      rw [h3] at HW HL3
      have HE3 := Lib.hid h3
      clear h3 x2
      go_loopw [49] (fun j wr => ∃ k : Nat, k ≤ nr ∧ j = .int .i64 (k : Int) ∧ Hid (Wr wr B ((rows.take k).foldl rowW st3)) ∧ Hid (Blk wr w.heap.size 33 #[.slice Am nm cm, .slice Af nf cf, .slice Ar nr cr, .slice Ac nc cc, .slice As ns cs]) ∧ Hid (Keep (fun _ => False) w0 wr) ∧ Hid (Keep (fun q => B = q) w wr)) (fun j _ => nr - (intOf j).toNat)
      case atStart => exact ⟨0, by omega, rfl, HW, HBX, HK0, HKB⟩
      case round =>
        obtain ⟨k, hk, rfl, HW, HBX, HK0, HKB⟩ := hrel
        by_cases hlt : k < nr
        · have hkI : (k : Int) < (nr : Int) := by omega
          have hkJ : (0 : Int) ≤ (k : Int) := by omega
          have e2 : IntKind.i64.wrap ((k : Int) + 1) = (k : Int) + 1 := IntWalk.i64_in _ (by omega)
          have hkl : k < rows.length := by rw [HLr.out]; exact hlt
          have HT := Lib.hid (foldW_take rowW rows st3 row0 hkl)
          have HLN := Lib.hid (show ((rows.take k).foldl rowW st3).1.length ≤ 40000000 by
            have h1 := foldW_len rowW rowW_len (rows.take k) st3
            have h2 := HL3.out
            rw [List.length_take] at h1
            try simp only [List.length_cons, List.length_nil] at h1 h2
            omega)
          obtain ⟨g, off, vn, rfl, c0, c1, c2, c3, ⟨An, nn, cn, rfl, hno⟩⟩ := HR.out.2 k hlt
          have c0 := HK0.out.cell c0 (fun h => h)
          have c1 := HK0.out.cell c1 (fun h => h)
          have c2 := HK0.out.cell c2 (fun h => h)
          have c3 := HK0.out.cell c3 (fun h => h)
          have HNO := Lib.hid hno
          have HNN := Lib.hid (show nn ≤ 10000 by have h1 := HN6.out (rows.getD k row0) (by simp [List.getD, hkl]); rw [hno.1] at h1; exact h1)
          clear hno
          generalize (rows.take k).foldl rowW st3 = sk at *
          generalize rows.getD k row0 = x at *
          obtain ⟨⟨a, i⟩, t, no⟩ := x
          try simp only at c0 c1 c2 c3
          have hx := Blk.new wr 37 #[.int .i64 a, .int .i64 i, .int .i64 t, .slice An nn cn]
          have hkx := (Keep.refl (fun _ => False) wr).alloc (.cells #[.int .i64 a, .int .i64 i, .int .i64 t, .slice An nn cn] 37)
          have HX := Lib.hid hx
          have HNX := Lib.hid (show ¬ B = wr.heap.size from fun e => by have := Blk.lt HW.out; omega)
          have HW : Hid (Wr (wr.alloc (.cells #[.int .i64 a, .int .i64 i, .int .i64 t, .slice An nn cn] 37)) B sk) := Lib.hid (Blk.keep HW.out hkx (fun h => h))
          have HBX := Lib.hid (HBX.out.keep hkx (fun h => h))
          have HK0 := Lib.hid (keep0_trans _ _ _ HK0.out hkx)
          have HKB := Lib.hid (HKB.out.one_trans hkx.one)
          clear hkx
          have y0 := hx.cell 0
          simp at y0
          have y1 := hx.cell 1
          simp at y1
          clear hx
          go_wp2_with fail
          refine (wid_any B sk (a, i) _ HW.out (by have := HLN.out; omega)).mono ?_
          rintro e1 W ⟨rfl, hw, hk⟩
          have HW := Lib.hid hw
          have HBX := Lib.hid (HBX.out.keep hk HNE.out)
          have HK0 := Lib.hid (HK0.out.since HBB.out hk)
          have HKB := Lib.hid (HKB.out.one_trans hk)
          have hx := HX.out.keep hk HNX.out
          have HX := Lib.hid hx
          clear y0
          clear y1
          clear hw hk
          have y2 := hx.cell 2
          simp at y2
          clear hx
          go_wp2_with fail
          refine (wnum1_any B (idW sk (a, i)) t _ HW.out (by have := HLN.out; have := idW_len sk (a, i); omega)).mono ?_
          rintro e1 W ⟨rfl, hw, hk⟩
          have HW := Lib.hid hw
          have HBX := Lib.hid (HBX.out.keep hk HNE.out)
          have HK0 := Lib.hid (HK0.out.since HBB.out hk)
          have HKB := Lib.hid (HKB.out.one_trans hk)
          have hx := HX.out.keep hk HNX.out
          have HX := Lib.hid hx
          clear y2
          clear hw hk
          have y3 := hx.cell 3
          simp at y3
          clear hx
          go_wp2_with fail
          refine (wids_any B (numsW (idW sk (a, i)) [t]) An nn cn no _ HW.out (by have := HLN.out; have := idW_len sk (a, i); have := numsW_len [t] (idW sk (a, i)); simp only [List.length_cons, List.length_nil] at *; omega) (HNO.out.keep0 HK0.out) (by have := HNN.out; omega)).mono ?_
          rintro e1 W ⟨rfl, hw, hk⟩
          have HW := Lib.hid hw
          have HBX := Lib.hid (HBX.out.keep hk HNE.out)
          have HK0 := Lib.hid (HK0.out.since HBB.out hk)
          have HKB := Lib.hid (HKB.out.one_trans hk)
          have hx := HX.out.keep hk HNX.out
          have HX := Lib.hid hx
          clear y3
          clear hw hk
          clear hx
          go_wp2
          go_roundw
          case rel => exact ⟨k + 1, by omega, by go_num, Lib.hid (by rw [HT.out]; exact HW.out), HBX, HK0, HKB⟩
          case measure => simp [intOf]; omega
        · obtain rfl : nr = k := by omega
          have HF2 := Lib.hid (show (rows.take nr).foldl rowW st3 = rows.foldl rowW st3 by rw [List.take_of_length_le (by rw [HLr.out]; exact Nat.le_refl _)])
          rw [HF2.out] at HW
          have HLB := Lib.hid (show (rows.foldl rowW st3).1.length ≤ 40000000 by
            have h1 := foldW_len rowW rowW_len rows st3
            have h2 := HL3.out
            rw [HLr.out] at h1
            omega)
          obtain ⟨st4, h4⟩ : ∃ q, rows.foldl rowW st3 = q := ⟨_, rfl⟩
          rw [h4] at HW HLB
          have HE4 := Lib.hid h4
          clear h4
          have hbx := HBX.out
          have x3 := hbx.cell 3
          simp at x3
          clear hbx
          go_wp2_with fail
          refine (wnum1_any B st4 nc _ HW.out (by have := HLB.out; omega)).mono ?_
          rintro e1 W ⟨rfl, hw, hk⟩
          have HW := Lib.hid hw
          have HBX := Lib.hid (HBX.out.keep hk HNE.out)
          have HK0 := Lib.hid (HK0.out.since HBB.out hk)
          have HKB := Lib.hid (HKB.out.one_trans hk)
          clear x3
          clear hw hk
          have hbx := HBX.out
          have x3 := hbx.cell 3
          simp at x3
          clear hbx
          go_wp2
          have HL5 := Lib.hid (show (numsW st4 [(nc : Int)]).1.length ≤ 40002000 by
            have h1 := numsW_len [(nc : Int)] st4
            have h3 := HLB.out
            simp only [List.length_cons, List.length_nil] at h1
            omega)
          obtain ⟨st5, h5⟩ : ∃ q, numsW st4 [(nc : Int)] = q := ⟨_, rfl⟩
          rw [h5] at HW HL5
          have HE5 := Lib.hid h5
          clear h5 x3
          go_loopw [76] (fun j wr => ∃ k : Nat, k ≤ nc ∧ j = .int .i64 (k : Int) ∧ Hid (Wr wr B ((clk.take k).foldl tickW st5)) ∧ Hid (Blk wr w.heap.size 33 #[.slice Am nm cm, .slice Af nf cf, .slice Ar nr cr, .slice Ac nc cc, .slice As ns cs]) ∧ Hid (Keep (fun _ => False) w0 wr) ∧ Hid (Keep (fun q => B = q) w wr)) (fun j _ => nc - (intOf j).toNat)
          case atStart => exact ⟨0, by omega, rfl, HW, HBX, HK0, HKB⟩
          case round =>
            obtain ⟨k, hk, rfl, HW, HBX, HK0, HKB⟩ := hrel
            by_cases hlt : k < nc
            · have hkI : (k : Int) < (nc : Int) := by omega
              have hkJ : (0 : Int) ≤ (k : Int) := by omega
              have e2 : IntKind.i64.wrap ((k : Int) + 1) = (k : Int) + 1 := IntWalk.i64_in _ (by omega)
              have hkl : k < clk.length := by rw [HLc.out]; exact hlt
              have HT := Lib.hid (foldW_take tickW clk st5 tick0 hkl)
              have HLN := Lib.hid (show ((clk.take k).foldl tickW st5).1.length ≤ 60000000 by
                have h1 := foldW_len tickW tickW_len (clk.take k) st5
                have h2 := HL5.out
                rw [List.length_take] at h1
                try simp only [List.length_cons, List.length_nil] at h1 h2
                omega)
              obtain ⟨g, off, rfl, c0, c1, c2⟩ := (HC.out.keep0 HK0.out).at_ hlt
              generalize (clk.take k).foldl tickW st5 = sk at *
              generalize clk.getD k tick0 = x at *
              obtain ⟨⟨a, i⟩, t⟩ := x
              try simp only at c0 c1 c2
              have hx := Blk.new wr 27 #[.int .i64 a, .int .i64 i, .int .i64 t]
              have hkx := (Keep.refl (fun _ => False) wr).alloc (.cells #[.int .i64 a, .int .i64 i, .int .i64 t] 27)
              have HX := Lib.hid hx
              have HNX := Lib.hid (show ¬ B = wr.heap.size from fun e => by have := Blk.lt HW.out; omega)
              have HW : Hid (Wr (wr.alloc (.cells #[.int .i64 a, .int .i64 i, .int .i64 t] 27)) B sk) := Lib.hid (Blk.keep HW.out hkx (fun h => h))
              have HBX := Lib.hid (HBX.out.keep hkx (fun h => h))
              have HK0 := Lib.hid (keep0_trans _ _ _ HK0.out hkx)
              have HKB := Lib.hid (HKB.out.one_trans hkx.one)
              clear hkx
              have y0 := hx.cell 0
              simp at y0
              have y1 := hx.cell 1
              simp at y1
              clear hx
              go_wp2_with fail
              refine (wid_any B sk (a, i) _ HW.out (by have := HLN.out; omega)).mono ?_
              rintro e1 W ⟨rfl, hw, hk⟩
              have HW := Lib.hid hw
              have HBX := Lib.hid (HBX.out.keep hk HNE.out)
              have HK0 := Lib.hid (HK0.out.since HBB.out hk)
              have HKB := Lib.hid (HKB.out.one_trans hk)
              have hx := HX.out.keep hk HNX.out
              have HX := Lib.hid hx
              clear y0
              clear y1
              clear hw hk
              have y2 := hx.cell 2
              simp at y2
              clear hx
              go_wp2_with fail
              refine (wnum1_any B (idW sk (a, i)) t _ HW.out (by have := HLN.out; have := idW_len sk (a, i); omega)).mono ?_
              rintro e1 W ⟨rfl, hw, hk⟩
              have HW := Lib.hid hw
              have HBX := Lib.hid (HBX.out.keep hk HNE.out)
              have HK0 := Lib.hid (HK0.out.since HBB.out hk)
              have HKB := Lib.hid (HKB.out.one_trans hk)
              have hx := HX.out.keep hk HNX.out
              have HX := Lib.hid hx
              clear y2
              clear hw hk
              clear hx
              go_wp2
              go_roundw
              case rel => exact ⟨k + 1, by omega, by go_num, Lib.hid (by rw [HT.out]; exact HW.out), HBX, HK0, HKB⟩
              case measure => simp [intOf]; omega
            · obtain rfl : nc = k := by omega
              have HF2 := Lib.hid (show (clk.take nc).foldl tickW st5 = clk.foldl tickW st5 by rw [List.take_of_length_le (by rw [HLc.out]; exact Nat.le_refl _)])
              rw [HF2.out] at HW
              have HLC := Lib.hid (show (clk.foldl tickW st5).1.length ≤ 60000000 by
                have h1 := foldW_len tickW tickW_len clk st5
                have h2 := HL5.out
                rw [HLc.out] at h1
                omega)
              have hbx := HBX.out
              have x4 := hbx.cell 4
              simp at x4
              clear hbx
              go_wp2_with fail
              refine (wids_any B (clk.foldl tickW st5) As ns cs seen _ HW.out (by have := HLC.out; omega) (HS.out.keep0 HK0.out) (by omega)).mono ?_
              rintro e1 W ⟨rfl, hw, hk⟩
              have HW := Lib.hid hw
              have HBX := Lib.hid (HBX.out.keep hk HNE.out)
              have HK0 := Lib.hid (HK0.out.since HBB.out hk)
              have HKB := Lib.hid (HKB.out.one_trans hk)
              clear x4
              clear hw hk
              go_wp2
              go_end0
              refine ⟨rfl, ?_, HKB.out⟩
              have hh := HW.out
              rw [← HE5.out, ← HE4.out, ← HE3.out, ← HE2.out, ← HE1.out] at hh
              unfold viewW
              simp only
              rw [HLm.out, HLr.out, HLc.out]
              exact hh
end Go.Proofs.YtgoldgamjogadaaGreat
