/-
  Stage: the closure of Ways.
-/
import Derived.Test.YtngjecbdajognaaDoorStgF
import Derived.Outline
namespace Go.Proofs.YtngjecbdajognaaDoor
open Go.RowKit

def foundT (to d a i : Nat) : List (List Nat) := ((nextT a).take i).flatMap fun s => (waysT to d s).map (s :: ·)
theorem foundT_succ (to d a i : Nat) (h : i < (nextT a).length) : foundT to d a (i + 1) = foundT to d a i ++ (waysT to d ((nextT a).getD i 0)).map ((nextT a).getD i 0 :: ·) := by
  unfold foundT
  rw [List.take_succ_eq_append_getElem h, List.flatMap_append]
  simp [List.getD, h]
theorem foundT_all (to d a : Nat) (h : a ≠ to) : foundT to d a (nextT a).length = waysT to (d + 1) a := by
  unfold foundT
  rw [List.take_length, waysT, if_neg h]
theorem Laid.keep {S : Nat → Prop} {W W' : World} (h : Laid W) (hk : Keep S W W') (hs : ∀ b, b < 2 → ¬ S b) : Laid W' :=
  ⟨fun f t hf ht => hk.cell (h.1 f t hf ht) (hs 0 (by omega)), fun i hi => hk.cell (h.2 i hi) (hs 1 (by omega))⟩
theorem Laid.size {W : World} (h : Laid W) (b : Nat) (hb : b < 2) : b < W.heap.size := by
  rcases (by omega : b = 0 ∨ b = 1) with rfl | rfl
  · exact World.block_lt_of_cell? W _ (h.1 0 0 (by omega) (by omega))
  · exact World.block_lt_of_cell? W _ (h.2 0 (by omega))
theorem waysT_len : ∀ to, to < 9 → ∀ d, d ≤ 8 → ∀ a, a < 9 → (waysT to d a).length ≤ 1000 := by decide +kernel

/-- what stands behind a round -/
def Next (w w4 : World) (bo : Nat) (orow wrow : Option Nat) (rows : List (Option Nat)) (outs : List (List Nat)) (way : List Nat) (A : Option Addr) (c : Nat) (nrow : Option Nat) (NA : Option Addr) (nc : Nat) (l : List Nat) (found : List (List Nat)) : Prop :=
  ∃ orow4 rows4, Inv w w4 bo orow wrow rows outs way A c nrow NA nc l found orow4 rows4
/-- what stands behind a call of the closure -/
def Walked (w : World) (bo : Nat) (orow wrow : Option Nat) (rows : List (Option Nat)) (outs : List (List Nat)) (way : List Nat) (A : Option Addr) (c : Nat) (fs : List (List Nat)) (e : Ending) (w' : World) : Prop :=
  e = .returned (.tuple #[]) ∧ ∃ orow' rows', Outs w' bo orow' (rows ++ rows') (outs ++ fs.map (way ++ ·)) ∧ Sl w' 5 wrow A way.length c (u8s way) ∧ (∀ r ∈ rows', ∀ g, r = some g → w.heap.size ≤ g) ∧ (orow' = orow ∨ ∃ g, orow' = some g ∧ w.heap.size ≤ g) ∧ Keep (Free bo orow wrow) w w'

set_option maxHeartbeats 2000000 in
theorem walk_round (to bt bo bw : Nat) (d a : Nat) (ih : ∀ s, s ∈ nextT a → ∀ (way : List Nat) (w : World) (A : Option Addr) (c : Nat) (wrow orow : Option Nat) (rows : List (Option Nat)) (outs : List (List Nat)),
      Laid w → w.cell? ⟨bt, 0, none⟩ = some (.int .u8 (to : Int)) → w.cell? ⟨bw, 0, none⟩ = some (walkV bt bo bw) → bo ≠ bt → bo ≠ bw → wrow ≠ some bt → orow ≠ some bt → wrow ≠ some bw → orow ≠ some bw → (∀ b, b < 2 → bo ≠ b ∧ wrow ≠ some b ∧ orow ≠ some b) → Sl w 5 wrow A way.length c (u8s way) → Outs w bo orow rows outs → (∀ r ∈ rows, ∀ g, r = some g → wrow ≠ some g) → way.length ≤ s ∧ way.length ≤ 8 → outs.length + (waysT to d s).length ≤ 100000 →
      Calls Tryd.prog 20 #[.int .u8 (s : Int), .slice A way.length c, .pointer (some ⟨bt, 0, none⟩), .pointer (some ⟨bo, 0, none⟩), .pointer (some ⟨bw, 0, none⟩)] w (Walked w bo orow wrow rows outs way A c (waysT to d s)))
    (ha : a ≠ to) (way : List Nat) (w : World) (A : Option Addr) (c : Nat) (wrow orow : Option Nat) (rows : List (Option Nat)) (outs : List (List Nat))
    (hL : Laid w) (ct : w.cell? ⟨bt, 0, none⟩ = some (.int .u8 (to : Int))) (cw : w.cell? ⟨bw, 0, none⟩ = some (walkV bt bo bw)) (n1 : bo ≠ bt) (n2 : bo ≠ bw) (n3 : wrow ≠ some bt) (n4 : orow ≠ some bt) (n5 : wrow ≠ some bw) (n6 : orow ≠ some bw) (n7 : ∀ b, b < 2 → bo ≠ b ∧ wrow ≠ some b ∧ orow ≠ some b)
    (hS : Sl w 5 wrow A way.length c (u8s way)) (hO : Outs w bo orow rows outs) (hap : ∀ r ∈ rows, ∀ g, r = some g → wrow ≠ some g) (h1 : way.length ≤ a ∧ way.length ≤ 8) (h2 : outs.length + (waysT to (d + 1) a).length ≤ 100000) :
    Calls Tryd.prog 20 #[.int .u8 (a : Int), .slice A way.length c, .pointer (some ⟨bt, 0, none⟩), .pointer (some ⟨bo, 0, none⟩), .pointer (some ⟨bw, 0, none⟩)] w (Walked w bo orow wrow rows outs way A c (waysT to (d + 1) a)) := by
  have HI := Lib.hid ih
  have HL := Lib.hid hL
  have HS := Lib.hid hS
  have HO := Lib.hid hO
  have HA := Lib.hid hap
  have hne : ((a : Int) == (to : Int)) = false := by simp; omega
  clear ih hL hS hO hap
  go_enter Tryd.func20, Tryd.ntmps20
  go_wp2_with fail
  refine (next_any a w HL.out).mono ?_
  rintro e w1 ⟨NA, nc, nrow, rfl, hn1, hn2, hn3⟩
  have hfar : ∀ k, k < w.heap.size → k ≠ bo → wrow ≠ some k → orow ≠ some k → ¬ Free bo orow wrow k := fun k _ h1 h2 h3 e => by rcases e with e | e | e <;> contradiction
  have inv0 : Inv w w1 bo orow wrow rows outs way A c nrow NA nc (nextT a) [] orow [] :=
    ⟨by simpa using HO.out.keep hn3 (fun h => h) (fun _ _ h => h) (fun _ _ _ _ h => h), HS.out.keep hn3 (fun _ _ h => h), by simp, .inl rfl, hn3.mono (fun _ _ h => h.elim), hn1⟩
  have hwl : ∀ g, wrow = some g → g < w.heap.size := HS.out.lt
  have HN := Lib.hid (Sl.lt hn1)
  have HW1 := Lib.hid hwl
  have HN2 := Lib.hid hn2
  have HI0 := Lib.hid inv0
  have HF := Lib.hid hfar
  have HCT := Lib.hid ct
  have HCW := Lib.hid cw
  have H2 := Lib.hid h2
  have h8 : (nextT a).length ≤ 8 := nx_len a 8
  clear inv0 hwl hn1 hn2 hn3 hfar ct cw h2
  go_wp2_with fail
  obtain ⟨i0, hi, hz0, hz1, hz2⟩ := info_parts u8_info
  have HII := Lib.hid hi
  have HZ0 := Lib.hid hz0
  have HZ1 := Lib.hid hz1
  have HZ2 := Lib.hid hz2
  clear hi hz0 hz1 hz2
  go_loopw [20] (fun i wr => ∃ (k : Nat) (orow' : Option Nat) (rows' : List (Option Nat)), k ≤ (nextT a).length ∧ i = .int .i64 (k : Int) ∧ Inv w wr bo orow wrow rows outs way A c nrow NA nc (nextT a) (foundT to d a k) orow' rows') (fun i _ => (nextT a).length - (intOf i).toNat)
  case atStart => exact ⟨0, orow, [], Nat.zero_le _, rfl, by simpa [foundT] using HI0.out⟩
  case round =>
    obtain ⟨k, orow', rows', hk, rfl, hinv⟩ := hrel
    by_cases hlt : k < (nextT a).length
    · obtain ⟨gn, offn, vn, hNA, hrn, hvn, hcn⟩ := hinv.nxt.at_ hlt
      have hvn' : vn = .int .u8 (((nextT a).getD k 0 : Nat) : Int) := by
        simp only [u8s, List.getElem?_map, List.getElem?_eq_getElem hlt, Option.map_some, Option.some.injEq] at hvn
        rw [← hvn]; simp [List.getD, hlt]
      rw [hvn'] at hcn
      have HSm := Lib.hid (show (nextT a).getD k 0 ∈ nextT a by simp [List.getD, hlt])
      have HSucc := Lib.hid (foundT_succ to d a k hlt)
      have HINV := Lib.hid hinv
      subst hNA
      clear hinv hvn hvn' hrn
      generalize hsg : (nextT a).getD k 0 = s at HSm HSucc hcn
      clear hsg
      have hcw : wr.cell? ⟨bw, 0, none⟩ = some (.func (.func 20) #[] #[.pointer (some ⟨bt, 0, none⟩), .pointer (some ⟨bo, 0, none⟩), .pointer (some ⟨bw, 0, none⟩)]) := HINV.out.keep_.cell HCW.out (HF.out bw (World.block_lt_of_cell? _ _ HCW.out) (Ne.symm n2) n5 n6)
      have hcall : ∀ wa row1 A1 c1 w3, Keep (fun _ => False) wr wa → Sl w3 5 row1 A1 (way.length + 1) c1 (u8s way ++ [.int .u8 (s : Int)]) →
          ((row1 = wrow ∧ A1 = A ∧ c1 = c ∧ Keep (fun g => wrow = some g) wa w3) ∨ (Keep (fun _ => False) wa w3 ∧ ∃ g, row1 = some g ∧ wa.heap.size ≤ g)) →
          Calls Tryd.prog 20 #[.int .u8 (s : Int), .slice A1 (way.length + 1) c1, .pointer (some ⟨bt, 0, none⟩), .pointer (some ⟨bo, 0, none⟩), .pointer (some ⟨bw, 0, none⟩)] w3 fun e w4 =>
            e = .returned (.tuple #[]) ∧ Next w w4 bo orow wrow rows outs way A c nrow (some ⟨gn, offn, none⟩) nc (nextT a) (foundT to d a (k + 1)) := by
        intro wa row1 A1 c1 w3 k0 hs3 hr3
        obtain ⟨q1, q2, q3, q4, q5, q6⟩ := HINV.out.step k0 HW1.out HA.out HN2.out hs3 hr3
        have hrow : ∀ b, b < w.heap.size → wrow ≠ some b → row1 ≠ some b := fun b hb hn e => by
          rcases q5 with q | ⟨g, q, hg⟩
          · exact hn (by rw [← q, e])
          · rw [e] at q; injection q with q; omega
        have horow : ∀ b, b < w.heap.size → orow ≠ some b → orow' ≠ some b := fun b hb hn e => by
          rcases HINV.out.orow_ with q | ⟨g, q, hg⟩
          · exact hn (by rw [← q, e])
          · rw [e] at q; injection q with q; omega
        have lt := World.block_lt_of_cell? _ _ HCT.out
        have lw := World.block_lt_of_cell? _ _ HCW.out
        have hL2 : ∀ b, b < 2 → b < w.heap.size := fun b hb => HL.out.size b hb
        have e1 : way.length + 1 = (way ++ [s]).length := by simp
        have hmem : (outs ++ (foundT to d a k).map (way ++ ·)).length + (waysT to d s).length ≤ 100000 := by
          have h3 : (foundT to d a (k + 1)).length ≤ (waysT to (d + 1) a).length := by
            rw [← foundT_all to d a ha]
            unfold foundT
            rw [← List.take_append_drop (k + 1) ((nextT a).take (nextT a).length)]
            simp only [List.take_length, List.flatMap_append, List.length_append]
            exact Nat.le_add_right _ _
          rw [HSucc.out] at h3
          simp at h3 ⊢
          have := H2.out
          omega
        rw [e1]
        refine (HI.out s HSm.out (way ++ [s]) w3 A1 c1 row1 orow' (rows ++ rows') _ ?_ (q4.cell HCT.out (HF.out _ lt (Ne.symm n1) n3 n4)) (q4.cell HCW.out (HF.out _ lw (Ne.symm n2) n5 n6)) n1 n2 (hrow _ lt n3) (horow _ lt n4) (hrow _ lw n5) (horow _ lw n6) (fun b hb => ⟨(n7 b hb).1, hrow b (hL2 b hb) (n7 b hb).2.1, horow b (hL2 b hb) (n7 b hb).2.2⟩) q3 q1 q2 (by have := nextT_gt a s HSm.out; simp; omega) hmem).mono ?_
        · exact HL.out.keep q4 (fun b hb e => e.elim (fun e => (n7 b hb).1 e.symm) fun e => e.elim (n7 b hb).2.2 (n7 b hb).2.1)
        · rintro e w4 ⟨rfl, orow4, rows4, r1, r2, r3, r4, r5⟩
          refine ⟨rfl, orow4, rows' ++ rows4, ?_⟩
          rw [HSucc.out]
          exact q6 w4 orow4 rows4 _ r1 r2 r3 r4 r5
      have hcw2 := ((Keep.refl (fun _ => False) wr).alloc (.cells #[.int .u8 (s : Int)] 5)).cell hcw (fun h => h)
      have HC := Lib.hid hcall
      clear hcall
      go_wp2_with fail
      go_region_law (first
        | (refine step_append_sl2 rfl _ _ _ rfl i0 _ 1 Tryd.underlying25 HII.out HZ0.out HZ1.out HZ2.out rfl (HINV.out.way_.keep (((Keep.refl (fun _ => False) wr).alloc _).drew) (fun _ _ h => h)) (by rfl) ⟨wr.heap.size, 0, none⟩ (.int .u8 (s : Int)) 1 (by rfl) (by simp) rfl (by unfold maxLen; omega) (by omega) ?_; intro row1 A1 c1 w3 hs3 hr3; have g3 := (behind_append2 hr3).cell ((((Keep.refl (fun _ => False) wr).alloc _).drew).cell hcw (fun h => h)) n5)
        | (go_simp; go_at_call 20; refine (HC.out _ row1 A1 c1 w3 (((Keep.refl (fun _ => False) wr).alloc _).drew) hs3 hr3).mono ?_; rintro e w4 ⟨rfl, hinv4⟩))
      all_goals
        have HV4 := Lib.hid hinv4
        clear hinv4 hs3 hr3 g3 hcw hcw2 hcn
        go_wp2
        go_roundw
        case rel =>
          obtain ⟨orow4, rows4, hi4⟩ := HV4.out
          exact ⟨k + 1, orow4, rows4, by omega, by go_num, hi4⟩
        case measure => simp [intOf]; omega
    · obtain rfl : k = (nextT a).length := by omega
      rw [foundT_all to d a ha] at hinv
      have HV := Lib.hid hinv
      clear hinv
      go_wp2
      refine bodyPost_ret (v := .tuple #[]) (by simp [results, Tryd.results20, go_sem]) rfl ?_
      exact ⟨rfl, orow', rows', HV.out.outs_, HV.out.way_, HV.out.fresh, HV.out.orow_, HV.out.keep_⟩

theorem walk_any (to bt bo bw : Nat) : ∀ d a, 8 ≤ d + a → ∀ (way : List Nat) (w : World) (A : Option Addr) (c : Nat) (wrow orow : Option Nat) (rows : List (Option Nat)) (outs : List (List Nat)),
      Laid w → w.cell? ⟨bt, 0, none⟩ = some (.int .u8 (to : Int)) → w.cell? ⟨bw, 0, none⟩ = some (walkV bt bo bw) → bo ≠ bt → bo ≠ bw → wrow ≠ some bt → orow ≠ some bt → wrow ≠ some bw → orow ≠ some bw → (∀ b, b < 2 → bo ≠ b ∧ wrow ≠ some b ∧ orow ≠ some b) → Sl w 5 wrow A way.length c (u8s way) → Outs w bo orow rows outs → (∀ r ∈ rows, ∀ g, r = some g → wrow ≠ some g) → way.length ≤ a ∧ way.length ≤ 8 → outs.length + (waysT to d a).length ≤ 100000 →
      Calls Tryd.prog 20 #[.int .u8 (a : Int), .slice A way.length c, .pointer (some ⟨bt, 0, none⟩), .pointer (some ⟨bo, 0, none⟩), .pointer (some ⟨bw, 0, none⟩)] w (Walked w bo orow wrow rows outs way A c (waysT to d a))
  | d, a, hd, way, w, A, c, wrow, orow, rows, outs, hL, ct, cw, n1, n2, n3, n4, n5, n6, n7, hS, hO, hap, h1, h2 => by
    by_cases ha : a = to
    · subst ha
      refine (walk_end a bt bo bw way w A c wrow orow rows outs ct hS hO (by omega) (by omega)).mono ?_
      rintro e w' ⟨rfl, orow', r, q1, q2, q3, q4⟩
      have hw : waysT a d a = [[]] := by cases d <;> simp [waysT]
      refine ⟨rfl, orow', [r], by rw [hw]; simpa using q1, ?_, by simpa using q2, q3, q4.mono fun k _ e => e.elim .inl (fun e => .inr (.inl e))⟩
      have hf := hO.far hS
      exact hS.keep q4 (fun g hg e => e.elim (hf.1 g hg) (hf.2 g hg))
    · cases d with
      | zero =>
        have hn : nextT a = [] := nextT_far a (by omega)
        have e0 : waysT to 0 a = waysT to (0 + 1) a := by simp [waysT, ha, hn]
        rw [e0]
        exact walk_round to bt bo bw 0 a (fun s hs => by rw [hn] at hs; cases hs) ha way w A c wrow orow rows outs hL ct cw n1 n2 n3 n4 n5 n6 n7 hS hO hap h1 (by rw [← e0]; exact h2)
      | succ d =>
        exact walk_round to bt bo bw d a (fun s hs => walk_any to bt bo bw d s (by have := nextT_gt a s hs; omega)) ha way w A c wrow orow rows outs hL ct cw n1 n2 n3 n4 n5 n6 n7 hS hO hap h1 h2
end Go.Proofs.YtngjecbdajognaaDoor
