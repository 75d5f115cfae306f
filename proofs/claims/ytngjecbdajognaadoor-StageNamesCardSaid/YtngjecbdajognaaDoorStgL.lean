/-
  Stage: StageUp.
-/
import Derived.Test.YtngjecbdajognaaDoorStgK
namespace Go.Proofs.YtngjecbdajognaaDoor
open Go.RowKit

theorem voter_any (s : Nat) (w : World) : Calls Tryd.prog 15 #[.int .u8 (s : Int)] w fun e w' => e = .returned (.bool (decide (s = 3 ∨ s = 4))) ∧ w' = w := by
  go_enter Tryd.func15, Tryd.ntmps15
  go_wp2
  all_goals
    go_ret
    refine ⟨ret_bool ?_, rfl⟩
    rw [Bool.eq_iff_iff]
    simp
    omega
theorem alive_any (s : Nat) (w : World) : Calls Tryd.prog 16 #[.int .u8 (s : Int)] w fun e w' => e = .returned (.bool (decide (1 ≤ s ∧ s ≤ 5))) ∧ w' = w := by
  by_cases h : 1 ≤ s ∧ s ≤ 7
  all_goals
    have hd : Hid (decide (1 ≤ s ∧ s ≤ 7) = decide (1 ≤ s ∧ s ≤ 7)) := Lib.hid rfl
    go_enter Tryd.func16, Tryd.ntmps16
    go_wp2_with fail
    refine (may_any _ _).mono ?_
    rintro e wx ⟨rfl, hw⟩
    rw [hw]; clear hw wx
  · rw [decide_eq_true h]
    go_wp2
    all_goals
      go_ret
      refine ⟨ret_bool ?_, rfl⟩
      rw [Bool.eq_iff_iff]
      simp
      omega
  · rw [decide_eq_false h]
    go_wp2
    all_goals
      go_ret
      refine ⟨ret_bool ?_, rfl⟩
      rw [Bool.eq_iff_iff]
      simp
      omega
theorem ways_up : ∀ f, f < 8 → ∀ x ∈ waysT 4 8 f, f = 3 ∨ f = 4 ∨ 3 ∈ x := by decide +kernel
theorem ways_up' (f : Nat) : ∀ x ∈ waysT 4 8 f, f = 3 ∨ f = 4 ∨ 3 ∈ x := by
  by_cases hf : f < 8
  · exact ways_up f hf
  · intro x hx
    have : waysT 4 8 f = [] := by
      rw [waysT, if_neg (by omega), nextT_far f (by omega)]; rfl
    rw [this] at hx; cases hx
theorem edge0 (f : Nat) : edgeT 0 f = 0 ∨ edgeT 0 f = 1 ∨ edgeT 0 f = 4 := by
  by_cases hf : f < 8
  · have : ∀ f, f < 8 → edgeT 0 f = 0 ∨ edgeT 0 f = 1 ∨ edgeT 0 f = 4 := by decide
    exact this f hf
  · left; exact edgeT_far 0 f (.inr (by omega))
theorem rd_byte {w : World} {A : Option Addr} {n : Nat} {l : List Nat} (h : Rd w A n (u8s l)) {k : Nat} (hk : k < n) : ∃ g off, A = some ⟨g, off, none⟩ ∧ w.cell? ⟨g, off + k, none⟩ = some (.int .u8 ((l.getD k 0 : Nat) : Int)) := by
  obtain ⟨g, off, v, h1, h2, h3⟩ := h.2 k hk
  have hl : l.length = n := by simpa [u8s] using h.1
  refine ⟨g, off, h1, ?_⟩
  rw [h3, ← h2]
  simp [u8s, List.getD, show k < l.length by omega]
theorem mem_take_succ (l : List Nat) (k : Nat) (h : k < l.length) (x : Nat) : x ∈ l.take (k + 1) ↔ x ∈ l.take k ∨ l.getD k 0 = x := by
  rw [List.take_succ_eq_append_getElem h]
  simp only [List.mem_append, List.mem_singleton, List.getD, List.getElem?_eq_getElem h, Option.getD_some]
  rw [eq_comm (a := x)]
theorem ways_len (to : Nat) : ∀ d a, ∀ x ∈ waysT to d a, x.length ≤ d := by
  intro d
  induction d with
  | zero => intro a x hx; unfold waysT at hx; split at hx <;> simp at hx; subst hx; simp
  | succ d ih =>
    intro a x hx
    unfold waysT at hx
    split at hx
    · simp at hx; subst hx; simp
    · obtain ⟨s, _, hx⟩ := List.mem_flatMap.1 hx
      obtain ⟨y, hy, rfl⟩ := List.mem_map.1 hx
      have := ih s y hy
      simp; omega

set_option maxRecDepth 100000 in
set_option maxHeartbeats 2000000 in
theorem walkStageUp (a : Int) (wa : (Lit.int .u8 a).wf = true) (w : World) (hL : Laid w) :
    Calls Tryd.prog 6 #[.int .u8 a] w fun e w' => e = .returned (.bool true) ∧ Below w.heap.size w w' := by
  obtain ⟨h0, h255⟩ := bounds_u8 wa
  obtain ⟨f, rfl⟩ := Int.eq_ofNat_of_zero_le h0
  clear wa h0
  have HL := Lib.hid hL
  clear hL
  have b0 : (bits BinOp.and IntKind.u8 0 2 == 0) = true := by decide
  have b1 : (bits BinOp.and IntKind.u8 1 2 == 0) = true := by decide
  have b4 : (bits BinOp.and IntKind.u8 4 2 == 0) = true := by decide
  go_enter Tryd.func6, Tryd.ntmps6
  go_wp2_with fail
  refine (awake_any _ HL.out).mono ?_
  rintro e w1 ⟨rfl, hk⟩
  have HK := Lib.hid hk
  have HL1 := Lib.hid (HL.out.keep hk (fun _ _ h => h))
  clear hk
  go_wp2_with fail
  refine (ways_any f 4 _ HL1.out).mono ?_
  rintro e w2 ⟨A, c, rfl, hM, hk2⟩
  have HK2 := Lib.hid hk2
  have HL2 := Lib.hid (HL1.out.keep hk2 (fun _ _ h => h))
  have HM := Lib.hid hM
  have hbd := waysT_bd 4 f
  have HU := Lib.hid (ways_up' f)
  have HW := Lib.hid (ways_len 4 8 f)
  clear hk2 hM
  generalize waysT 4 8 f = W at *
  go_wp2_with fail
  go_loop [4] (fun i => ∃ k : Nat, k ≤ W.length ∧ i = .int .i64 (k : Int)) (fun i => W.length - (intOf i).toNat)
  case atStart => exact ⟨0, Nat.zero_le _, rfl⟩
  case round =>
    obtain ⟨k, hk, rfl⟩ := hrel
    by_cases hlt : k < W.length
    · obtain ⟨g, off, A', c', rfl, q1, q2⟩ := HM.out.2 k hlt
      have hx := HU.out (W.getD k []) (by simp [List.getD, hlt])
      have HX := Lib.hid hx
      have HXL := Lib.hid (HW.out (W.getD k []) (by simp [List.getD, hlt]))
      have Q2 := Lib.hid q2
      clear hx q2
      generalize W.getD k [] = x at *
      have hx8 := HXL.out
      by_cases hs : f = 3 ∨ f = 4
      · have hend : Hid (f = 3 ∨ f = 4) := Lib.hid hs
        rcases hs with rfl | rfl
        all_goals
          clear hend
          go_wp2
          go_loop [6, 5] (fun i t => ∃ m : Nat, m ≤ x.length ∧ i = .int .i64 (m : Int) ∧ t = .bool true) (fun i _ => x.length - (intOf i).toNat)
          case atStart => exact ⟨0, Nat.zero_le _, rfl, rfl⟩
          case round =>
            obtain ⟨m, hm, rfl, rfl⟩ := hrel
            by_cases hlt2 : m < x.length
            · go_wp2
              go_round
              case rel => exact ⟨m + 1, by omega, by go_num, rfl⟩
              case measure => simp [intOf]; omega
            · obtain rfl : m = x.length := by omega
              go_wp2
              go_round
              case rel => exact ⟨k + 1, by omega, by go_num⟩
              case measure => simp [intOf]; omega
      · have h3 : 3 ∈ x := by
          rcases HX.out with h | h | h
          · exact absurd (.inl h) hs
          · exact absurd (.inr h) hs
          · exact h
        have H3 := Lib.hid h3
        have f3 : ((f : Int) == 3) = false := by simp; omega
        have f4 : ((f : Int) == 4) = false := by simp; omega
        clear h3 hs
        go_wp2
        go_loop [6, 5] (fun i t => ∃ m : Nat, m ≤ x.length ∧ i = .int .i64 (m : Int) ∧ t = .bool (decide (3 ∈ x.take m))) (fun i _ => x.length - (intOf i).toNat)
        case atStart => exact ⟨0, Nat.zero_le _, rfl, by simp⟩
        case round =>
          obtain ⟨m, hm, rfl, rfl⟩ := hrel
          by_cases hlt2 : m < x.length
          · obtain ⟨g2, off2, rfl, hb⟩ := rd_byte Q2.out hlt2
            have HT := Lib.hid (mem_take_succ x m hlt2 3)
            generalize x.getD m 0 = y at hb HT
            by_cases hin : 3 ∈ x.take m
            · have HI : Hid (3 ∈ x.take (m + 1)) := Lib.hid (HT.out.2 (.inl hin))
              have hd : decide (3 ∈ x.take m) = true := decide_eq_true hin
              clear hin
              go_wp2
              go_round
              case rel => exact ⟨m + 1, by omega, by go_num, by rw [decide_eq_true HI.out]⟩
              case measure => simp [intOf]; omega
            · have hd : decide (3 ∈ x.take m) = false := decide_eq_false hin
              have HT2 := Lib.hid (show decide (3 ∈ x.take (m + 1)) = decide (y = 3) by
                rw [Bool.eq_iff_iff]; simp only [decide_eq_true_eq]; rw [HT.out]; exact ⟨fun h => h.resolve_left hin, .inr⟩)
              clear hin
              by_cases hy : y = 3
              · subst hy
                go_wp2
                go_round
                case rel => exact ⟨m + 1, by omega, by go_num, by rw [HT2.out]; simp⟩
                case measure => simp [intOf]; omega
              · have hy2 : ((y : Int) == 3) = false := by simp; omega
                have HT3 := Lib.hid (show decide (3 ∈ x.take (m + 1)) = false by rw [HT2.out, decide_eq_false hy])
                clear hy
                go_wp2
                go_round
                case rel => exact ⟨m + 1, by omega, by go_num, by rw [HT3.out]⟩
                case measure => simp [intOf]; omega
          · obtain rfl : m = x.length := by omega
            rw [show decide (3 ∈ x.take x.length) = true from decide_eq_true (by rw [List.take_length]; exact H3.out)]
            go_wp2
            go_round
            case rel => exact ⟨k + 1, by omega, by go_num⟩
            case measure => simp [intOf]; omega
    · obtain rfl : k = W.length := by omega
      go_wp2_with fail
      refine (edge_any 0 f _ HL2.out).mono ?_
      rintro e wx ⟨rfl, hw⟩
      rw [hw]; clear hw wx
      have he := edge0 f
      generalize edgeT 0 f = ee at he ⊢
      rcases he with rfl | rfl | rfl
      all_goals
        go_wp2_with fail
        refine (voter_any f _).mono ?_
        rintro e wx ⟨rfl, hw⟩
        rw [hw]; clear hw wx
        by_cases hs : f = 3 ∨ f = 4
        · rcases hs with rfl | rfl
          all_goals
            go_wp2_with fail
            refine (voter_any _ _).mono ?_
            rintro e wx ⟨rfl, hw⟩
            rw [hw]; clear hw wx
            go_wp2_with fail
            refine (alive_any _ _).mono ?_
            rintro e wx ⟨rfl, hw⟩
            rw [hw]; clear hw wx
            go_wp2
            go_ret
            exact ⟨rfl, ((HK.out.trans (HK2.out.mono fun _ _ h => h.elim))).b⟩
        · have f3 : ((f : Int) == 3) = false := by simp; omega
          have f4 : ((f : Int) == 4) = false := by simp; omega
          have hd : decide (f = 3 ∨ f = 4) = false := decide_eq_false hs
          clear hs
          go_wp2_with fail
          refine (voter_any _ _).mono ?_
          rintro e wx ⟨rfl, hw⟩
          rw [hw]; clear hw wx
          go_wp2
          go_ret
          exact ⟨rfl, ((HK.out.trans (HK2.out.mono fun _ _ h => h.elim))).b⟩
end Go.Proofs.YtngjecbdajognaaDoor
