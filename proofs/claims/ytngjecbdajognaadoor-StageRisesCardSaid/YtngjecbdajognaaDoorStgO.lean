/-
  Stage: StageRises.
-/
import Derived.Test.YtngjecbdajognaaDoorStgN
namespace Go.Proofs.YtngjecbdajognaaDoor
open Go.RowKit

def pathB : Nat → List Nat → Nat → Bool
  | f, [], t => f == t
  | f, s :: r, t => decide (edgeT f s ≠ 0) && pathB s r t
theorem path_ways (t : Nat) : ∀ d f, ∀ x ∈ waysT t d f, pathB f x t = true := by
  intro d
  induction d with
  | zero => intro f x hx; unfold waysT at hx; split at hx <;> simp at hx; subst hx; simpa [pathB]
  | succ d ih =>
    intro f x hx
    unfold waysT at hx
    split at hx
    · simp at hx; subst hx; simpa [pathB]
    · obtain ⟨s, hs, hx⟩ := List.mem_flatMap.1 hx
      obtain ⟨y, hy, rfl⟩ := List.mem_map.1 hx
      have := ih s y hy
      simp only [nextT, nx, List.mem_filter, decide_eq_true_eq] at hs
      simp [pathB, this, hs.2]
theorem small_ways (t : Nat) : ∀ d f, ∀ x ∈ waysT t d f, ∀ s ∈ x, s < 256 := by
  intro d
  induction d with
  | zero => intro f x hx; unfold waysT at hx; split at hx <;> simp at hx; subst hx; simp
  | succ d ih =>
    intro f x hx
    unfold waysT at hx
    split at hx
    · simp at hx; subst hx; simp
    · obtain ⟨s, hs, hx⟩ := List.mem_flatMap.1 hx
      obtain ⟨y, hy, rfl⟩ := List.mem_map.1 hx
      intro z hz
      have := nextT_gt f s hs
      rcases List.mem_cons.1 hz with rfl | hz
      · omega
      · exact ih s y hy z hz
theorem rise_ways : ∀ f, f < 8 → ∀ t, t < 8 → ∀ i, i < (waysT t 8 f).length → 0 < i → Op.bytesLess (((waysT t 8 f).getD i []).map UInt8.ofNat) (((waysT t 8 f).getD (i - 1) []).map UInt8.ofNat) = false ∧ ((((waysT t 8 f).getD i []).map UInt8.ofNat) == (((waysT t 8 f).getD (i - 1) []).map UInt8.ofNat)) = false := by
  have : (List.range 8).all (fun f => (List.range 8).all fun t => (List.range (waysT t 8 f).length).all fun i => i == 0 || (!(Op.bytesLess (((waysT t 8 f).getD i []).map UInt8.ofNat) (((waysT t 8 f).getD (i - 1) []).map UInt8.ofNat)) && !((((waysT t 8 f).getD i []).map UInt8.ofNat) == (((waysT t 8 f).getD (i - 1) []).map UInt8.ofNat)))) = true := by decide +kernel
  intro f hf t ht i hi h0
  have := List.all_eq_true.1 (List.all_eq_true.1 (List.all_eq_true.1 this f (List.mem_range.2 hf)) t (List.mem_range.2 ht)) i (List.mem_range.2 hi)
  have hi0 : (i == 0) = false := by simp; omega
  rw [hi0] at this
  simpa using this
theorem rise_ways' (f t : Nat) : ∀ i, i < (waysT t 8 f).length → 0 < i → Op.bytesLess (((waysT t 8 f).getD i []).map UInt8.ofNat) (((waysT t 8 f).getD (i - 1) []).map UInt8.ofNat) = false ∧ ((((waysT t 8 f).getD i []).map UInt8.ofNat) == (((waysT t 8 f).getD (i - 1) []).map UInt8.ofNat)) = false := by
  by_cases hf : f < 8
  · by_cases ht : t < 8
    · exact rise_ways f hf t ht
    · rw [waysT_far t (by omega) 8 f hf]; intro i hi; simp at hi
  · intro i hi h0
    have := waysT_out t 8 f (by omega)
    omega
theorem edge_up (f t : Nat) (h : edgeT f t ≠ 0) : f < t ∧ 1 ≤ t ∧ t ≤ 7 := by
  by_cases hf : f < 8
  · by_cases ht : t < 8
    · have : ∀ f, f < 8 → ∀ t, t < 8 → edgeT f t ≠ 0 → f < t ∧ 1 ≤ t ∧ t ≤ 7 := by decide
      exact this f hf t ht h
    · exact absurd (edgeT_far f t (.inr (by omega))) h
  · exact absurd (edgeT_far f t (.inl (by omega))) h
theorem mem_next (f t : Nat) : t ∈ nextT f ↔ edgeT f t ≠ 0 := by
  simp only [nextT, nx, List.mem_filter, List.mem_range, decide_eq_true_eq]
  exact ⟨fun h => h.2, fun h => ⟨by have := edge_up f t h; omega, h⟩⟩
theorem strB_list (l : List Nat) : (strB l).toList = l.map UInt8.ofNat := ByteArray.toList_mk _

set_option maxRecDepth 100000 in
set_option maxHeartbeats 4000000 in
theorem walkStageRises (a : Int) (wa : (Lit.int .u8 a).wf = true) (b : Int) (wb : (Lit.int .u8 b).wf = true) (w : World) (hL : Laid w) :
    Calls Tryd.prog 3 #[.int .u8 a, .int .u8 b] w fun e w' => e = .returned (.bool true) ∧ Below w.heap.size w w' := by
  obtain ⟨h0, h255⟩ := bounds_u8 wa
  obtain ⟨f, rfl⟩ := Int.eq_ofNat_of_zero_le h0
  obtain ⟨h0', h255'⟩ := bounds_u8 wb
  obtain ⟨t, rfl⟩ := Int.eq_ofNat_of_zero_le h0'
  clear wa h0 wb h0'
  have HL := Lib.hid hL
  have HE := Lib.hid (edge_up f t)
  have HM := Lib.hid (mem_next f t)
  clear hL
  go_enter Tryd.func3, Tryd.ntmps3
  go_wp2_with fail
  refine (awake_any _ HL.out).mono ?_
  rintro e w1 ⟨rfl, hk⟩
  have HK := Lib.hid hk
  have HL1 := Lib.hid (HL.out.keep hk (fun _ _ h => h))
  clear hk
  go_wp2_with fail
  refine (edge_any f t _ HL1.out).mono ?_
  rintro e wx ⟨rfl, hw⟩
  rw [hw]; clear hw wx
  generalize hE0 : edgeT f t = ed at HE HM ⊢
  have HE0 := Lib.hid hE0
  clear hE0
  by_cases hed0 : ed = 0
  · subst hed0
    go_wp2_with fail
    refine (next_any f _ HL1.out).mono ?_
    rintro e w2 ⟨A, c, row, rfl, h1, _, h3⟩
    have HK2 := Lib.hid (keep0_trans _ _ _ HK.out h3)
    have HL2 := Lib.hid (HL1.out.keep h3 (fun _ _ h => h))
    have H1 := Lib.hid h1.rd
    have hl : (nextT f).length ≤ 8 := nx_len f 8
    clear h1 h3
    generalize nextT f = l at *
    go_wp2_with fail
    go_loop [7, 5] (fun i v => ∃ k : Nat, k ≤ l.length ∧ i = .int .i64 (k : Int) ∧ v = .bool (decide (t ∈ l.take k))) (fun i _ => l.length - (intOf i).toNat)
    case atStart => exact ⟨0, Nat.zero_le _, rfl, by simp⟩
    case round =>
      obtain ⟨k, hk, rfl, rfl⟩ := hrel
      by_cases hlt : k < l.length
      · obtain ⟨g, off, rfl, hb⟩ := rd_byte H1.out hlt
        have HT := Lib.hid (mem_take_succ l k hlt t)
        generalize l.getD k 0 = s at hb HT
        by_cases hin : t ∈ l.take k
        · have hd2 := Lib.hid (show decide (t ∈ l.take (k + 1)) = true from decide_eq_true (HT.out.2 (.inl hin)))
          have hd : decide (t ∈ l.take k) = true := decide_eq_true hin
          clear hin
          go_wp2
          go_round
          case rel => exact ⟨k + 1, by omega, by go_num, by rw [hd2.out]⟩
          case measure => simp [intOf]; omega
        · have hd : decide (t ∈ l.take k) = false := decide_eq_false hin
          have HT2 := Lib.hid (show decide (t ∈ l.take (k + 1)) = decide (s = t) by
            rw [Bool.eq_iff_iff]; simp only [decide_eq_true_eq]; rw [HT.out]; exact ⟨fun h => h.resolve_left hin, .inr⟩)
          clear hin
          by_cases hs : s = t
          · have e1 : ((s : Int) == (t : Int)) = true := by simp; omega
            have hd2 := Lib.hid (show decide (t ∈ l.take (k + 1)) = true by rw [HT2.out, decide_eq_true hs])
            clear hs
            go_wp2
            go_round
            case rel => exact ⟨k + 1, by omega, by go_num, by rw [hd2.out]⟩
            case measure => simp [intOf]; omega
          · have e1 : ((s : Int) == (t : Int)) = false := by simp; omega
            have hd2 := Lib.hid (show decide (t ∈ l.take (k + 1)) = false by rw [HT2.out, decide_eq_false hs])
            clear hs
            go_wp2
            go_round
            case rel => exact ⟨k + 1, by omega, by go_num, by rw [hd2.out]⟩
            case measure => simp [intOf]; omega
      · obtain rfl : k = l.length := by omega
        rw [show decide (t ∈ l.take l.length) = false from by rw [List.take_length]; exact decide_eq_false fun h => HM.out.1 h rfl]
        go_wp2_with fail
        refine (edge_any f t _ HL2.out).mono ?_
        rintro e wx ⟨rfl, hw⟩
        rw [hw]; clear hw wx
        rw [HE0.out]
        go_wp2_with fail
        refine (ways_any f t _ HL2.out).mono ?_
        rintro e w3 ⟨A2, c2, rfl, hM, hk3⟩
        have HK3 := Lib.hid (keep0_trans _ _ _ HK2.out hk3)
        have HL3 := Lib.hid (HL2.out.keep hk3 (fun _ _ h => h))
        have HMx := Lib.hid hM
        have HP := Lib.hid (path_ways t 8 f)
        have HS := Lib.hid (small_ways t 8 f)
        have HR := Lib.hid (rise_ways' f t)
        have HLen := Lib.hid (ways_len t 8 f)
        have hbd := waysT_bd t f
        clear hk3 hM
        generalize waysT t 8 f = W at *
        go_wp2_with fail
        go_loopw [9] (fun i wr => ∃ k j : Nat, k ≤ W.length ∧ i = .int .i64 (k : Int) ∧ wr = w3.drewN j) (fun i _ => W.length - (intOf i).toNat)
        case atStart => exact ⟨0, 0, Nat.zero_le _, rfl, rfl⟩
        case round =>
          obtain ⟨k, j, hk, rfl, rfl⟩ := hrel
          by_cases hlt2 : k < W.length
          · obtain ⟨g, off, A', c', rfl, q1, q2⟩ := HMx.out.2 k hlt2
            have hmem : W.getD k [] ∈ W := by simp [List.getD, hlt2]
            have hp := HP.out _ hmem
            have hln := HLen.out _ hmem
            have hr0 : Hid (∀ m, k = m + 1 → Op.bytesLess ((W.getD k []).map UInt8.ofNat) ((W.getD m []).map UInt8.ofNat) = false ∧ (((W.getD k []).map UInt8.ofNat) == ((W.getD m []).map UInt8.ofNat)) = false) := Lib.hid fun m hm => by
              have := HR.out k hlt2 (by omega)
              rwa [show k - 1 = m by omega] at this
            have HPx := Lib.hid hp
            have Q2 := Lib.hid q2
            clear hmem hp q2
            generalize W.getD k [] = x at *
            go_wp2
            go_loop [11, 10] (fun i v => ∃ m s : Nat, m ≤ x.length ∧ i = .int .i64 (m : Int) ∧ v = .int .u8 (s : Int) ∧ Hid (pathB s (x.drop m) t = true)) (fun i _ => x.length - (intOf i).toNat)
            case atStart => exact ⟨0, f, Nat.zero_le _, rfl, rfl, Lib.hid (by simpa using HPx.out)⟩
            case round =>
              obtain ⟨m, s, hm, rfl, rfl, HPm⟩ := hrel
              by_cases hlt3 : m < x.length
              · obtain ⟨g2, off2, rfl, hb⟩ := rd_byte Q2.out hlt3
                have hdrop : x.drop m = x.getD m 0 :: x.drop (m + 1) := by
                  rw [List.drop_eq_getElem_cons hlt3]; simp [List.getD, hlt3]
                have hpm := HPm.out
                rw [hdrop] at hpm
                simp only [pathB, Bool.and_eq_true, decide_eq_true_eq] at hpm
                have HPM := Lib.hid hpm
                clear hdrop hpm
                generalize x.getD m 0 = y at *
                go_wp2_with fail
                refine (edge_any s y _ (HL3.out.keep ((Keep.refl (fun _ => False) w3).drewN j) (fun _ _ h => h))).mono ?_
                rintro e wx ⟨rfl, hw⟩
                rw [hw]; clear hw wx
                have hey : (edgeT s y == 0) = false := by simpa using HPM.out.1
                generalize edgeT s y = ee at hey ⊢
                go_wp2
                go_round
                case rel => exact ⟨m + 1, y, by omega, by go_num, rfl, Lib.hid HPM.out.2⟩
                case measure => simp [intOf]; omega
              · obtain rfl : m = x.length := by omega
                have hst : s = t := by have := HPm.out; simpa [pathB] using this
                subst hst
                clear HPm hlt3
                by_cases hk0 : k = 0
                · subst hk0
                  rw [Nat.add_zero] at q1
                  go_wp2
                  go_quiet (fail)
                  go_wp2
                  go_roundw
                  case rel => exact ⟨1, j + nq, by omega, by go_num, by first | rfl | rw [World.drewN_drewN]⟩
                  case measure => simp [intOf]; omega
                · obtain ⟨m, rfl⟩ : ∃ m, k = m + 1 := ⟨k - 1, by omega⟩
                  obtain ⟨g3, off3, B', d', hA, q3, q4⟩ := HMx.out.2 m (by omega)
                  injection hA with hA
                  injection hA with hA1 hA2
                  subst hA1 hA2
                  obtain ⟨r1, r2⟩ := hr0.out m rfl
                  rw [← strB_list, ← strB_list] at r1 r2
                  have Q4 := Lib.hid q4
                  clear q4 hr0 hk0
                  generalize W.getD m [] = y at *
                  have cx : ∀ i, (convert 25 9 (.slice A' x.length c')).run Tryd.prog (w3.drewN i) = .ok (.string (strB x)) (w3.drewN i) := fun i => conv_any c' (Q2.out.keep ((Keep.refl (fun _ => False) w3).drewN i) (fun _ _ h => h))
                  have cy : ∀ i, (convert 25 9 (.slice B' y.length d')).run Tryd.prog (w3.drewN i) = .ok (.string (strB y)) (w3.drewN i) := fun i => conv_any d' (Q4.out.keep ((Keep.refl (fun _ => False) w3).drewN i) (fun _ _ h => h))
                  go_wp2
                  go_quiet (fail)
                  go_wp2
                  go_roundw
                  case rel => exact ⟨m + 1 + 1, j + nq, by omega, by go_num, by first | rfl | rw [World.drewN_drewN]⟩
                  case measure => simp [intOf]; omega
          · obtain rfl : k = W.length := by omega
            go_wp2
            go_ret
            exact ⟨rfl, (HK3.out.drewN j).b⟩
  · have hed := Lib.hid hed0
    have hlt := HE.out hed0
    have e0 : (ed == 0) = false := by simpa using hed0
    have e0' : (ed != 0) = true := by simpa using hed0
    clear hed0
    go_wp2_with fail
    refine (may_any t _).mono ?_
    rintro e wx ⟨rfl, hw⟩
    rw [hw]; clear hw wx
    rw [show decide (1 ≤ t ∧ t ≤ 7) = true from decide_eq_true hlt.2]
    go_wp2_with fail
    refine (next_any f _ HL1.out).mono ?_
    rintro e w2 ⟨A, c, row, rfl, h1, _, h3⟩
    have HK2 := Lib.hid (keep0_trans _ _ _ HK.out h3)
    have HL2 := Lib.hid (HL1.out.keep h3 (fun _ _ h => h))
    have H1 := Lib.hid h1.rd
    have hl : (nextT f).length ≤ 8 := nx_len f 8
    clear h1 h3
    generalize nextT f = l at *
    go_wp2_with fail
    go_loop [7, 5] (fun i v => ∃ k : Nat, k ≤ l.length ∧ i = .int .i64 (k : Int) ∧ v = .bool (decide (t ∈ l.take k))) (fun i _ => l.length - (intOf i).toNat)
    case atStart => exact ⟨0, Nat.zero_le _, rfl, by simp⟩
    case round =>
      obtain ⟨k, hk, rfl, rfl⟩ := hrel
      by_cases hlt : k < l.length
      · obtain ⟨g, off, rfl, hb⟩ := rd_byte H1.out hlt
        have HT := Lib.hid (mem_take_succ l k hlt t)
        generalize l.getD k 0 = s at hb HT
        by_cases hin : t ∈ l.take k
        · have hd2 := Lib.hid (show decide (t ∈ l.take (k + 1)) = true from decide_eq_true (HT.out.2 (.inl hin)))
          have hd : decide (t ∈ l.take k) = true := decide_eq_true hin
          clear hin
          go_wp2
          go_round
          case rel => exact ⟨k + 1, by omega, by go_num, by rw [hd2.out]⟩
          case measure => simp [intOf]; omega
        · have hd : decide (t ∈ l.take k) = false := decide_eq_false hin
          have HT2 := Lib.hid (show decide (t ∈ l.take (k + 1)) = decide (s = t) by
            rw [Bool.eq_iff_iff]; simp only [decide_eq_true_eq]; rw [HT.out]; exact ⟨fun h => h.resolve_left hin, .inr⟩)
          clear hin
          by_cases hs : s = t
          · have e1 : ((s : Int) == (t : Int)) = true := by simp; omega
            have hd2 := Lib.hid (show decide (t ∈ l.take (k + 1)) = true by rw [HT2.out, decide_eq_true hs])
            clear hs
            go_wp2
            go_round
            case rel => exact ⟨k + 1, by omega, by go_num, by rw [hd2.out]⟩
            case measure => simp [intOf]; omega
          · have e1 : ((s : Int) == (t : Int)) = false := by simp; omega
            have hd2 := Lib.hid (show decide (t ∈ l.take (k + 1)) = false by rw [HT2.out, decide_eq_false hs])
            clear hs
            go_wp2
            go_round
            case rel => exact ⟨k + 1, by omega, by go_num, by rw [hd2.out]⟩
            case measure => simp [intOf]; omega
      · obtain rfl : k = l.length := by omega
        rw [show decide (t ∈ l.take l.length) = true from by rw [List.take_length]; exact decide_eq_true (HM.out.2 hed.out)]
        go_wp2_with fail
        refine (edge_any f t _ HL2.out).mono ?_
        rintro e wx ⟨rfl, hw⟩
        rw [hw]; clear hw wx
        rw [HE0.out]
        go_wp2_with fail
        refine (ways_any f t _ HL2.out).mono ?_
        rintro e w3 ⟨A2, c2, rfl, hM, hk3⟩
        have HK3 := Lib.hid (keep0_trans _ _ _ HK2.out hk3)
        have HL3 := Lib.hid (HL2.out.keep hk3 (fun _ _ h => h))
        have HMx := Lib.hid hM
        have HP := Lib.hid (path_ways t 8 f)
        have HS := Lib.hid (small_ways t 8 f)
        have HR := Lib.hid (rise_ways' f t)
        have HLen := Lib.hid (ways_len t 8 f)
        have hbd := waysT_bd t f
        clear hk3 hM
        generalize waysT t 8 f = W at *
        go_wp2_with fail
        go_loopw [9] (fun i wr => ∃ k j : Nat, k ≤ W.length ∧ i = .int .i64 (k : Int) ∧ wr = w3.drewN j) (fun i _ => W.length - (intOf i).toNat)
        case atStart => exact ⟨0, 0, Nat.zero_le _, rfl, rfl⟩
        case round =>
          obtain ⟨k, j, hk, rfl, rfl⟩ := hrel
          by_cases hlt2 : k < W.length
          · obtain ⟨g, off, A', c', rfl, q1, q2⟩ := HMx.out.2 k hlt2
            have hmem : W.getD k [] ∈ W := by simp [List.getD, hlt2]
            have hp := HP.out _ hmem
            have hln := HLen.out _ hmem
            have hr0 : Hid (∀ m, k = m + 1 → Op.bytesLess ((W.getD k []).map UInt8.ofNat) ((W.getD m []).map UInt8.ofNat) = false ∧ (((W.getD k []).map UInt8.ofNat) == ((W.getD m []).map UInt8.ofNat)) = false) := Lib.hid fun m hm => by
              have := HR.out k hlt2 (by omega)
              rwa [show k - 1 = m by omega] at this
            have HPx := Lib.hid hp
            have Q2 := Lib.hid q2
            clear hmem hp q2
            generalize W.getD k [] = x at *
            go_wp2
            go_loop [11, 10] (fun i v => ∃ m s : Nat, m ≤ x.length ∧ i = .int .i64 (m : Int) ∧ v = .int .u8 (s : Int) ∧ Hid (pathB s (x.drop m) t = true)) (fun i _ => x.length - (intOf i).toNat)
            case atStart => exact ⟨0, f, Nat.zero_le _, rfl, rfl, Lib.hid (by simpa using HPx.out)⟩
            case round =>
              obtain ⟨m, s, hm, rfl, rfl, HPm⟩ := hrel
              by_cases hlt3 : m < x.length
              · obtain ⟨g2, off2, rfl, hb⟩ := rd_byte Q2.out hlt3
                have hdrop : x.drop m = x.getD m 0 :: x.drop (m + 1) := by
                  rw [List.drop_eq_getElem_cons hlt3]; simp [List.getD, hlt3]
                have hpm := HPm.out
                rw [hdrop] at hpm
                simp only [pathB, Bool.and_eq_true, decide_eq_true_eq] at hpm
                have HPM := Lib.hid hpm
                clear hdrop hpm
                generalize x.getD m 0 = y at *
                go_wp2_with fail
                refine (edge_any s y _ (HL3.out.keep ((Keep.refl (fun _ => False) w3).drewN j) (fun _ _ h => h))).mono ?_
                rintro e wx ⟨rfl, hw⟩
                rw [hw]; clear hw wx
                have hey : (edgeT s y == 0) = false := by simpa using HPM.out.1
                generalize edgeT s y = ee at hey ⊢
                go_wp2
                go_round
                case rel => exact ⟨m + 1, y, by omega, by go_num, rfl, Lib.hid HPM.out.2⟩
                case measure => simp [intOf]; omega
              · obtain rfl : m = x.length := by omega
                have hst : s = t := by have := HPm.out; simpa [pathB] using this
                subst hst
                clear HPm hlt3
                by_cases hk0 : k = 0
                · subst hk0
                  rw [Nat.add_zero] at q1
                  go_wp2
                  go_quiet (fail)
                  go_wp2
                  go_roundw
                  case rel => exact ⟨1, j + nq, by omega, by go_num, by first | rfl | rw [World.drewN_drewN]⟩
                  case measure => simp [intOf]; omega
                · obtain ⟨m, rfl⟩ : ∃ m, k = m + 1 := ⟨k - 1, by omega⟩
                  obtain ⟨g3, off3, B', d', hA, q3, q4⟩ := HMx.out.2 m (by omega)
                  injection hA with hA
                  injection hA with hA1 hA2
                  subst hA1 hA2
                  obtain ⟨r1, r2⟩ := hr0.out m rfl
                  rw [← strB_list, ← strB_list] at r1 r2
                  have Q4 := Lib.hid q4
                  clear q4 hr0 hk0
                  generalize W.getD m [] = y at *
                  have cx : ∀ i, (convert 25 9 (.slice A' x.length c')).run Tryd.prog (w3.drewN i) = .ok (.string (strB x)) (w3.drewN i) := fun i => conv_any c' (Q2.out.keep ((Keep.refl (fun _ => False) w3).drewN i) (fun _ _ h => h))
                  have cy : ∀ i, (convert 25 9 (.slice B' y.length d')).run Tryd.prog (w3.drewN i) = .ok (.string (strB y)) (w3.drewN i) := fun i => conv_any d' (Q4.out.keep ((Keep.refl (fun _ => False) w3).drewN i) (fun _ _ h => h))
                  go_wp2
                  go_quiet (fail)
                  go_wp2
                  go_roundw
                  case rel => exact ⟨m + 1 + 1, j + nq, by omega, by go_num, by first | rfl | rw [World.drewN_drewN]⟩
                  case measure => simp [intOf]; omega
          · obtain rfl : k = W.length := by omega
            go_wp2
            go_ret
            exact ⟨rfl, (HK3.out.drewN j).b⟩
end Go.Proofs.YtngjecbdajognaaDoor
