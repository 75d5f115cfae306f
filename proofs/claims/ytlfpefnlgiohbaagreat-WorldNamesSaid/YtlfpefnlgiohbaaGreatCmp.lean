/-
  cmp.Compare, cmp.Or, ident.Compare, ident.Less.
-/
import Derived.Test.YtlfpefnlgiohbaaGreatID
import Derived.Test.YtlfpefnlgiohbaaGreatKrip
namespace Go.Proofs.YtlfpefnlgiohbaaGreat
open Go.RowKit
attribute [local go_sem] kQuiet kQuietUpon

def cmpI (a b : Int) : Int := if a < b then -1 else if b < a then 1 else 0
def cmpID (p q : ID) : Int := if cmpI p.1 q.1 = 0 then cmpI p.2 q.2 else cmpI p.1 q.1
def ltID (p q : ID) : Bool := decide (p.1 < q.1 ∨ (p.1 = q.1 ∧ p.2 < q.2))
theorem cmpID_lt (p q : ID) : decide (cmpID p q < 0) = ltID p q := by
  unfold cmpID ltID cmpI
  rw [Bool.eq_iff_iff]
  simp only [decide_eq_true_eq]
  repeat' split
  all_goals omega
theorem cmpI_bd (a b : Int) : -1 ≤ cmpI a b ∧ cmpI a b ≤ 1 := by unfold cmpI; repeat' split; all_goals omega
theorem isNaN_any (a : Int) (w : World) : Calls Tryz.prog 188 #[.int .i64 a] w fun e w' => e = .returned (.bool false) ∧ w' = w := by
  have h : (a != a) = false := by simp
  go_enter Tryz.func188, Tryz.ntmps188
  go_wp2
  go_ret
  exact ⟨rfl, rfl⟩
set_option maxHeartbeats 400000 in
theorem cmp_any (a b : Int) (w : World) : Calls Tryz.prog 391 #[.int .i64 a, .int .i64 b] w fun e w' => e = .returned (.int .i64 (cmpI a b)) ∧ w' = w := by
  go_enter Tryz.func391, Tryz.ntmps391
  go_wp2_with fail
  refine (isNaN_any _ _).mono ?_
  rintro e wx ⟨rfl, hw⟩
  rw [hw]; clear hw wx
  go_wp2_with fail
  refine (isNaN_any _ _).mono ?_
  rintro e wx ⟨rfl, hw⟩
  rw [hw]; clear hw wx
  go_wp2
  all_goals
    go_ret
    refine ⟨ret_int ?_, rfl⟩
    unfold cmpI
    repeat' split
    all_goals omega
set_option maxHeartbeats 400000 in
theorem or_any (g off : Nat) (x y : Int) (w : World) (c0 : w.cell? ⟨g, off, none⟩ = some (.int .i64 x)) (c1 : w.cell? ⟨g, off + 1, none⟩ = some (.int .i64 y)) :
    Calls Tryz.prog 390 #[.slice (some ⟨g, off, none⟩) 2 2] w fun e w' => e = .returned (.int .i64 (if x = 0 then y else x)) ∧ w' = w := by
  by_cases hx : x = 0
  · subst hx
    rw [if_pos rfl]
    go_enter Tryz.func390, Tryz.ntmps390
    go_wp2
    go_loop [8] (fun i => ∃ k : Nat, k ≤ 2 ∧ i = .int .i64 (k : Int) ∧ (1 < k → y = 0)) (fun i => 2 - (intOf i).toNat)
    case atStart => exact ⟨0, by omega, rfl, by omega⟩
    case round =>
      obtain ⟨k, hk, rfl, hy⟩ := hrel
      have HY := Lib.hid hy
      clear hy
      rcases (by omega : k = 0 ∨ k = 1 ∨ k = 2) with rfl | rfl | rfl
      · go_wp2
        go_round
        case rel => exact ⟨1, by omega, by go_num, by omega⟩
        case measure => simp [intOf]
      · by_cases h0 : y = 0
        · subst h0
          go_wp2
          go_round
          case rel => exact ⟨2, by omega, by go_num, by simp⟩
          case measure => simp [intOf]
        · have h1 : (y != 0) = true := by simpa using h0
          have h2 : (y == 0) = false := by simpa using h0
          clear h0
          go_wp2
          go_ret
          exact ⟨rfl, rfl⟩
      · obtain rfl := HY.out (by omega)
        go_wp2
        go_ret
        exact ⟨rfl, rfl⟩
  · rw [if_neg hx]
    have h1 : (x != 0) = true := by simpa using hx
    have h2 : (x == 0) = false := by simpa using hx
    clear hx
    go_enter Tryz.func390, Tryz.ntmps390
    go_wp2
    refine wp_loop_rounds 1 ?_
    rw [rounds_succ]
    go_wp2
    go_ret
    exact ⟨rfl, rfl⟩

set_option maxRecDepth 100000 in
set_option maxHeartbeats 1000000 in
theorem cmpID_any (p q : ID) (w : World) : Calls Tryz.prog 359 #[idV p, idV q] w (Tell (.int .i64 (cmpID p q)) w) := by
  obtain ⟨a, i⟩ := p
  obtain ⟨b, j⟩ := q
  have b0 := (Blk.new w 30 #[.int .i64 a, .int .i64 i]).alloc (.cells #[.int .i64 b, .int .i64 j] 30)
  have b1 := Blk.new_ (w := w.alloc (.cells #[.int .i64 a, .int .i64 i] 30)) (B := w.heap.size + 1) (by simp) 30 #[.int .i64 b, .int .i64 j]
  have B0 := Lib.hid b0
  have B1 := Lib.hid b1
  have hk0 := ((Keep.refl (fun _ => False) w).alloc (.cells #[.int .i64 a, .int .i64 i] 30)).alloc (.cells #[.int .i64 b, .int .i64 j] 30)
  have HK0 := Lib.hid hk0
  clear b0 b1 hk0
  go_enter Tryz.func359, Tryz.ntmps359
  go_wp2
  refine wp_region_krip (Keep (fun _ => False)) (Keep.refl _) keep0_trans 13 (by kernel_rfl) (by kernel_rfl) (Ts := [none, some (.inl (.int .i64 a)), none, some (.inl (.int .i64 b)), some (.inl (.int .i64 (cmpI a b))), none, some (.inl (.int .i64 i)), none, some (.inl (.int .i64 j)), some (.inl (.int .i64 (cmpI i j))), some (.inr (fun v W => ∃ g, v = .slice (some ⟨g, 0, none⟩) 2 2 ∧ W.cell? ⟨g, 0, none⟩ = some (.int .i64 (cmpI a b)) ∧ W.cell? ⟨g, 0 + 1, none⟩ = some (.int .i64 (cmpI i j)))), some (.inl (.int .i64 (cmpID (a, i) (b, j)))), none]) ?_
  simp only [List.take, List.drop]
  refine kAll_p (fun K hK => ?_)
  go_simp
  refine hK _ ?_
  clear hK K
  refine kAll_d _ (fun W hW hF => kStep_of fun K Q hK => ?_) ?_
  · have hcell := (B0.out.drew.keep hW (fun h => h)).cell 0
    go_simp
    exact hK _ _ (Keep.refl _ _) rfl
  refine kAll_p (fun K hK => ?_)
  go_simp
  refine hK _ ?_
  clear hK K
  refine kAll_d _ (fun W hW hF => kStep_of fun K Q hK => ?_) ?_
  · have hcell := (B1.out.drew.keep hW (fun h => h)).cell 0
    go_simp
    exact hK _ _ (Keep.refl _ _) rfl
  refine kAll_d _ (fun W hW hF => kStep_of fun K Q hK => ?_) ?_
  · go_simp
    refine (cmp_any a b W).mono ?_
    rintro e w' ⟨rfl, rfl⟩
    exact hK _ _ (Keep.refl _ _) rfl
  refine kAll_p (fun K hK => ?_)
  go_simp
  refine hK _ ?_
  clear hK K
  refine kAll_d _ (fun W hW hF => kStep_of fun K Q hK => ?_) ?_
  · have hcell := (B0.out.drew.keep hW (fun h => h)).cell 1
    go_simp
    exact hK _ _ (Keep.refl _ _) rfl
  refine kAll_p (fun K hK => ?_)
  go_simp
  refine hK _ ?_
  clear hK K
  refine kAll_d _ (fun W hW hF => kStep_of fun K Q hK => ?_) ?_
  · have hcell := (B1.out.drew.keep hW (fun h => h)).cell 1
    go_simp
    exact hK _ _ (Keep.refl _ _) rfl
  refine kAll_d _ (fun W hW hF => kStep_of fun K Q hK => ?_) ?_
  · go_simp
    refine (cmp_any i j W).mono ?_
    rintro e w' ⟨rfl, rfl⟩
    exact hK _ _ (Keep.refl _ _) rfl
  refine kAll_t _ (fun v W W' hk ⟨g, h1, h2, h3⟩ => ⟨g, h1, hk.cell h2 (fun h => h), hk.cell h3 (fun h => h)⟩) (fun W hW hF => kStep_of fun K Q hK => ?_) (fun _ => ?_)
  · go_simp
    exact hK _ _ ((Keep.refl _ _).alloc _) ⟨W.heap.size, rfl, (Blk.new W _ _).cell 0, (Blk.new W _ _).cell 1⟩
  refine kAll_d _ (fun W hW hF => kStep_of fun K Q hK => ?_) ?_
  · go_simp
    obtain ⟨g, rfl, h1, h2⟩ := kHas_at hF 0 rfl (by kernel_rfl)
    refine (or_any g 0 _ _ W h1 h2).mono ?_
    rintro e w' ⟨rfl, rfl⟩
    exact hK _ _ (Keep.refl _ _) rfl
  refine kAll_p (fun K hK => ?_)
  go_simp
  refine hK _ ?_
  clear hK K
  refine kAll_nil (fun W hW hF => ?_)
  clear hF
  go_wp2
  go_ret
  exact ⟨rfl, keepD HK0.out hW⟩
set_option maxHeartbeats 400000 in
theorem ltID_any (p q : ID) (w : World) : Calls Tryz.prog 306 #[idV p, idV q] w (Tell (.bool (ltID p q)) w) := by
  have H := Lib.hid (cmpID_lt p q)
  obtain ⟨a, i⟩ := p
  obtain ⟨b, j⟩ := q
  go_enter Tryz.func306, Tryz.ntmps306
  go_wp2_with fail
  refine (cmpID_any (a, i) (b, j) _).mono ?_
  rintro e w1 ⟨rfl, hk⟩
  have HK := Lib.hid hk
  clear hk
  go_wp2
  go_ret
  exact ⟨ret_bool H.out, keep0_trans _ _ _ (((Keep.refl _ w).alloc _).alloc _) HK.out⟩
end Go.Proofs.YtlfpefnlgiohbaaGreat
