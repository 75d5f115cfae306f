/-
  Stage: the examples.
-/
import Derived.Test.YtngjecbdajognaaDoorStgI
import Derived.Test.YtngjecbdajognaaDoorKrip
namespace Go.Proofs.YtngjecbdajognaaDoor
open Go.RowKit

attribute [local go_sem] kQuiet kQuietUpon
theorem keep0_trans (a b c : World) (h : Keep (fun _ => False) a b) (k : Keep (fun _ => False) b c) : Keep (fun _ => False) a c := h.trans (k.mono fun _ _ h => h.elim)
def LB (l : List Nat) (v : Value) (W : World) : Prop := ∃ A c, v = .slice A l.length c ∧ Rd W A l.length (u8s l)
def LM (l : List (List Nat)) (v : Value) (W : World) : Prop := ∃ A c, v = .slice A l.length c ∧ RdM W A l.length l
theorem LB.keep {l : List Nat} (v : Value) (W W' : World) (hk : Keep (fun _ => False) W W') (h : LB l v W) : LB l v W' := by
  obtain ⟨A, c, h1, h2⟩ := h; exact ⟨A, c, h1, h2.keep hk (fun _ _ h => h)⟩
theorem LM.keep {l : List (List Nat)} (v : Value) (W W' : World) (hk : Keep (fun _ => False) W W') (h : LM l v W) : LM l v W' := by
  obtain ⟨A, c, h1, h2⟩ := h; exact ⟨A, c, h1, h2.keep hk⟩
theorem lb_new (w : World) (l : List Nat) : LB l (.slice (some ⟨w.heap.size, 0, none⟩) l.length l.length) (w.alloc (.cells (u8s l).toArray 5)) := by
  refine ⟨_, _, rfl, by simp [u8s], fun k hk => ⟨w.heap.size, 0, .int .u8 ((l[k] : Nat) : Int), rfl, by simp [u8s, hk], ?_⟩⟩
  rw [(Blk.new w _ _).cell]
  simp [u8s, hk]

theorem lm_new1 (w : World) (A : Option Addr) (c : Nat) (l : List Nat) (h : Rd w A l.length (u8s l)) : LM [l] (.slice (some ⟨w.heap.size, 0, none⟩) 1 1) (w.alloc (.cells #[.slice A l.length c] 25)) := by
  refine ⟨_, _, rfl, rfl, fun k hk => ?_⟩
  match k, hk with
  | 0, _ => exact ⟨w.heap.size, 0, A, c, rfl, by rw [(Blk.new w _ _).cell]; rfl, h.keep ((Keep.refl _ w).alloc _) (fun _ _ h => h)⟩
theorem lm_new2 (w : World) (A B : Option Addr) (c d : Nat) (l m : List Nat) (h : Rd w A l.length (u8s l)) (h2 : Rd w B m.length (u8s m)) : LM [l, m] (.slice (some ⟨w.heap.size, 0, none⟩) 2 2) (w.alloc (.cells #[.slice A l.length c, .slice B m.length d] 25)) := by
  refine ⟨_, _, rfl, rfl, fun k hk => ?_⟩
  match k, hk with
  | 0, _ => exact ⟨w.heap.size, 0, A, c, rfl, by rw [(Blk.new w _ _).cell]; rfl, h.keep ((Keep.refl _ w).alloc _) (fun _ _ h => h)⟩
  | 1, _ => exact ⟨w.heap.size, 0, B, d, rfl, by rw [(Blk.new w _ _).cell]; rfl, h2.keep ((Keep.refl _ w).alloc _) (fun _ _ h => h)⟩
theorem Laid.keep0 {W W' : World} (h : Laid W) (hk : Keep (fun _ => False) W.drew W') : Laid W' := h.keep ((Keep.refl (fun _ => False) W).drew.trans (hk.mono fun _ _ h => h.elim)) (fun _ _ h => h)
theorem nameAt_list (i : Nat) : (nameAt i).toList = NMS.getD i [] := ByteArray.toList_mk _
theorem parse_const (l : List UInt8) (p : Nat) (hp : p ≤ 7) (w : World) (hL : Laid w) (hno : ∀ i, i < p → (l == NMS.getD (i + 1) []) = false) (hit : p < 7 → (l == NMS.getD (p + 1) []) = true) :
    Calls Tryd.prog 17 #[.string ⟨l.toArray⟩] w fun e w' => e = .returned (.tuple #[.int .u8 (if p < 7 then ((p : Int) + 1) else 0), .int .i64 (if p < 7 then 0 else 5)]) ∧ w' = w :=
  parse_any ⟨l.toArray⟩ p hp w hL (fun i hi => by rw [ByteArray.toList_mk, nameAt_list]; exact hno i hi) (fun h => by rw [ByteArray.toList_mk, nameAt_list]; exact hit h)

set_option maxRecDepth 100000 in
set_option maxHeartbeats 4000000 in
theorem awake_any (w : World) (hL : Laid w) : Calls Tryd.prog 8 #[] w fun e w' => e = .returned (.bool true) ∧ Keep (fun _ => False) w w' := by
  have HL := Lib.hid hL
  go_enter Tryd.func8, Tryd.ntmps8
  go_wp2_with fail
  refine (parse_const [100, 111, 119, 110] 5 (by omega) w hL (by decide) (by decide)).mono ?_
  clear hL
  rintro e w1 ⟨rfl, hw⟩
  rw [hw]
  clear hw w1
  go_wp2_with fail
  refine wp_region_krip (Keep (fun _ => False)) (Keep.refl _) keep0_trans 35 (by kernel_rfl) (by kernel_rfl) (Ts := [some (.inl (.int .u8 4)), none, none, some (.inl (.int .u8 0)), none, none, none, some (.inr (LB [5, 6, 7])), some (.inl (.string (strB [5, 6, 7]))), some (.inr (LB [5, 6, 7])), some (.inl (.string (strB [5, 6, 7]))), none, none, none, some (.inr (LM [[7]])), some (.inr (LB [7])), some (.inr (LM [[7]])), some (.inl (.bool true)), none, none, some (.inr (LM [[6, 7], [7]])), some (.inr (LB [6, 7])), some (.inr (LB [7])), some (.inr (LM [[6, 7], [7]])), some (.inl (.bool true)), none, none, none, none, none, none, none, none, none, none]) ?_
  simp only [List.take, List.drop]
  refine kAll_d _ (fun W hW hF => kStep_of fun K Q hK => ?_) ?_
  · go_simp
    refine (edge_any 3 4 W (HL.out.keep0 hW)).mono ?_
    rintro e w' ⟨rfl, rfl⟩
    exact hK _ _ (Keep.refl _ _) rfl
  refine kAll_p (fun K hK => ?_)
  go_simp
  refine hK _ ?_
  clear hK K
  refine kAll_p (fun K hK => ?_)
  go_simp
  refine hK _ ?_
  clear hK K
  refine kAll_d _ (fun W hW hF => kStep_of fun K Q hK => ?_) ?_
  · go_simp
    refine (edge_any 3 2 W (HL.out.keep0 hW)).mono ?_
    rintro e w' ⟨rfl, rfl⟩
    exact hK _ _ (Keep.refl _ _) rfl
  refine kAll_p (fun K hK => ?_)
  go_simp
  refine hK _ ?_
  clear hK K
  refine kAll_p (fun K hK => ?_)
  go_simp
  refine hK _ ?_
  clear hK K
  refine kAll_p (fun K hK => ?_)
  go_simp
  refine hK _ ?_
  clear hK K
  refine kAll_t _ (LB.keep) (fun W hW hF => kStep_of fun K Q hK => ?_) (fun _ => ?_)
  · go_simp
    refine (next_any 4 W (HL.out.keep0 hW)).mono ?_
    rintro e w' ⟨A, c, row, rfl, h1, h2, h3⟩
    exact hK _ _ h3 ⟨A, c, rfl, h1.rd⟩
  refine kAll_d _ (fun W hW hF => kStep_of fun K Q hK => ?_) ?_
  · go_simp
    obtain ⟨A, c, rfl, hr⟩ := kHas_at hF 0 rfl (by kernel_rfl)
    have hc : (convert 25 9 (.slice A 3 c)).run Tryd.prog W = _ := conv_any c hr
    go_simp
    exact hK _ _ (Keep.refl _ _) rfl
  refine kAll_t _ (LB.keep) (fun W hW hF => kStep_of fun K Q hK => ?_) (fun _ => ?_)
  · go_simp
    exact hK _ _ ((Keep.refl _ _).alloc _) (lb_new W [5, 6, 7])
  refine kAll_d _ (fun W hW hF => kStep_of fun K Q hK => ?_) ?_
  · go_simp
    obtain ⟨A, c, rfl, hr⟩ := kHas_at hF 0 rfl (by kernel_rfl)
    have hc : (convert 25 9 (.slice A 3 c)).run Tryd.prog W = _ := conv_any c hr
    go_simp
    exact hK _ _ (Keep.refl _ _) rfl
  refine kAll_p (fun K hK => ?_)
  go_simp
  refine hK _ ?_
  clear hK K
  refine kAll_p (fun K hK => ?_)
  go_simp
  refine hK _ ?_
  clear hK K
  refine kAll_p (fun K hK => ?_)
  go_simp
  refine hK _ ?_
  clear hK K
  refine kAll_t _ (LM.keep) (fun W hW hF => kStep_of fun K Q hK => ?_) (fun _ => ?_)
  · go_simp
    refine (ways_any 6 7 W (HL.out.keep0 hW)).mono ?_
    rintro e w' ⟨A, c, rfl, h1, h2⟩
    exact hK _ _ h2 ⟨A, c, rfl, h1⟩
  refine kAll_t _ (LB.keep) (fun W hW hF => kStep_of fun K Q hK => ?_) (fun _ => ?_)
  · go_simp
    exact hK _ _ ((Keep.refl _ _).alloc _) (lb_new W [7])
  refine kAll_t _ (LM.keep) (fun W hW hF => kStep_of fun K Q hK => ?_) (fun _ => ?_)
  · go_simp
    obtain ⟨A, c, rfl, hr⟩ := kHas_at hF 0 rfl (by kernel_rfl)
    exact hK _ _ ((Keep.refl _ _).alloc _) (lm_new1 W A c [7] hr)
  refine kAll_d _ (fun W hW hF => kStep_of fun K Q hK => ?_) ?_
  · go_simp
    obtain ⟨A, c, rfl, h1⟩ := kHas_at hF 2 rfl (by kernel_rfl)
    obtain ⟨B, d, rfl, h2⟩ := kHas_at hF 0 rfl (by kernel_rfl)
    refine (same_any A B _ _ c d [[7]] [[7]] W h1 h2 (by unfold Bytes; decide) (by unfold Bytes; decide) (by decide)).mono ?_
    rintro e w' ⟨rfl, m, rfl⟩
    exact hK _ _ ((Keep.refl _ _).drewN _) rfl
  refine kAll_p (fun K hK => ?_)
  go_simp
  refine hK _ ?_
  clear hK K
  refine kAll_p (fun K hK => ?_)
  go_simp
  refine hK _ ?_
  clear hK K
  refine kAll_t _ (LM.keep) (fun W hW hF => kStep_of fun K Q hK => ?_) (fun _ => ?_)
  · go_simp
    refine (ways_any 5 7 W (HL.out.keep0 hW)).mono ?_
    rintro e w' ⟨A, c, rfl, h1, h2⟩
    exact hK _ _ h2 ⟨A, c, rfl, h1⟩
  refine kAll_t _ (LB.keep) (fun W hW hF => kStep_of fun K Q hK => ?_) (fun _ => ?_)
  · go_simp
    exact hK _ _ ((Keep.refl _ _).alloc _) (lb_new W [6, 7])
  refine kAll_t _ (LB.keep) (fun W hW hF => kStep_of fun K Q hK => ?_) (fun _ => ?_)
  · go_simp
    exact hK _ _ ((Keep.refl _ _).alloc _) (lb_new W [7])
  refine kAll_t _ (LM.keep) (fun W hW hF => kStep_of fun K Q hK => ?_) (fun _ => ?_)
  · go_simp
    obtain ⟨A, c, rfl, hr⟩ := kHas_at hF 1 rfl (by kernel_rfl)
    obtain ⟨B, d, rfl, hs⟩ := kHas_at hF 0 rfl (by kernel_rfl)
    exact hK _ _ ((Keep.refl _ _).alloc _) (lm_new2 W A B c d [6, 7] [7] hr hs)
  refine kAll_d _ (fun W hW hF => kStep_of fun K Q hK => ?_) ?_
  · go_simp
    obtain ⟨A, c, rfl, h1⟩ := kHas_at hF 3 rfl (by kernel_rfl)
    obtain ⟨B, d, rfl, h2⟩ := kHas_at hF 0 rfl (by kernel_rfl)
    refine (same_any A B _ _ c d [[6, 7], [7]] [[6, 7], [7]] W h1 h2 (by unfold Bytes; decide) (by unfold Bytes; decide) (by decide)).mono ?_
    rintro e w' ⟨rfl, m, rfl⟩
    exact hK _ _ ((Keep.refl _ _).drewN _) rfl
  refine kAll_p (fun K hK => ?_)
  go_simp
  refine hK _ ?_
  clear hK K
  refine kAll_p (fun K hK => ?_)
  go_simp
  refine hK _ ?_
  clear hK K
  refine kAll_p (fun K hK => ?_)
  go_simp
  refine hK _ ?_
  clear hK K
  refine kAll_p (fun K hK => ?_)
  go_simp
  refine hK _ ?_
  clear hK K
  refine kAll_p (fun K hK => ?_)
  go_simp
  refine hK _ ?_
  clear hK K
  refine kAll_p (fun K hK => ?_)
  go_simp
  refine hK _ ?_
  clear hK K
  refine kAll_p (fun K hK => ?_)
  go_simp
  refine hK _ ?_
  clear hK K
  refine kAll_p (fun K hK => ?_)
  go_simp
  refine hK _ ?_
  clear hK K
  refine kAll_p (fun K hK => ?_)
  go_simp
  refine hK _ ?_
  clear hK K
  refine kAll_p (fun K hK => ?_)
  go_simp
  refine hK _ ?_
  clear hK K
  refine kAll_nil (fun W hW hF => ?_)
  clear hF
  go_wp2
  go_ret
  exact ⟨rfl, (Keep.refl _ w).drew.trans (hW.mono fun _ _ h => h.elim)⟩
end Go.Proofs.YtngjecbdajognaaDoor
