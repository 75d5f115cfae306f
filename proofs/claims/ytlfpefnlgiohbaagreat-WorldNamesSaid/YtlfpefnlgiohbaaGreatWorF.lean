/-
  World.Do at crash, pass (no node), a kind that is none, a nil pointer. Written by gen_worf.py.
-/
import Derived.Test.YtlfpefnlgiohbaaGreatWorE
namespace Go.Proofs.YtlfpefnlgiohbaaGreat
open Go.RowKit Go
set_option maxRecDepth 100000
attribute [local irreducible] kAll kAllP
attribute [local go_sem] kQuiet kQuietUpon
section
variable {P : Program} (w : World)
theorem eql_fn (t : TypeId) (f a c) {x y z} (h : P.underlying t = some (.func x y z)) : (binOp .eql t (.func f a c) .nilFunc).run P w = .ok (.bool false) w := by
  simp only [binOp]
  simp [eq_fn w t f a c h]
theorem eql_nil (t : TypeId) {x y z} (h : P.underlying t = some (.func x y z)) : (binOp .eql t .nilFunc .nilFunc).run P w = .ok (.bool true) w := by
  simp only [binOp]
  simp [eq_nil w t h]
end
theorem eqlFn (w : World) (f a c) : (binOp .eql 57 (.func f a c) .nilFunc).run Tryz.prog w = .ok (.bool false) w := eql_fn w _ f a c Tryz.underlying57
theorem eqlNil (w : World) : (binOp .eql 57 .nilFunc .nilFunc).run Tryz.prog w = .ok (.bool true) w := eql_nil w _ Tryz.underlying57
attribute [local go_sem] neqFn neqNil eqlFn eqlNil
theorem do_nil (o : OpM) (d : Int) (w : World) : Calls Tryz.prog 4 #[.pointer none, .agg (opC o), .int .u32 d] w fun e w' => e = .returned (ansV 2) ∧ Keep (fun _ => False) w w' := by
  obtain ⟨kind, addr, inc, n, at_, x, ab⟩ := o
  go_enter Tryz.func4, Tryz.ntmps4
  go_upto_region 1 with (fail)
  have k1 := (Keep.refl (fun _ => False) w).alloc (.cells (opC ⟨kind, addr, inc, n, at_, x, ab⟩) 40)
  have z1 : (w.alloc (.cells (opC ⟨kind, addr, inc, n, at_, x, ab⟩) 40)).heap.size = w.heap.size + 1 := by simp
  generalize w.alloc (.cells (opC ⟨kind, addr, inc, n, at_, x, ab⟩) 40) = V1 at *
  have ha := Blk.new_ z1 34 ansC
  have k2 := (Keep.refl (fun _ => False) V1).alloc (.cells ansC 34)
  generalize V1.alloc (.cells ansC 34) = V2 at *
  have HA := Lib.hid ha
  have HK := Lib.hid (keep0_trans _ _ _ k1 k2)
  clear k1 z1 ha k2
  generalize w.heap.size + 1 = gA at *
  go_wp2_with (first | (refine wpList_store_row rfl 34 _ _ rfl gA ansC rfl rfl 34 _ HA.out sizeAns rfl oneAns ?_; rw [setRow_same HA.out]) | fail)
  exact bodyPost_ret (v := ansV 2) (results_ans Tryz.results4 _ _ _ HA.out rfl rfl) rfl ⟨rfl, HK.out⟩
set_option maxHeartbeats 4000000 in
theorem do_none (b : Nat) (o : OpM) (d : Int) (np : Option Addr) (w : World) (hk0 : o.kind = 0)
    (hnd : ∀ W, Keep (fun _ => False) w W → Calls Tryz.prog 9 #[.pointer (some ⟨b, 0, none⟩), .int .i64 o.addr] W fun e w' => e = .returned (.pointer np) ∧ w' = W) :
    Calls Tryz.prog 4 #[.pointer (some ⟨b, 0, none⟩), .agg (opC o), .int .u32 d] w fun e w' => e = .returned (ansV 4) ∧ Keep (fun _ => False) w w' := by
  obtain ⟨kind, addr, inc, n, at_, x, ab⟩ := o
  simp only at hk0
  subst hk0
  have HNd := Lib.hid hnd
  simp only at HNd
  clear hnd
  go_enter Tryz.func4, Tryz.ntmps4
  go_upto_region 5 with (fail)
  have ho := Blk.new w 40 (opC ⟨0, addr, inc, n, at_, x, ab⟩)
  have k1 := (Keep.refl (fun _ => False) w).alloc (.cells (opC ⟨0, addr, inc, n, at_, x, ab⟩) 40)
  have z1 : (w.alloc (.cells (opC ⟨0, addr, inc, n, at_, x, ab⟩) 40)).heap.size = w.heap.size + 1 := by simp
  generalize w.alloc (.cells (opC ⟨0, addr, inc, n, at_, x, ab⟩) 40) = V1 at *
  have ha := Blk.new_ z1 34 ansC
  have k2 := (Keep.refl (fun _ => False) V1).alloc (.cells ansC 34)
  have z2 : (V1.alloc (.cells ansC 34)).heap.size = w.heap.size + 1 + 1 := by simp [z1]
  generalize V1.alloc (.cells ansC 34) = V2 at *
  have h13 := Blk.new_ z2 59 tab13
  have k3 := (Keep.refl (fun _ => False) V2).alloc (.cells tab13 59)
  have z3 : (V2.alloc (.cells tab13 59)).heap.size = w.heap.size + 1 + 1 + 1 := by simp [z2]
  generalize V2.alloc (.cells tab13 59) = V3 at *
  have h12 := Blk.new_ z3 60 tab12
  have k4 := (Keep.refl (fun _ => False) V3).alloc (.cells tab12 60)
  generalize V3.alloc (.cells tab12 60) = V4 at *
  have HO := Lib.hid (((ho.keep k2 (fun h => h)).keep k3 (fun h => h)).keep k4 (fun h => h))
  have HA := Lib.hid ((ha.keep k3 (fun h => h)).keep k4 (fun h => h))
  have H13 := Lib.hid (h13.keep k4 (fun h => h))
  have H12 := Lib.hid h12
  have HK4 := Lib.hid (keep0_trans _ _ _ (keep0_trans _ _ _ (keep0_trans _ _ _ k1 k2) k3) k4)
  clear ho k1 z1 ha k2 z2 h13 k3 z3 h12 k4
  generalize w.heap.size + 1 + 1 + 1 = g12 at *
  generalize w.heap.size + 1 + 1 = g13 at *
  generalize w.heap.size + 1 = gA at *
  refine wp_region_krip (Keep (fun _ => False)) (Keep.refl _) keep0_trans 8 (by kernel_rfl) (by kernel_rfl) (Ts := [some (.inl (.agg #[.int .u8 0, .int .i64 addr, .int .i64 inc, .int .i64 n, .int .i64 at_, .int .u32 x, .int .i64 ab.1, .int .i64 ab.2])), none, none, none, some (.inl (.int .i64 addr)), some (.inl (.pointer np)), some (.inl (.agg #[.int .u8 0, .int .i64 addr, .int .i64 inc, .int .i64 n, .int .i64 at_, .int .u32 x, .int .i64 ab.1, .int .i64 ab.2, .int .u32 d, .pointer np])), some (.inr (fun v W => ∃ g_0, v = .pointer (some ⟨g_0, 0, none⟩) ∧ Blk W g_0 62 (actC ⟨0, 0, 0, 0, 0, 0, (0, 0)⟩ 0 (.pointer none)) ∧ w.heap.size ≤ g_0))]) ?_
  simp only [List.take, List.drop]
  refine kAll_dn _ (fun W hW hF => kStep_of fun K Q hK => ?_) (fun K hK => ?_)
  · exact wp_load_row 40 _ rfl _ rfl 40 _ (0, 0) _ (HO.out.keep (keepD (Keep.refl _ _) hW) (fun h => h)) Tryz.underlying40 rfl (by kernel_rfl) (hK _ _ (Keep.refl _ _) rfl)
  go_simp
  generalize hZ : (Act.mk _ _) = Z
  refine hK Z ?_
  subst hZ
  clear hK K
  refine kAll_p (fun K hK => ?_)
  go_simp
  generalize hZ : (Act.mk _ _) = Z
  refine hK Z ?_
  subst hZ
  clear hK K
  refine kAll_p (fun K hK => ?_)
  go_simp
  generalize hZ : (Act.mk _ _) = Z
  refine hK Z ?_
  subst hZ
  clear hK K
  refine kAll_p (fun K hK => ?_)
  go_simp
  generalize hZ : (Act.mk _ _) = Z
  refine hK Z ?_
  subst hZ
  clear hK K
  refine kAll_dn _ (fun W hW hF => kStep_of fun K Q hK => ?_) (fun K hK => ?_)
  · have c0 := (HO.out.keep (keepD (Keep.refl _ _) hW) (fun h => h)).cell 1
    simp at c0
    go_simp
    exact hK _ _ (Keep.refl _ _) rfl
  go_simp
  generalize hZ : (Act.mk _ _) = Z
  refine hK Z ?_
  subst hZ
  clear hK K
  refine kAll_dn _ (fun W hW hF => kStep_of fun K Q hK => ?_) (fun K hK => ?_)
  · go_simp
    refine (HNd.out W (keep0_trans _ _ _ HK4.out (keepD (Keep.refl _ _) hW))).mono ?_
    rintro e w' ⟨rfl, rfl⟩
    exact hK _ _ (Keep.refl _ _) rfl
  go_simp
  generalize hZ : (Act.mk _ _) = Z
  refine hK Z ?_
  subst hZ
  clear hK K
  refine kAll_dn _ (fun W hW hF => kStep_of fun K Q hK => ?_) (fun K hK => ?_)
  · exact wp_build_is 62 _ rfl (l := [(0, .agg #[.int .u8 0, .int .i64 addr, .int .i64 inc, .int .i64 n, .int .i64 at_, .int .u32 x, .int .i64 ab.1, .int .i64 ab.2]), (1, .int .u32 d), (2, .pointer np)]) (by kernel_rfl) (cells := #[.int .u8 0, .int .i64 addr, .int .i64 inc, .int .i64 n, .int .i64 at_, .int .u32 x, .int .i64 ab.1, .int .i64 ab.2, .int .u32 d, .pointer np]) (by kernel_rfl) (hK _ _ (Keep.refl _ _) rfl)
  go_simp
  generalize hZ : (Act.mk _ _) = Z
  refine hK Z ?_
  subst hZ
  clear hK K
  refine kAll_tn _ (fun v W W' hk h => by obtain ⟨g_0, e, h0, h1⟩ := h; exact ⟨_, e, (h0.keep hk (fun h => h)), (h1)⟩) (fun W hW hF => kStep_of fun K Q hK => ?_) (fun u0 K hK => ?_)
  · go_simp
    exact hK _ _ ((Keep.refl _ _).alloc _) ⟨_, rfl, Blk.new _ _ _, (keep0_trans _ _ _ HK4.out (keepD (Keep.refl _ _) hW)).size⟩
  go_simp
  generalize hZ : (Act.mk _ _) = Z
  refine hK Z ?_
  subst hZ
  clear hK K
  refine kAll_nil (fun W hW hF => ?_)
  obtain ⟨ga, rfl, hba, hla⟩ := kAllHas_at hF 0 rfl
  replace HO := Lib.hid (HO.out.keep (keepD (Keep.refl _ _) hW) (fun h => h))
  replace HA := Lib.hid (HA.out.keep (keepD (Keep.refl _ _) hW) (fun h => h))
  replace H13 := Lib.hid (H13.out.keep (keepD (Keep.refl _ _) hW) (fun h => h))
  replace H12 := Lib.hid (H12.out.keep (keepD (Keep.refl _ _) hW) (fun h => h))
  replace HK4 := Lib.hid (keep0_trans _ _ _ HK4.out (keepD (Keep.refl _ _) hW))
  have HBa := Lib.hid hba
  have HLa := Lib.hid hla
  clear hW hF hba hla HNd
  go_upto_region 6 with (first | (refine wpList_store_row rfl 62 _ _ rfl ga (actC ⟨0, addr, inc, n, at_, x, ab⟩ d (.pointer np)) rfl rfl 62 _ HBa.out sizeAct rfl (oneAct _ _ _) ?_) | fail)
  have kr := keep_setRow W ga (actC ⟨0, addr, inc, n, at_, x, ab⟩ d (.pointer np))
  have hb6 := blk_setRow HBa.out (actC ⟨0, addr, inc, n, at_, x, ab⟩ d (.pointer np))
  have ho6 := HO.out.keep kr (fun e => (Blk.ne_ HO.out HBa.out (by decide)) e)
  have ha6 := HA.out.keep kr (fun e => (Blk.ne_ HA.out HBa.out (by decide)) e)
  have h136 := H13.out.keep kr (fun e => (Blk.ne_ H13.out HBa.out (by decide)) e)
  have h126 := H12.out.keep kr (fun e => (Blk.ne_ H12.out HBa.out (by decide)) e)
  have hk6 := HK4.out.trans (kr.mono fun g _ e => .inr (by rw [e]; exact HLa.out))
  generalize W.setRow ga (actC ⟨0, addr, inc, n, at_, x, ab⟩ d (.pointer np)) = W6 at *
  replace HBa := Lib.hid hb6
  replace HO := Lib.hid ho6
  replace HA := Lib.hid ha6
  replace H13 := Lib.hid h136
  replace H12 := Lib.hid h126
  replace HK4 := Lib.hid hk6
  clear kr hb6 ho6 ha6 h136 h126 hk6
  have o0 := HO.out.cell 0
  simp at o0
  have t0 := H13.out.cell 0
  simp at t0
  have t1 := H12.out.cell 0
  simp at t1
  go_wp2_with (first | (refine wpList_store_row rfl 34 _ _ rfl gA ansC rfl rfl 34 _ HA.out sizeAns rfl oneAns ?_; rw [setRow_same HA.out]) | fail)
  exact bodyPost_ret (v := ansV 4) (results_ans Tryz.results4 _ _ _ HA.out rfl rfl) rfl ⟨rfl, HK4.out⟩
set_option maxHeartbeats 4000000 in
theorem do_bad (b : Nat) (o : OpM) (d : Int) (np : Option Addr) (w : World) (hk0 : o.kind = 13)
    (hnd : ∀ W, Keep (fun _ => False) w W → Calls Tryz.prog 9 #[.pointer (some ⟨b, 0, none⟩), .int .i64 o.addr] W fun e w' => e = .returned (.pointer np) ∧ w' = W) :
    Calls Tryz.prog 4 #[.pointer (some ⟨b, 0, none⟩), .agg (opC o), .int .u32 d] w fun e w' => e = .returned (ansV 4) ∧ Keep (fun _ => False) w w' := by
  obtain ⟨kind, addr, inc, n, at_, x, ab⟩ := o
  simp only at hk0
  subst hk0
  have HNd := Lib.hid hnd
  simp only at HNd
  clear hnd
  go_enter Tryz.func4, Tryz.ntmps4
  go_upto_region 5 with (fail)
  have ho := Blk.new w 40 (opC ⟨13, addr, inc, n, at_, x, ab⟩)
  have k1 := (Keep.refl (fun _ => False) w).alloc (.cells (opC ⟨13, addr, inc, n, at_, x, ab⟩) 40)
  have z1 : (w.alloc (.cells (opC ⟨13, addr, inc, n, at_, x, ab⟩) 40)).heap.size = w.heap.size + 1 := by simp
  generalize w.alloc (.cells (opC ⟨13, addr, inc, n, at_, x, ab⟩) 40) = V1 at *
  have ha := Blk.new_ z1 34 ansC
  have k2 := (Keep.refl (fun _ => False) V1).alloc (.cells ansC 34)
  have z2 : (V1.alloc (.cells ansC 34)).heap.size = w.heap.size + 1 + 1 := by simp [z1]
  generalize V1.alloc (.cells ansC 34) = V2 at *
  have h13 := Blk.new_ z2 59 tab13
  have k3 := (Keep.refl (fun _ => False) V2).alloc (.cells tab13 59)
  have z3 : (V2.alloc (.cells tab13 59)).heap.size = w.heap.size + 1 + 1 + 1 := by simp [z2]
  generalize V2.alloc (.cells tab13 59) = V3 at *
  have h12 := Blk.new_ z3 60 tab12
  have k4 := (Keep.refl (fun _ => False) V3).alloc (.cells tab12 60)
  generalize V3.alloc (.cells tab12 60) = V4 at *
  have HO := Lib.hid (((ho.keep k2 (fun h => h)).keep k3 (fun h => h)).keep k4 (fun h => h))
  have HA := Lib.hid ((ha.keep k3 (fun h => h)).keep k4 (fun h => h))
  have H13 := Lib.hid (h13.keep k4 (fun h => h))
  have H12 := Lib.hid h12
  have HK4 := Lib.hid (keep0_trans _ _ _ (keep0_trans _ _ _ (keep0_trans _ _ _ k1 k2) k3) k4)
  clear ho k1 z1 ha k2 z2 h13 k3 z3 h12 k4
  generalize w.heap.size + 1 + 1 + 1 = g12 at *
  generalize w.heap.size + 1 + 1 = g13 at *
  generalize w.heap.size + 1 = gA at *
  refine wp_region_krip (Keep (fun _ => False)) (Keep.refl _) keep0_trans 8 (by kernel_rfl) (by kernel_rfl) (Ts := [some (.inl (.agg #[.int .u8 13, .int .i64 addr, .int .i64 inc, .int .i64 n, .int .i64 at_, .int .u32 x, .int .i64 ab.1, .int .i64 ab.2])), none, none, none, some (.inl (.int .i64 addr)), some (.inl (.pointer np)), some (.inl (.agg #[.int .u8 13, .int .i64 addr, .int .i64 inc, .int .i64 n, .int .i64 at_, .int .u32 x, .int .i64 ab.1, .int .i64 ab.2, .int .u32 d, .pointer np])), some (.inr (fun v W => ∃ g_0, v = .pointer (some ⟨g_0, 0, none⟩) ∧ Blk W g_0 62 (actC ⟨0, 0, 0, 0, 0, 0, (0, 0)⟩ 0 (.pointer none)) ∧ w.heap.size ≤ g_0))]) ?_
  simp only [List.take, List.drop]
  refine kAll_dn _ (fun W hW hF => kStep_of fun K Q hK => ?_) (fun K hK => ?_)
  · exact wp_load_row 40 _ rfl _ rfl 40 _ (0, 0) _ (HO.out.keep (keepD (Keep.refl _ _) hW) (fun h => h)) Tryz.underlying40 rfl (by kernel_rfl) (hK _ _ (Keep.refl _ _) rfl)
  go_simp
  generalize hZ : (Act.mk _ _) = Z
  refine hK Z ?_
  subst hZ
  clear hK K
  refine kAll_p (fun K hK => ?_)
  go_simp
  generalize hZ : (Act.mk _ _) = Z
  refine hK Z ?_
  subst hZ
  clear hK K
  refine kAll_p (fun K hK => ?_)
  go_simp
  generalize hZ : (Act.mk _ _) = Z
  refine hK Z ?_
  subst hZ
  clear hK K
  refine kAll_p (fun K hK => ?_)
  go_simp
  generalize hZ : (Act.mk _ _) = Z
  refine hK Z ?_
  subst hZ
  clear hK K
  refine kAll_dn _ (fun W hW hF => kStep_of fun K Q hK => ?_) (fun K hK => ?_)
  · have c0 := (HO.out.keep (keepD (Keep.refl _ _) hW) (fun h => h)).cell 1
    simp at c0
    go_simp
    exact hK _ _ (Keep.refl _ _) rfl
  go_simp
  generalize hZ : (Act.mk _ _) = Z
  refine hK Z ?_
  subst hZ
  clear hK K
  refine kAll_dn _ (fun W hW hF => kStep_of fun K Q hK => ?_) (fun K hK => ?_)
  · go_simp
    refine (HNd.out W (keep0_trans _ _ _ HK4.out (keepD (Keep.refl _ _) hW))).mono ?_
    rintro e w' ⟨rfl, rfl⟩
    exact hK _ _ (Keep.refl _ _) rfl
  go_simp
  generalize hZ : (Act.mk _ _) = Z
  refine hK Z ?_
  subst hZ
  clear hK K
  refine kAll_dn _ (fun W hW hF => kStep_of fun K Q hK => ?_) (fun K hK => ?_)
  · exact wp_build_is 62 _ rfl (l := [(0, .agg #[.int .u8 13, .int .i64 addr, .int .i64 inc, .int .i64 n, .int .i64 at_, .int .u32 x, .int .i64 ab.1, .int .i64 ab.2]), (1, .int .u32 d), (2, .pointer np)]) (by kernel_rfl) (cells := #[.int .u8 13, .int .i64 addr, .int .i64 inc, .int .i64 n, .int .i64 at_, .int .u32 x, .int .i64 ab.1, .int .i64 ab.2, .int .u32 d, .pointer np]) (by kernel_rfl) (hK _ _ (Keep.refl _ _) rfl)
  go_simp
  generalize hZ : (Act.mk _ _) = Z
  refine hK Z ?_
  subst hZ
  clear hK K
  refine kAll_tn _ (fun v W W' hk h => by obtain ⟨g_0, e, h0, h1⟩ := h; exact ⟨_, e, (h0.keep hk (fun h => h)), (h1)⟩) (fun W hW hF => kStep_of fun K Q hK => ?_) (fun u0 K hK => ?_)
  · go_simp
    exact hK _ _ ((Keep.refl _ _).alloc _) ⟨_, rfl, Blk.new _ _ _, (keep0_trans _ _ _ HK4.out (keepD (Keep.refl _ _) hW)).size⟩
  go_simp
  generalize hZ : (Act.mk _ _) = Z
  refine hK Z ?_
  subst hZ
  clear hK K
  refine kAll_nil (fun W hW hF => ?_)
  obtain ⟨ga, rfl, hba, hla⟩ := kAllHas_at hF 0 rfl
  replace HO := Lib.hid (HO.out.keep (keepD (Keep.refl _ _) hW) (fun h => h))
  replace HA := Lib.hid (HA.out.keep (keepD (Keep.refl _ _) hW) (fun h => h))
  replace H13 := Lib.hid (H13.out.keep (keepD (Keep.refl _ _) hW) (fun h => h))
  replace H12 := Lib.hid (H12.out.keep (keepD (Keep.refl _ _) hW) (fun h => h))
  replace HK4 := Lib.hid (keep0_trans _ _ _ HK4.out (keepD (Keep.refl _ _) hW))
  have HBa := Lib.hid hba
  have HLa := Lib.hid hla
  clear hW hF hba hla HNd
  go_upto_region 6 with (first | (refine wpList_store_row rfl 62 _ _ rfl ga (actC ⟨13, addr, inc, n, at_, x, ab⟩ d (.pointer np)) rfl rfl 62 _ HBa.out sizeAct rfl (oneAct _ _ _) ?_) | fail)
  have kr := keep_setRow W ga (actC ⟨13, addr, inc, n, at_, x, ab⟩ d (.pointer np))
  have hb6 := blk_setRow HBa.out (actC ⟨13, addr, inc, n, at_, x, ab⟩ d (.pointer np))
  have ho6 := HO.out.keep kr (fun e => (Blk.ne_ HO.out HBa.out (by decide)) e)
  have ha6 := HA.out.keep kr (fun e => (Blk.ne_ HA.out HBa.out (by decide)) e)
  have h136 := H13.out.keep kr (fun e => (Blk.ne_ H13.out HBa.out (by decide)) e)
  have h126 := H12.out.keep kr (fun e => (Blk.ne_ H12.out HBa.out (by decide)) e)
  have hk6 := HK4.out.trans (kr.mono fun g _ e => .inr (by rw [e]; exact HLa.out))
  generalize W.setRow ga (actC ⟨13, addr, inc, n, at_, x, ab⟩ d (.pointer np)) = W6 at *
  replace HBa := Lib.hid hb6
  replace HO := Lib.hid ho6
  replace HA := Lib.hid ha6
  replace H13 := Lib.hid h136
  replace H12 := Lib.hid h126
  replace HK4 := Lib.hid hk6
  clear kr hb6 ho6 ha6 h136 h126 hk6
  have o0 := HO.out.cell 0
  simp at o0
  go_wp2_with (first | (refine wpList_store_row rfl 34 _ _ rfl gA ansC rfl rfl 34 _ HA.out sizeAns rfl oneAns ?_; rw [setRow_same HA.out]) | fail)
  exact bodyPost_ret (v := ansV 4) (results_ans Tryz.results4 _ _ _ HA.out rfl rfl) rfl ⟨rfl, HK4.out⟩
set_option maxHeartbeats 4000000 in
theorem do_pass (b : Nat) (o : OpM) (d : Int) (w : World) (hk0 : o.kind = 3)
    (hnd : ∀ W, Keep (fun _ => False) w W → Calls Tryz.prog 9 #[.pointer (some ⟨b, 0, none⟩), .int .i64 o.addr] W fun e w' => e = .returned (.pointer none) ∧ w' = W) :
    Calls Tryz.prog 4 #[.pointer (some ⟨b, 0, none⟩), .agg (opC o), .int .u32 d] w fun e w' => e = .returned (ansV 5) ∧ Keep (fun _ => False) w w' := by
  obtain ⟨kind, addr, inc, n, at_, x, ab⟩ := o
  simp only at hk0
  subst hk0
  have HNd := Lib.hid hnd
  simp only at HNd
  clear hnd
  go_enter Tryz.func4, Tryz.ntmps4
  go_upto_region 5 with (fail)
  have ho := Blk.new w 40 (opC ⟨3, addr, inc, n, at_, x, ab⟩)
  have k1 := (Keep.refl (fun _ => False) w).alloc (.cells (opC ⟨3, addr, inc, n, at_, x, ab⟩) 40)
  have z1 : (w.alloc (.cells (opC ⟨3, addr, inc, n, at_, x, ab⟩) 40)).heap.size = w.heap.size + 1 := by simp
  generalize w.alloc (.cells (opC ⟨3, addr, inc, n, at_, x, ab⟩) 40) = V1 at *
  have ha := Blk.new_ z1 34 ansC
  have k2 := (Keep.refl (fun _ => False) V1).alloc (.cells ansC 34)
  have z2 : (V1.alloc (.cells ansC 34)).heap.size = w.heap.size + 1 + 1 := by simp [z1]
  generalize V1.alloc (.cells ansC 34) = V2 at *
  have h13 := Blk.new_ z2 59 tab13
  have k3 := (Keep.refl (fun _ => False) V2).alloc (.cells tab13 59)
  have z3 : (V2.alloc (.cells tab13 59)).heap.size = w.heap.size + 1 + 1 + 1 := by simp [z2]
  generalize V2.alloc (.cells tab13 59) = V3 at *
  have h12 := Blk.new_ z3 60 tab12
  have k4 := (Keep.refl (fun _ => False) V3).alloc (.cells tab12 60)
  generalize V3.alloc (.cells tab12 60) = V4 at *
  have HO := Lib.hid (((ho.keep k2 (fun h => h)).keep k3 (fun h => h)).keep k4 (fun h => h))
  have HA := Lib.hid ((ha.keep k3 (fun h => h)).keep k4 (fun h => h))
  have H13 := Lib.hid (h13.keep k4 (fun h => h))
  have H12 := Lib.hid h12
  have HK4 := Lib.hid (keep0_trans _ _ _ (keep0_trans _ _ _ (keep0_trans _ _ _ k1 k2) k3) k4)
  clear ho k1 z1 ha k2 z2 h13 k3 z3 h12 k4
  generalize w.heap.size + 1 + 1 + 1 = g12 at *
  generalize w.heap.size + 1 + 1 = g13 at *
  generalize w.heap.size + 1 = gA at *
  refine wp_region_krip (Keep (fun _ => False)) (Keep.refl _) keep0_trans 8 (by kernel_rfl) (by kernel_rfl) (Ts := [some (.inl (.agg #[.int .u8 3, .int .i64 addr, .int .i64 inc, .int .i64 n, .int .i64 at_, .int .u32 x, .int .i64 ab.1, .int .i64 ab.2])), none, none, none, some (.inl (.int .i64 addr)), some (.inl (.pointer none)), some (.inl (.agg #[.int .u8 3, .int .i64 addr, .int .i64 inc, .int .i64 n, .int .i64 at_, .int .u32 x, .int .i64 ab.1, .int .i64 ab.2, .int .u32 d, .pointer none])), some (.inr (fun v W => ∃ g_0, v = .pointer (some ⟨g_0, 0, none⟩) ∧ Blk W g_0 62 (actC ⟨0, 0, 0, 0, 0, 0, (0, 0)⟩ 0 (.pointer none)) ∧ w.heap.size ≤ g_0))]) ?_
  simp only [List.take, List.drop]
  refine kAll_dn _ (fun W hW hF => kStep_of fun K Q hK => ?_) (fun K hK => ?_)
  · exact wp_load_row 40 _ rfl _ rfl 40 _ (0, 0) _ (HO.out.keep (keepD (Keep.refl _ _) hW) (fun h => h)) Tryz.underlying40 rfl (by kernel_rfl) (hK _ _ (Keep.refl _ _) rfl)
  go_simp
  generalize hZ : (Act.mk _ _) = Z
  refine hK Z ?_
  subst hZ
  clear hK K
  refine kAll_p (fun K hK => ?_)
  go_simp
  generalize hZ : (Act.mk _ _) = Z
  refine hK Z ?_
  subst hZ
  clear hK K
  refine kAll_p (fun K hK => ?_)
  go_simp
  generalize hZ : (Act.mk _ _) = Z
  refine hK Z ?_
  subst hZ
  clear hK K
  refine kAll_p (fun K hK => ?_)
  go_simp
  generalize hZ : (Act.mk _ _) = Z
  refine hK Z ?_
  subst hZ
  clear hK K
  refine kAll_dn _ (fun W hW hF => kStep_of fun K Q hK => ?_) (fun K hK => ?_)
  · have c0 := (HO.out.keep (keepD (Keep.refl _ _) hW) (fun h => h)).cell 1
    simp at c0
    go_simp
    exact hK _ _ (Keep.refl _ _) rfl
  go_simp
  generalize hZ : (Act.mk _ _) = Z
  refine hK Z ?_
  subst hZ
  clear hK K
  refine kAll_dn _ (fun W hW hF => kStep_of fun K Q hK => ?_) (fun K hK => ?_)
  · go_simp
    refine (HNd.out W (keep0_trans _ _ _ HK4.out (keepD (Keep.refl _ _) hW))).mono ?_
    rintro e w' ⟨rfl, rfl⟩
    exact hK _ _ (Keep.refl _ _) rfl
  go_simp
  generalize hZ : (Act.mk _ _) = Z
  refine hK Z ?_
  subst hZ
  clear hK K
  refine kAll_dn _ (fun W hW hF => kStep_of fun K Q hK => ?_) (fun K hK => ?_)
  · exact wp_build_is 62 _ rfl (l := [(0, .agg #[.int .u8 3, .int .i64 addr, .int .i64 inc, .int .i64 n, .int .i64 at_, .int .u32 x, .int .i64 ab.1, .int .i64 ab.2]), (1, .int .u32 d), (2, .pointer none)]) (by kernel_rfl) (cells := #[.int .u8 3, .int .i64 addr, .int .i64 inc, .int .i64 n, .int .i64 at_, .int .u32 x, .int .i64 ab.1, .int .i64 ab.2, .int .u32 d, .pointer none]) (by kernel_rfl) (hK _ _ (Keep.refl _ _) rfl)
  go_simp
  generalize hZ : (Act.mk _ _) = Z
  refine hK Z ?_
  subst hZ
  clear hK K
  refine kAll_tn _ (fun v W W' hk h => by obtain ⟨g_0, e, h0, h1⟩ := h; exact ⟨_, e, (h0.keep hk (fun h => h)), (h1)⟩) (fun W hW hF => kStep_of fun K Q hK => ?_) (fun u0 K hK => ?_)
  · go_simp
    exact hK _ _ ((Keep.refl _ _).alloc _) ⟨_, rfl, Blk.new _ _ _, (keep0_trans _ _ _ HK4.out (keepD (Keep.refl _ _) hW)).size⟩
  go_simp
  generalize hZ : (Act.mk _ _) = Z
  refine hK Z ?_
  subst hZ
  clear hK K
  refine kAll_nil (fun W hW hF => ?_)
  obtain ⟨ga, rfl, hba, hla⟩ := kAllHas_at hF 0 rfl
  replace HO := Lib.hid (HO.out.keep (keepD (Keep.refl _ _) hW) (fun h => h))
  replace HA := Lib.hid (HA.out.keep (keepD (Keep.refl _ _) hW) (fun h => h))
  replace H13 := Lib.hid (H13.out.keep (keepD (Keep.refl _ _) hW) (fun h => h))
  replace H12 := Lib.hid (H12.out.keep (keepD (Keep.refl _ _) hW) (fun h => h))
  replace HK4 := Lib.hid (keep0_trans _ _ _ HK4.out (keepD (Keep.refl _ _) hW))
  have HBa := Lib.hid hba
  have HLa := Lib.hid hla
  clear hW hF hba hla HNd
  go_upto_region 6 with (first | (refine wpList_store_row rfl 62 _ _ rfl ga (actC ⟨3, addr, inc, n, at_, x, ab⟩ d (.pointer none)) rfl rfl 62 _ HBa.out sizeAct rfl (oneAct _ _ _) ?_) | fail)
  have kr := keep_setRow W ga (actC ⟨3, addr, inc, n, at_, x, ab⟩ d (.pointer none))
  have hb6 := blk_setRow HBa.out (actC ⟨3, addr, inc, n, at_, x, ab⟩ d (.pointer none))
  have ho6 := HO.out.keep kr (fun e => (Blk.ne_ HO.out HBa.out (by decide)) e)
  have ha6 := HA.out.keep kr (fun e => (Blk.ne_ HA.out HBa.out (by decide)) e)
  have h136 := H13.out.keep kr (fun e => (Blk.ne_ H13.out HBa.out (by decide)) e)
  have h126 := H12.out.keep kr (fun e => (Blk.ne_ H12.out HBa.out (by decide)) e)
  have hk6 := HK4.out.trans (kr.mono fun g _ e => .inr (by rw [e]; exact HLa.out))
  generalize W.setRow ga (actC ⟨3, addr, inc, n, at_, x, ab⟩ d (.pointer none)) = W6 at *
  replace HBa := Lib.hid hb6
  replace HO := Lib.hid ho6
  replace HA := Lib.hid ha6
  replace H13 := Lib.hid h136
  replace H12 := Lib.hid h126
  replace HK4 := Lib.hid hk6
  clear kr hb6 ho6 ha6 h136 h126 hk6
  have o0 := HO.out.cell 0
  simp at o0
  have t0 := H13.out.cell 3
  simp at t0
  have t1 := H12.out.cell 3
  simp at t1
  have t2 := HBa.out.cell 9
  simp at t2
  go_wp2_with (first | (refine wpList_store_row rfl 34 _ _ rfl gA ansC rfl rfl 34 _ HA.out sizeAns rfl oneAns ?_; rw [setRow_same HA.out]) | fail)
  exact bodyPost_ret (v := ansV 5) (results_ans Tryz.results4 _ _ _ HA.out rfl rfl) rfl ⟨rfl, HK4.out⟩
set_option maxHeartbeats 8000000 in
theorem do_crash (b : Nat) (o : OpM) (d : Int) (pn : Addr) (er : Int) (R : World → World → Prop) (w : World) (hk0 : o.kind = 2) (hbw : b < w.heap.size)
    (hnd : ∀ W, Keep (fun _ => False) w W → Calls Tryz.prog 9 #[.pointer (some ⟨b, 0, none⟩), .int .i64 o.addr] W fun e w' => e = .returned (.pointer (some pn)) ∧ w' = W)
    (hf : ∀ W, Keep (fun _ => False) w W → Calls Tryz.prog 20 #[.pointer (some ⟨b, 0, none⟩), .agg (actC o d (.pointer (some pn)))] W fun e W' => e = .returned (ansV er) ∧ R W W' ∧ Keep (fun g => g = b) W W') :
    Calls Tryz.prog 4 #[.pointer (some ⟨b, 0, none⟩), .agg (opC o), .int .u32 d] w (DoSays R er b w) := by
  have HF := Lib.hid hf
  have HBW := Lib.hid hbw
  clear hf hbw
  obtain ⟨kind, addr, inc, n, at_, x, ab⟩ := o
  simp only at hk0
  subst hk0
  have HNd := Lib.hid hnd
  simp only at HNd
  clear hnd
  go_enter Tryz.func4, Tryz.ntmps4
  go_upto_region 5 with (fail)
  have ho := Blk.new w 40 (opC ⟨2, addr, inc, n, at_, x, ab⟩)
  have k1 := (Keep.refl (fun _ => False) w).alloc (.cells (opC ⟨2, addr, inc, n, at_, x, ab⟩) 40)
  have z1 : (w.alloc (.cells (opC ⟨2, addr, inc, n, at_, x, ab⟩) 40)).heap.size = w.heap.size + 1 := by simp
  generalize w.alloc (.cells (opC ⟨2, addr, inc, n, at_, x, ab⟩) 40) = V1 at *
  have ha := Blk.new_ z1 34 ansC
  have k2 := (Keep.refl (fun _ => False) V1).alloc (.cells ansC 34)
  have z2 : (V1.alloc (.cells ansC 34)).heap.size = w.heap.size + 1 + 1 := by simp [z1]
  generalize V1.alloc (.cells ansC 34) = V2 at *
  have h13 := Blk.new_ z2 59 tab13
  have k3 := (Keep.refl (fun _ => False) V2).alloc (.cells tab13 59)
  have z3 : (V2.alloc (.cells tab13 59)).heap.size = w.heap.size + 1 + 1 + 1 := by simp [z2]
  generalize V2.alloc (.cells tab13 59) = V3 at *
  have h12 := Blk.new_ z3 60 tab12
  have k4 := (Keep.refl (fun _ => False) V3).alloc (.cells tab12 60)
  generalize V3.alloc (.cells tab12 60) = V4 at *
  have HO := Lib.hid (((ho.keep k2 (fun h => h)).keep k3 (fun h => h)).keep k4 (fun h => h))
  have HA := Lib.hid ((ha.keep k3 (fun h => h)).keep k4 (fun h => h))
  have H13 := Lib.hid (h13.keep k4 (fun h => h))
  have H12 := Lib.hid h12
  have HK4 := Lib.hid (keep0_trans _ _ _ (keep0_trans _ _ _ (keep0_trans _ _ _ k1 k2) k3) k4)
  clear ho k1 z1 ha k2 z2 h13 k3 z3 h12 k4
  have HG := Lib.hid (show w.heap.size < w.heap.size + 1 ∧ w.heap.size < w.heap.size + 1 + 1 ∧ w.heap.size < w.heap.size + 1 + 1 + 1 by omega)
  generalize w.heap.size + 1 + 1 + 1 = g12 at *
  generalize w.heap.size + 1 + 1 = g13 at *
  generalize w.heap.size + 1 = gA at *
  refine wp_region_krip (Keep (fun _ => False)) (Keep.refl _) keep0_trans 8 (by kernel_rfl) (by kernel_rfl) (Ts := [some (.inl (.agg #[.int .u8 2, .int .i64 addr, .int .i64 inc, .int .i64 n, .int .i64 at_, .int .u32 x, .int .i64 ab.1, .int .i64 ab.2])), none, none, none, some (.inl (.int .i64 addr)), some (.inl (.pointer (some pn))), some (.inl (.agg #[.int .u8 2, .int .i64 addr, .int .i64 inc, .int .i64 n, .int .i64 at_, .int .u32 x, .int .i64 ab.1, .int .i64 ab.2, .int .u32 d, .pointer (some pn)])), some (.inr (fun v W => ∃ g_0, v = .pointer (some ⟨g_0, 0, none⟩) ∧ Blk W g_0 62 (actC ⟨0, 0, 0, 0, 0, 0, (0, 0)⟩ 0 (.pointer none)) ∧ w.heap.size ≤ g_0))]) ?_
  simp only [List.take, List.drop]
  refine kAll_dn _ (fun W hW hF => kStep_of fun K Q hK => ?_) (fun K hK => ?_)
  · exact wp_load_row 40 _ rfl _ rfl 40 _ (0, 0) _ (HO.out.keep (keepD (Keep.refl _ _) hW) (fun h => h)) Tryz.underlying40 rfl (by kernel_rfl) (hK _ _ (Keep.refl _ _) rfl)
  go_simp
  generalize hZ : (Act.mk _ _) = Z
  refine hK Z ?_
  subst hZ
  clear hK K
  refine kAll_p (fun K hK => ?_)
  go_simp
  generalize hZ : (Act.mk _ _) = Z
  refine hK Z ?_
  subst hZ
  clear hK K
  refine kAll_p (fun K hK => ?_)
  go_simp
  generalize hZ : (Act.mk _ _) = Z
  refine hK Z ?_
  subst hZ
  clear hK K
  refine kAll_p (fun K hK => ?_)
  go_simp
  generalize hZ : (Act.mk _ _) = Z
  refine hK Z ?_
  subst hZ
  clear hK K
  refine kAll_dn _ (fun W hW hF => kStep_of fun K Q hK => ?_) (fun K hK => ?_)
  · have c0 := (HO.out.keep (keepD (Keep.refl _ _) hW) (fun h => h)).cell 1
    simp at c0
    go_simp
    exact hK _ _ (Keep.refl _ _) rfl
  go_simp
  generalize hZ : (Act.mk _ _) = Z
  refine hK Z ?_
  subst hZ
  clear hK K
  refine kAll_dn _ (fun W hW hF => kStep_of fun K Q hK => ?_) (fun K hK => ?_)
  · go_simp
    refine (HNd.out W (keep0_trans _ _ _ HK4.out (keepD (Keep.refl _ _) hW))).mono ?_
    rintro e w' ⟨rfl, rfl⟩
    exact hK _ _ (Keep.refl _ _) rfl
  go_simp
  generalize hZ : (Act.mk _ _) = Z
  refine hK Z ?_
  subst hZ
  clear hK K
  refine kAll_dn _ (fun W hW hF => kStep_of fun K Q hK => ?_) (fun K hK => ?_)
  · exact wp_build_is 62 _ rfl (l := [(0, .agg #[.int .u8 2, .int .i64 addr, .int .i64 inc, .int .i64 n, .int .i64 at_, .int .u32 x, .int .i64 ab.1, .int .i64 ab.2]), (1, .int .u32 d), (2, .pointer (some pn))]) (by kernel_rfl) (cells := #[.int .u8 2, .int .i64 addr, .int .i64 inc, .int .i64 n, .int .i64 at_, .int .u32 x, .int .i64 ab.1, .int .i64 ab.2, .int .u32 d, .pointer (some pn)]) (by kernel_rfl) (hK _ _ (Keep.refl _ _) rfl)
  go_simp
  generalize hZ : (Act.mk _ _) = Z
  refine hK Z ?_
  subst hZ
  clear hK K
  refine kAll_tn _ (fun v W W' hk h => by obtain ⟨g_0, e, h0, h1⟩ := h; exact ⟨_, e, (h0.keep hk (fun h => h)), (h1)⟩) (fun W hW hF => kStep_of fun K Q hK => ?_) (fun u0 K hK => ?_)
  · go_simp
    exact hK _ _ ((Keep.refl _ _).alloc _) ⟨_, rfl, Blk.new _ _ _, (keep0_trans _ _ _ HK4.out (keepD (Keep.refl _ _) hW)).size⟩
  go_simp
  generalize hZ : (Act.mk _ _) = Z
  refine hK Z ?_
  subst hZ
  clear hK K
  refine kAll_nil (fun W hW hF => ?_)
  obtain ⟨ga, rfl, hba, hla⟩ := kAllHas_at hF 0 rfl
  replace HO := Lib.hid (HO.out.keep (keepD (Keep.refl _ _) hW) (fun h => h))
  replace HA := Lib.hid (HA.out.keep (keepD (Keep.refl _ _) hW) (fun h => h))
  replace H13 := Lib.hid (H13.out.keep (keepD (Keep.refl _ _) hW) (fun h => h))
  replace H12 := Lib.hid (H12.out.keep (keepD (Keep.refl _ _) hW) (fun h => h))
  replace HK4 := Lib.hid (keep0_trans _ _ _ HK4.out (keepD (Keep.refl _ _) hW))
  have HBa := Lib.hid hba
  have HLa := Lib.hid hla
  clear hW hF hba hla HNd
  go_upto_region 6 with (first | (refine wpList_store_row rfl 62 _ _ rfl ga (actC ⟨2, addr, inc, n, at_, x, ab⟩ d (.pointer (some pn))) rfl rfl 62 _ HBa.out sizeAct rfl (oneAct _ _ _) ?_) | fail)
  have kr := keep_setRow W ga (actC ⟨2, addr, inc, n, at_, x, ab⟩ d (.pointer (some pn)))
  have hb6 := blk_setRow HBa.out (actC ⟨2, addr, inc, n, at_, x, ab⟩ d (.pointer (some pn)))
  have ho6 := HO.out.keep kr (fun e => (Blk.ne_ HO.out HBa.out (by decide)) e)
  have ha6 := HA.out.keep kr (fun e => (Blk.ne_ HA.out HBa.out (by decide)) e)
  have h136 := H13.out.keep kr (fun e => (Blk.ne_ H13.out HBa.out (by decide)) e)
  have h126 := H12.out.keep kr (fun e => (Blk.ne_ H12.out HBa.out (by decide)) e)
  have hk6 := HK4.out.trans (kr.mono fun g _ e => .inr (by rw [e]; exact HLa.out))
  generalize W.setRow ga (actC ⟨2, addr, inc, n, at_, x, ab⟩ d (.pointer (some pn))) = W6 at *
  replace HBa := Lib.hid hb6
  replace HO := Lib.hid ho6
  replace HA := Lib.hid ha6
  replace H13 := Lib.hid h136
  replace H12 := Lib.hid h126
  replace HK4 := Lib.hid hk6
  clear kr hb6 ho6 ha6 h136 h126 hk6
  have o0 := HO.out.cell 0
  simp at o0
  try simp only at HF
  have t0 := H13.out.cell 2
  have t2 := H12.out.cell 2
  have n9 := HBa.out.cell 9
  simp at t0 t2 n9
  go_upto_region 12 with (fail)
  clear t0 t2 n9 o0
  have NE0 := Lib.hid (show ¬ w.heap.size = b by have := HBW.out; omega)
  have NE1 := Lib.hid (show ¬ g12 = b by have := HBW.out; have := HG.out; omega)
  have NE2 := Lib.hid (show ¬ ga = b by have := HBW.out; have := HLa.out; omega)
  have NE3 := Lib.hid (show ¬ gA = b by have := HBW.out; have := HG.out; omega)
  refine wp_region_kpiv (Keep (fun g => g = b)) (Keep (fun _ => False)) 6 (Keep.refl _) (keepT_trans _) (Keep.refl _) keep0_trans (fun _ _ h => h.mono fun _ _ e => e.elim) 12 (by kernel_rfl) (by kernel_rfl) (Ts := [none, some (.inl (.int .u8 2)), none, some (.inl (.func (.func 20) #[] #[])), none, some (.inl (.agg #[.int .u8 2, .int .i64 addr, .int .i64 inc, .int .i64 n, .int .i64 at_, .int .u32 x, .int .i64 ab.1, .int .i64 ab.2, .int .u32 d, .pointer (some pn)])), some (.inr (fun v W => v = ansV er ∧ (∃ W1 W2, Keep (fun _ => False) w W1 ∧ R W1 W2 ∧ Keep (fun g => g = b) W1 W2 ∧ Keep (fun _ => False) W2 W))), some (.inr (fun v W => v = ansV er ∧ True)), some (.inl (.agg ansC)), some (.inl (.int .i64 er)), some (.inr (fun v W => ∃ g_2, v = .pointer (some ⟨g_2, 0, none⟩) ∧ Blk W g_2 34 ansC ∧ w.heap.size ≤ g_2)), some (.inl (undef))]) ?_
  simp only [List.take, List.drop]
  refine kAllP_p (fun K hK => ?_)
  go_simp
  generalize hZ : (Act.mk _ _) = Z
  refine hK Z ?_
  subst hZ
  clear hK K
  refine kAllP_dn _ (by decide) (fun W hW hF => kStep_of fun K Q hK => ?_) (fun K hK => ?_)
  · have c0 := (HO.out.keep (keepDT hW) (fun e => NE0.out e)).cell 0
    simp at c0
    go_simp
    exact hK _ _ (Keep.refl _ _) rfl
  go_simp
  generalize hZ : (Act.mk _ _) = Z
  refine hK Z ?_
  subst hZ
  clear hK K
  refine kAllP_p (fun K hK => ?_)
  go_simp
  generalize hZ : (Act.mk _ _) = Z
  refine hK Z ?_
  subst hZ
  clear hK K
  refine kAllP_dn _ (by decide) (fun W hW hF => kStep_of fun K Q hK => ?_) (fun K hK => ?_)
  · have c0 := (H12.out.keep (keepDT hW) (fun e => NE1.out e)).cell 2
    simp at c0
    go_simp
    exact hK _ _ (Keep.refl _ _) rfl
  go_simp
  generalize hZ : (Act.mk _ _) = Z
  refine hK Z ?_
  subst hZ
  clear hK K
  refine kAllP_p (fun K hK => ?_)
  go_simp
  generalize hZ : (Act.mk _ _) = Z
  refine hK Z ?_
  subst hZ
  clear hK K
  refine kAllP_dn _ (by decide) (fun W hW hF => kStep_of fun K Q hK => ?_) (fun K hK => ?_)
  · exact wp_load_row 62 _ rfl _ rfl 62 _ (0, 0) _ (HBa.out.keep (keepDT hW) (fun e => NE2.out e)) Tryz.underlying62 rfl (by kernel_rfl) (hK _ _ (Keep.refl _ _) rfl)
  go_simp
  generalize hZ : (Act.mk _ _) = Z
  refine hK Z ?_
  subst hZ
  clear hK K
  refine kAllP_tn _ rfl (fun v W W' hk h => by obtain ⟨e, h0⟩ := h; exact ⟨e, (hext h0 hk)⟩) (fun W hW hF => kStep_of fun K Q hK => ?_) (fun u0 K hK => ?_)
  · go_simp
    have hkw := keep0_trans _ _ _ HK4.out (keepD (Keep.refl _ _) hW)
    refine (HF.out W hkw).mono ?_
    rintro e w' ⟨rfl, hr, hk⟩
    exact hK _ _ hk ⟨rfl, W, w', hkw, hr, hk, Keep.refl _ _⟩
  go_simp
  generalize hZ : (Act.mk _ _) = Z
  refine hK Z ?_
  subst hZ
  clear hK K
  refine kAllP_un _ (by decide) (fun v W W' hk h => by obtain ⟨e, h0⟩ := h; exact ⟨e, (h0)⟩) (fun W hW hF => kStep_of fun K Q hK => ?_) (fun u1 K hK => ?_)
  · obtain ⟨rfl, k0_0⟩ := (kHas_at hF 0 rfl (by kernel_rfl) : (fun v W => v = ansV er ∧ (∃ W1 W2, Keep (fun _ => False) w W1 ∧ R W1 W2 ∧ Keep (fun g => g = b) W1 W2 ∧ Keep (fun _ => False) W2 W)) u0 W)
    go_simp
    exact hK _ _ (Keep.refl _ _) ⟨rfl, trivial⟩
  go_simp
  generalize hZ : (Act.mk _ _) = Z
  refine hK Z ?_
  subst hZ
  clear hK K
  refine kAllP_dn _ (by decide) (fun W hW hF => kStep_of fun K Q hK => ?_) (fun K hK => ?_)
  · obtain ⟨rfl, k1_0⟩ := (kHas_at hF 0 rfl (by kernel_rfl) : (fun v W => v = ansV er ∧ True) u1 W)
    go_simp
    exact hK _ _ (Keep.refl _ _) rfl
  go_simp
  generalize hZ : (Act.mk _ _) = Z
  refine hK Z ?_
  subst hZ
  clear hK K
  refine kAllP_dn _ (by decide) (fun W hW hF => kStep_of fun K Q hK => ?_) (fun K hK => ?_)
  · obtain ⟨rfl, k1_0⟩ := (kHas_at hF 0 rfl (by kernel_rfl) : (fun v W => v = ansV er ∧ True) u1 W)
    go_simp
    exact hK _ _ (Keep.refl _ _) rfl
  go_simp
  generalize hZ : (Act.mk _ _) = Z
  refine hK Z ?_
  subst hZ
  clear hK K
  refine kAllP_un _ (by decide) (fun v W W' hk h => by obtain ⟨g_2, e, h0, h1⟩ := h; exact ⟨_, e, (h0.keep hk (fun e => Nat.ne_of_gt (Nat.lt_of_lt_of_le HBW.out h1) e)), (h1)⟩) (fun W hW hF => kStep_of fun K Q hK => ?_) (fun u2 K hK => ?_)
  · go_simp
    exact hK _ _ ((Keep.refl _ _).alloc _) ⟨_, rfl, Blk.new _ _ _, Nat.le_trans HK4.out.size (keepDT hW).size⟩
  go_simp
  generalize hZ : (Act.mk _ _) = Z
  refine hK Z ?_
  subst hZ
  clear hK K
  refine kAllP_dn _ (by decide) (fun W hW hF => kStep_of fun K Q hK => ?_) (fun K hK => ?_)
  · obtain ⟨g_2, rfl, k2_0, k2_1⟩ := (kHas_at hF 0 rfl (by kernel_rfl) : (fun v W => ∃ g_2, v = .pointer (some ⟨g_2, 0, none⟩) ∧ Blk W g_2 34 ansC ∧ w.heap.size ≤ g_2) u2 W)
    refine wp_store_row 34 _ _ rfl g_2 ansC rfl rfl 34 _ k2_0 sizeAns rfl oneAns ?_
    rw [setRow_same k2_0]
    exact hK _ _ (Keep.refl _ _) rfl
  go_simp
  generalize hZ : (Act.mk _ _) = Z
  refine hK Z ?_
  subst hZ
  clear hK K
  refine kAllP_nil (fun W7 hW hF => ?_)
  obtain ⟨g11, rfl, hb11, hl11⟩ := kAllHas_at hF 0 rfl
  have hz7 := HA.out.keep (keepDT hW) (fun e => NE3.out e)
  have ho7 := HO.out.keep (keepDT hW) (fun e => NE0.out e)
  have hk7 := kAllHas_at hF 2 rfl
  have HZ7 := Lib.hid hz7
  have HD7 := Lib.hid hk7.2
  have H11 := Lib.hid hb11
  have o0 := ho7.cell 0
  simp at o0
  clear hF hW hz7 hk7 ho7 hb11 hl11 HO H13 H12 HBa HA HK4 HF
  go_upto_region 15 with (fail)
  clear o0
  go_wp2_with (first | (refine wpList_load_row rfl 34 _ rfl g11 rfl 34 ansC (0, 0) _ H11.out Tryz.underlying34 rfl sizeAns ?_) | (refine wpList_store_row rfl 34 _ _ rfl gA ansC rfl rfl 34 _ HZ7.out sizeAns rfl oneAns ?_; rw [setRow_same HZ7.out]) | fail)
  exact bodyPost_ret (v := ansV er) (results_ans Tryz.results4 _ _ _ HZ7.out rfl rfl) rfl ⟨rfl, HD7.out⟩
end Go.Proofs.YtlfpefnlgiohbaaGreat
