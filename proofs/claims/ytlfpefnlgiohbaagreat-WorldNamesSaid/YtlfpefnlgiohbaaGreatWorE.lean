/-
  World.Do. Written by gen_wore.py.
-/
import Derived.Test.YtlfpefnlgiohbaaGreatWorD
import Derived.Laws.EntriesVeiled
namespace Go.Proofs.YtlfpefnlgiohbaaGreat
open Go.RowKit Go
set_option maxRecDepth 100000
attribute [local irreducible] kAll kAllP
attribute [local go_sem] kQuiet kQuietUpon

abbrev tab13 : Array Value := #[.nilFunc, .func (.func 14) #[] #[], .nilFunc, .nilFunc, .func (.func 15) #[] #[], .func (.func 16) #[] #[], .func (.func 17) #[] #[], .func (.func 18) #[] #[], .nilFunc, .nilFunc, .nilFunc, .nilFunc, .func (.func 19) #[] #[]]
abbrev tab12 : Array Value := #[.nilFunc, .nilFunc, .func (.func 20) #[] #[], .func (.func 21) #[] #[], .nilFunc, .nilFunc, .nilFunc, .nilFunc, .func (.func 22) #[] #[], .func (.func 23) #[] #[], .func (.func 24) #[] #[], .func (.func 25) #[] #[]]
theorem keep_setRow (w : World) (g : Nat) (cs : Array Value) : Keep (fun k => k = g) w (w.setRow g cs) :=
  ⟨rfl, rfl, rfl, by simp [World.setRow], fun k hk hn => by
    unfold World.setRow
    simp only [Array.getElem?_modify]
    rw [if_neg (fun e => hn e.symm)]⟩
theorem blk_setRow {w : World} {g : Nat} {t : TypeId} {old : Array Value} (h : Blk w g t old) (cs : Array Value) : Blk (w.setRow g cs) g t cs := setRow_heap w g old cs t (0, 0) h
theorem sizeAct : (Tryz.prog.info? 62).map (·.size) = some 10 := by kernel_rfl
theorem oneAct (o : OpM) (d : Int) (np : Option Addr) : (actC o d (.pointer np)).all (·.oneCell') = true := by kernel_rfl
section
variable {P : Program} (w : World)
theorem eqIn_fn (d : Nat) (t : TypeId) (f a c) {x y z} (h : P.underlying t = some (.func x y z)) : (Op.equalIn (d + 1) t (.func f a c) .nilFunc).run P w = .ok false w := by simp [Op.equalIn, run_underlying h]
theorem eqIn_nil (d : Nat) (t : TypeId) {x y z} (h : P.underlying t = some (.func x y z)) : (Op.equalIn (d + 1) t .nilFunc .nilFunc).run P w = .ok true w := by simp [Op.equalIn, run_underlying h]
theorem eq_fn (t : TypeId) (f a c) {x y z} (h : P.underlying t = some (.func x y z)) : (Op.equal t (.func f a c) .nilFunc).run P w = .ok false w := eqIn_fn w 9999 t f a c h
theorem eq_nil (t : TypeId) {x y z} (h : P.underlying t = some (.func x y z)) : (Op.equal t .nilFunc .nilFunc).run P w = .ok true w := eqIn_nil w 9999 t h
theorem neq_fn (t : TypeId) (f a c) {x y z} (h : P.underlying t = some (.func x y z)) : (binOp .neq t (.func f a c) .nilFunc).run P w = .ok (.bool true) w := by
  simp only [binOp]
  simp [eq_fn w t f a c h]
theorem neq_nil (t : TypeId) {x y z} (h : P.underlying t = some (.func x y z)) : (binOp .neq t .nilFunc .nilFunc).run P w = .ok (.bool false) w := by
  simp only [binOp]
  simp [eq_nil w t h]
end
theorem neqFn (w : World) (f a c) : (binOp .neq 57 (.func f a c) .nilFunc).run Tryz.prog w = .ok (.bool true) w := neq_fn w _ f a c Tryz.underlying57
theorem neqNil (w : World) : (binOp .neq 57 .nilFunc .nilFunc).run Tryz.prog w = .ok (.bool false) w := neq_nil w _ Tryz.underlying57
attribute [local go_sem] neqFn neqNil
/-- what Do does: a call made behind some new memory, and nothing but new memory behind it -/
def DoSays (R : World → World → Prop) (er : Int) (b : Nat) (w : World) (e : Ending) (w' : World) : Prop :=
  e = .returned (ansV er) ∧ ∃ W W', Keep (fun _ => False) w W ∧ R W W' ∧ Keep (fun g => g = b) W W' ∧ Keep (fun _ => False) W' w'
theorem hext {R : World → World → Prop} {b : Nat} {w W V : World} (h : ∃ W1 W2, Keep (fun _ => False) w W1 ∧ R W1 W2 ∧ Keep (fun g => g = b) W1 W2 ∧ Keep (fun _ => False) W2 W) (hk : Keep (fun _ => False) W V) : ∃ W1 W2, Keep (fun _ => False) w W1 ∧ R W1 W2 ∧ Keep (fun g => g = b) W1 W2 ∧ Keep (fun _ => False) W2 V := by
  obtain ⟨a, c, h1, h2, h3, h4⟩ := h
  exact ⟨a, c, h1, h2, h3, keep0_trans _ _ _ h4 hk⟩
set_option maxHeartbeats 8000000 in
theorem do_start (b : Nat) (o : OpM) (d : Int) (np : Option Addr) (er : Int) (R : World → World → Prop) (w : World) (hk0 : o.kind = 1) (hbw : b < w.heap.size)
    (hnd : ∀ W, Keep (fun _ => False) w W → Calls Tryz.prog 9 #[.pointer (some ⟨b, 0, none⟩), .int .i64 o.addr] W fun e w' => e = .returned (.pointer np) ∧ w' = W)
    (hf : ∀ W, Keep (fun _ => False) w W → Calls Tryz.prog 14 #[.pointer (some ⟨b, 0, none⟩), .agg (actC o d (.pointer np))] W fun e W' => e = .returned (ansV er) ∧ R W W' ∧ Keep (fun g => g = b) W W') :
    Calls Tryz.prog 4 #[.pointer (some ⟨b, 0, none⟩), .agg (opC o), .int .u32 d] w (DoSays R er b w) := by
  have HF := Lib.hid hf
  have HBW := Lib.hid hbw
  clear hf hbw
  obtain ⟨kind, addr, inc, n, at_, x, ab⟩ := o
  simp only at hk0
  subst hk0
  have HNd := Lib.hid hnd
  simp only at HNd
  clear hnd
  go_enter Tryz.func4, Tryz.ntmps4
  go_upto_region 5 with (fail)
  have ho := Blk.new w 40 (opC ⟨1, addr, inc, n, at_, x, ab⟩)
  have k1 := (Keep.refl (fun _ => False) w).alloc (.cells (opC ⟨1, addr, inc, n, at_, x, ab⟩) 40)
  have z1 : (w.alloc (.cells (opC ⟨1, addr, inc, n, at_, x, ab⟩) 40)).heap.size = w.heap.size + 1 := by simp
  generalize w.alloc (.cells (opC ⟨1, addr, inc, n, at_, x, ab⟩) 40) = V1 at *
  have ha := Blk.new_ z1 34 ansC
  have k2 := (Keep.refl (fun _ => False) V1).alloc (.cells ansC 34)
  have z2 : (V1.alloc (.cells ansC 34)).heap.size = w.heap.size + 1 + 1 := by simp [z1]
  generalize V1.alloc (.cells ansC 34) = V2 at *
  have h13 := Blk.new_ z2 59 tab13
  have k3 := (Keep.refl (fun _ => False) V2).alloc (.cells tab13 59)
  have z3 : (V2.alloc (.cells tab13 59)).heap.size = w.heap.size + 1 + 1 + 1 := by simp [z2]
  generalize V2.alloc (.cells tab13 59) = V3 at *
  have h12 := Blk.new_ z3 60 tab12
  have k4 := (Keep.refl (fun _ => False) V3).alloc (.cells tab12 60)
  generalize V3.alloc (.cells tab12 60) = V4 at *
  have HO := Lib.hid (((ho.keep k2 (fun h => h)).keep k3 (fun h => h)).keep k4 (fun h => h))
  have HA := Lib.hid ((ha.keep k3 (fun h => h)).keep k4 (fun h => h))
  have H13 := Lib.hid (h13.keep k4 (fun h => h))
  have H12 := Lib.hid h12
  have HK4 := Lib.hid (keep0_trans _ _ _ (keep0_trans _ _ _ (keep0_trans _ _ _ k1 k2) k3) k4)
  clear ho k1 z1 ha k2 z2 h13 k3 z3 h12 k4
  have HG := Lib.hid (show w.heap.size < w.heap.size + 1 ∧ w.heap.size < w.heap.size + 1 + 1 ∧ w.heap.size < w.heap.size + 1 + 1 + 1 by omega)
  generalize w.heap.size + 1 + 1 + 1 = g12 at *
  generalize w.heap.size + 1 + 1 = g13 at *
  generalize w.heap.size + 1 = gA at *
  refine wp_region_krip (Keep (fun _ => False)) (Keep.refl _) keep0_trans 8 (by kernel_rfl) (by kernel_rfl) (Ts := [some (.inl (.agg #[.int .u8 1, .int .i64 addr, .int .i64 inc, .int .i64 n, .int .i64 at_, .int .u32 x, .int .i64 ab.1, .int .i64 ab.2])), none, none, none, some (.inl (.int .i64 addr)), some (.inl (.pointer np)), some (.inl (.agg #[.int .u8 1, .int .i64 addr, .int .i64 inc, .int .i64 n, .int .i64 at_, .int .u32 x, .int .i64 ab.1, .int .i64 ab.2, .int .u32 d, .pointer np])), some (.inr (fun v W => ∃ g_0, v = .pointer (some ⟨g_0, 0, none⟩) ∧ Blk W g_0 62 (actC ⟨0, 0, 0, 0, 0, 0, (0, 0)⟩ 0 (.pointer none)) ∧ w.heap.size ≤ g_0))]) ?_
  simp only [List.take, List.drop]
  refine kAll_dn _ (fun W hW hF => kStep_of fun K Q hK => ?_) (fun K hK => ?_)
  · exact wp_load_row 40 _ rfl _ rfl 40 _ (0, 0) _ (HO.out.keep (keepD (Keep.refl _ _) hW) (fun h => h)) Tryz.underlying40 rfl (by kernel_rfl) (hK _ _ (Keep.refl _ _) rfl)
  go_simp
  generalize hZ : (Act.mk _ _) = Z
  refine hK Z ?_
  subst hZ
  clear hK K
  refine kAll_p (fun K hK => ?_)
  go_simp
  generalize hZ : (Act.mk _ _) = Z
  refine hK Z ?_
  subst hZ
  clear hK K
  refine kAll_p (fun K hK => ?_)
  go_simp
  generalize hZ : (Act.mk _ _) = Z
  refine hK Z ?_
  subst hZ
  clear hK K
  refine kAll_p (fun K hK => ?_)
  go_simp
  generalize hZ : (Act.mk _ _) = Z
  refine hK Z ?_
  subst hZ
  clear hK K
  refine kAll_dn _ (fun W hW hF => kStep_of fun K Q hK => ?_) (fun K hK => ?_)
  · have c0 := (HO.out.keep (keepD (Keep.refl _ _) hW) (fun h => h)).cell 1
    simp at c0
    go_simp
    exact hK _ _ (Keep.refl _ _) rfl
  go_simp
  generalize hZ : (Act.mk _ _) = Z
  refine hK Z ?_
  subst hZ
  clear hK K
  refine kAll_dn _ (fun W hW hF => kStep_of fun K Q hK => ?_) (fun K hK => ?_)
  · go_simp
    refine (HNd.out W (keep0_trans _ _ _ HK4.out (keepD (Keep.refl _ _) hW))).mono ?_
    rintro e w' ⟨rfl, rfl⟩
    exact hK _ _ (Keep.refl _ _) rfl
  go_simp
  generalize hZ : (Act.mk _ _) = Z
  refine hK Z ?_
  subst hZ
  clear hK K
  refine kAll_dn _ (fun W hW hF => kStep_of fun K Q hK => ?_) (fun K hK => ?_)
  · exact wp_build_is 62 _ rfl (l := [(0, .agg #[.int .u8 1, .int .i64 addr, .int .i64 inc, .int .i64 n, .int .i64 at_, .int .u32 x, .int .i64 ab.1, .int .i64 ab.2]), (1, .int .u32 d), (2, .pointer np)]) (by kernel_rfl) (cells := #[.int .u8 1, .int .i64 addr, .int .i64 inc, .int .i64 n, .int .i64 at_, .int .u32 x, .int .i64 ab.1, .int .i64 ab.2, .int .u32 d, .pointer np]) (by kernel_rfl) (hK _ _ (Keep.refl _ _) rfl)
  go_simp
  generalize hZ : (Act.mk _ _) = Z
  refine hK Z ?_
  subst hZ
  clear hK K
  refine kAll_tn _ (fun v W W' hk h => by obtain ⟨g_0, e, h0, h1⟩ := h; exact ⟨_, e, (h0.keep hk (fun h => h)), (h1)⟩) (fun W hW hF => kStep_of fun K Q hK => ?_) (fun u0 K hK => ?_)
  · go_simp
    exact hK _ _ ((Keep.refl _ _).alloc _) ⟨_, rfl, Blk.new _ _ _, (keep0_trans _ _ _ HK4.out (keepD (Keep.refl _ _) hW)).size⟩
  go_simp
  generalize hZ : (Act.mk _ _) = Z
  refine hK Z ?_
  subst hZ
  clear hK K
  refine kAll_nil (fun W hW hF => ?_)
  obtain ⟨ga, rfl, hba, hla⟩ := kAllHas_at hF 0 rfl
  replace HO := Lib.hid (HO.out.keep (keepD (Keep.refl _ _) hW) (fun h => h))
  replace HA := Lib.hid (HA.out.keep (keepD (Keep.refl _ _) hW) (fun h => h))
  replace H13 := Lib.hid (H13.out.keep (keepD (Keep.refl _ _) hW) (fun h => h))
  replace H12 := Lib.hid (H12.out.keep (keepD (Keep.refl _ _) hW) (fun h => h))
  replace HK4 := Lib.hid (keep0_trans _ _ _ HK4.out (keepD (Keep.refl _ _) hW))
  have HBa := Lib.hid hba
  have HLa := Lib.hid hla
  clear hW hF hba hla HNd
  go_upto_region 6 with (first | (refine wpList_store_row rfl 62 _ _ rfl ga (actC ⟨1, addr, inc, n, at_, x, ab⟩ d (.pointer np)) rfl rfl 62 _ HBa.out sizeAct rfl (oneAct _ _ _) ?_) | fail)
  have kr := keep_setRow W ga (actC ⟨1, addr, inc, n, at_, x, ab⟩ d (.pointer np))
  have hb6 := blk_setRow HBa.out (actC ⟨1, addr, inc, n, at_, x, ab⟩ d (.pointer np))
  have ho6 := HO.out.keep kr (fun e => (Blk.ne_ HO.out HBa.out (by decide)) e)
  have ha6 := HA.out.keep kr (fun e => (Blk.ne_ HA.out HBa.out (by decide)) e)
  have h136 := H13.out.keep kr (fun e => (Blk.ne_ H13.out HBa.out (by decide)) e)
  have h126 := H12.out.keep kr (fun e => (Blk.ne_ H12.out HBa.out (by decide)) e)
  have hk6 := HK4.out.trans (kr.mono fun g _ e => .inr (by rw [e]; exact HLa.out))
  generalize W.setRow ga (actC ⟨1, addr, inc, n, at_, x, ab⟩ d (.pointer np)) = W6 at *
  replace HBa := Lib.hid hb6
  replace HO := Lib.hid ho6
  replace HA := Lib.hid ha6
  replace H13 := Lib.hid h136
  replace H12 := Lib.hid h126
  replace HK4 := Lib.hid hk6
  clear kr hb6 ho6 ha6 h136 h126 hk6
  have o0 := HO.out.cell 0
  simp at o0
  try simp only at HF
  have t0 := H13.out.cell 1
  simp at t0
  go_upto_region 7 with (fail)
  clear t0 o0
  have NE0 := Lib.hid (show ¬ w.heap.size = b by have := HBW.out; omega)
  have NE1 := Lib.hid (show ¬ g13 = b by have := HBW.out; have := HG.out; omega)
  have NE2 := Lib.hid (show ¬ ga = b by have := HBW.out; have := HLa.out; omega)
  have NE3 := Lib.hid (show ¬ gA = b by have := HBW.out; have := HG.out; omega)
  refine wp_region_kpiv (Keep (fun g => g = b)) (Keep (fun _ => False)) 6 (Keep.refl _) (keepT_trans _) (Keep.refl _) keep0_trans (fun _ _ h => h.mono fun _ _ e => e.elim) 9 (by kernel_rfl) (by kernel_rfl) (Ts := [none, some (.inl (.int .u8 1)), none, some (.inl (.func (.func 14) #[] #[])), none, some (.inl (.agg #[.int .u8 1, .int .i64 addr, .int .i64 inc, .int .i64 n, .int .i64 at_, .int .u32 x, .int .i64 ab.1, .int .i64 ab.2, .int .u32 d, .pointer np])), some (.inr (fun v W => v = ansV er ∧ (∃ W1 W2, Keep (fun _ => False) w W1 ∧ R W1 W2 ∧ Keep (fun g => g = b) W1 W2 ∧ Keep (fun _ => False) W2 W))), some (.inl (.agg ansC)), some (.inl (.int .i64 er))]) ?_
  simp only [List.take, List.drop]
  refine kAllP_p (fun K hK => ?_)
  go_simp
  generalize hZ : (Act.mk _ _) = Z
  refine hK Z ?_
  subst hZ
  clear hK K
  refine kAllP_dn _ (by decide) (fun W hW hF => kStep_of fun K Q hK => ?_) (fun K hK => ?_)
  · have c0 := (HO.out.keep (keepDT hW) (fun e => NE0.out e)).cell 0
    simp at c0
    go_simp
    exact hK _ _ (Keep.refl _ _) rfl
  go_simp
  generalize hZ : (Act.mk _ _) = Z
  refine hK Z ?_
  subst hZ
  clear hK K
  refine kAllP_p (fun K hK => ?_)
  go_simp
  generalize hZ : (Act.mk _ _) = Z
  refine hK Z ?_
  subst hZ
  clear hK K
  refine kAllP_dn _ (by decide) (fun W hW hF => kStep_of fun K Q hK => ?_) (fun K hK => ?_)
  · have c0 := (H13.out.keep (keepDT hW) (fun e => NE1.out e)).cell 1
    simp at c0
    go_simp
    exact hK _ _ (Keep.refl _ _) rfl
  go_simp
  generalize hZ : (Act.mk _ _) = Z
  refine hK Z ?_
  subst hZ
  clear hK K
  refine kAllP_p (fun K hK => ?_)
  go_simp
  generalize hZ : (Act.mk _ _) = Z
  refine hK Z ?_
  subst hZ
  clear hK K
  refine kAllP_dn _ (by decide) (fun W hW hF => kStep_of fun K Q hK => ?_) (fun K hK => ?_)
  · exact wp_load_row 62 _ rfl _ rfl 62 _ (0, 0) _ (HBa.out.keep (keepDT hW) (fun e => NE2.out e)) Tryz.underlying62 rfl (by kernel_rfl) (hK _ _ (Keep.refl _ _) rfl)
  go_simp
  generalize hZ : (Act.mk _ _) = Z
  refine hK Z ?_
  subst hZ
  clear hK K
  refine kAllP_tn _ rfl (fun v W W' hk h => by obtain ⟨e, h0⟩ := h; exact ⟨e, (hext h0 hk)⟩) (fun W hW hF => kStep_of fun K Q hK => ?_) (fun u0 K hK => ?_)
  · go_simp
    have hkw := keep0_trans _ _ _ HK4.out (keepD (Keep.refl _ _) hW)
    refine (HF.out W hkw).mono ?_
    rintro e w' ⟨rfl, hr, hk⟩
    exact hK _ _ hk ⟨rfl, W, w', hkw, hr, hk, Keep.refl _ _⟩
  go_simp
  generalize hZ : (Act.mk _ _) = Z
  refine hK Z ?_
  subst hZ
  clear hK K
  refine kAllP_dn _ (by decide) (fun W hW hF => kStep_of fun K Q hK => ?_) (fun K hK => ?_)
  · obtain ⟨rfl, k0_0⟩ := (kHas_at hF 0 rfl (by kernel_rfl) : (fun v W => v = ansV er ∧ (∃ W1 W2, Keep (fun _ => False) w W1 ∧ R W1 W2 ∧ Keep (fun g => g = b) W1 W2 ∧ Keep (fun _ => False) W2 W)) u0 W)
    go_simp
    exact hK _ _ (Keep.refl _ _) rfl
  go_simp
  generalize hZ : (Act.mk _ _) = Z
  refine hK Z ?_
  subst hZ
  clear hK K
  refine kAllP_dn _ (by decide) (fun W hW hF => kStep_of fun K Q hK => ?_) (fun K hK => ?_)
  · obtain ⟨rfl, k0_0⟩ := (kHas_at hF 0 rfl (by kernel_rfl) : (fun v W => v = ansV er ∧ (∃ W1 W2, Keep (fun _ => False) w W1 ∧ R W1 W2 ∧ Keep (fun g => g = b) W1 W2 ∧ Keep (fun _ => False) W2 W)) u0 W)
    go_simp
    exact hK _ _ (Keep.refl _ _) rfl
  go_simp
  generalize hZ : (Act.mk _ _) = Z
  refine hK Z ?_
  subst hZ
  clear hK K
  refine kAllP_nil (fun W7 hW hF => ?_)
  have hz7 := HA.out.keep (keepDT hW) (fun e => NE3.out e)
  have hk7 := kAllHas_at hF 0 rfl
  have HZ7 := Lib.hid hz7
  have HD7 := Lib.hid hk7.2
  clear hF hW hz7 hk7 HO H13 H12 HBa HA HK4 HF
  go_wp2_with (first | (refine wpList_store_row rfl 34 _ _ rfl gA ansC rfl rfl 34 _ HZ7.out sizeAns rfl oneAns ?_; rw [setRow_same HZ7.out]) | fail)
  exact bodyPost_ret (v := ansV er) (results_ans Tryz.results4 _ _ _ HZ7.out rfl rfl) rfl ⟨rfl, HD7.out⟩
set_option maxHeartbeats 8000000 in
theorem do_give (b : Nat) (o : OpM) (d : Int) (np : Option Addr) (er : Int) (R : World → World → Prop) (w : World) (hk0 : o.kind = 4) (hbw : b < w.heap.size)
    (hnd : ∀ W, Keep (fun _ => False) w W → Calls Tryz.prog 9 #[.pointer (some ⟨b, 0, none⟩), .int .i64 o.addr] W fun e w' => e = .returned (.pointer np) ∧ w' = W)
    (hf : ∀ W, Keep (fun _ => False) w W → Calls Tryz.prog 15 #[.pointer (some ⟨b, 0, none⟩), .agg (actC o d (.pointer np))] W fun e W' => e = .returned (ansV er) ∧ R W W' ∧ Keep (fun g => g = b) W W') :
    Calls Tryz.prog 4 #[.pointer (some ⟨b, 0, none⟩), .agg (opC o), .int .u32 d] w (DoSays R er b w) := by
  have HF := Lib.hid hf
  have HBW := Lib.hid hbw
  clear hf hbw
  obtain ⟨kind, addr, inc, n, at_, x, ab⟩ := o
  simp only at hk0
  subst hk0
  have HNd := Lib.hid hnd
  simp only at HNd
  clear hnd
  go_enter Tryz.func4, Tryz.ntmps4
  go_upto_region 5 with (fail)
  have ho := Blk.new w 40 (opC ⟨4, addr, inc, n, at_, x, ab⟩)
  have k1 := (Keep.refl (fun _ => False) w).alloc (.cells (opC ⟨4, addr, inc, n, at_, x, ab⟩) 40)
  have z1 : (w.alloc (.cells (opC ⟨4, addr, inc, n, at_, x, ab⟩) 40)).heap.size = w.heap.size + 1 := by simp
  generalize w.alloc (.cells (opC ⟨4, addr, inc, n, at_, x, ab⟩) 40) = V1 at *
  have ha := Blk.new_ z1 34 ansC
  have k2 := (Keep.refl (fun _ => False) V1).alloc (.cells ansC 34)
  have z2 : (V1.alloc (.cells ansC 34)).heap.size = w.heap.size + 1 + 1 := by simp [z1]
  generalize V1.alloc (.cells ansC 34) = V2 at *
  have h13 := Blk.new_ z2 59 tab13
  have k3 := (Keep.refl (fun _ => False) V2).alloc (.cells tab13 59)
  have z3 : (V2.alloc (.cells tab13 59)).heap.size = w.heap.size + 1 + 1 + 1 := by simp [z2]
  generalize V2.alloc (.cells tab13 59) = V3 at *
  have h12 := Blk.new_ z3 60 tab12
  have k4 := (Keep.refl (fun _ => False) V3).alloc (.cells tab12 60)
  generalize V3.alloc (.cells tab12 60) = V4 at *
  have HO := Lib.hid (((ho.keep k2 (fun h => h)).keep k3 (fun h => h)).keep k4 (fun h => h))
  have HA := Lib.hid ((ha.keep k3 (fun h => h)).keep k4 (fun h => h))
  have H13 := Lib.hid (h13.keep k4 (fun h => h))
  have H12 := Lib.hid h12
  have HK4 := Lib.hid (keep0_trans _ _ _ (keep0_trans _ _ _ (keep0_trans _ _ _ k1 k2) k3) k4)
  clear ho k1 z1 ha k2 z2 h13 k3 z3 h12 k4
  have HG := Lib.hid (show w.heap.size < w.heap.size + 1 ∧ w.heap.size < w.heap.size + 1 + 1 ∧ w.heap.size < w.heap.size + 1 + 1 + 1 by omega)
  generalize w.heap.size + 1 + 1 + 1 = g12 at *
  generalize w.heap.size + 1 + 1 = g13 at *
  generalize w.heap.size + 1 = gA at *
  refine wp_region_krip (Keep (fun _ => False)) (Keep.refl _) keep0_trans 8 (by kernel_rfl) (by kernel_rfl) (Ts := [some (.inl (.agg #[.int .u8 4, .int .i64 addr, .int .i64 inc, .int .i64 n, .int .i64 at_, .int .u32 x, .int .i64 ab.1, .int .i64 ab.2])), none, none, none, some (.inl (.int .i64 addr)), some (.inl (.pointer np)), some (.inl (.agg #[.int .u8 4, .int .i64 addr, .int .i64 inc, .int .i64 n, .int .i64 at_, .int .u32 x, .int .i64 ab.1, .int .i64 ab.2, .int .u32 d, .pointer np])), some (.inr (fun v W => ∃ g_0, v = .pointer (some ⟨g_0, 0, none⟩) ∧ Blk W g_0 62 (actC ⟨0, 0, 0, 0, 0, 0, (0, 0)⟩ 0 (.pointer none)) ∧ w.heap.size ≤ g_0))]) ?_
  simp only [List.take, List.drop]
  refine kAll_dn _ (fun W hW hF => kStep_of fun K Q hK => ?_) (fun K hK => ?_)
  · exact wp_load_row 40 _ rfl _ rfl 40 _ (0, 0) _ (HO.out.keep (keepD (Keep.refl _ _) hW) (fun h => h)) Tryz.underlying40 rfl (by kernel_rfl) (hK _ _ (Keep.refl _ _) rfl)
  go_simp
  generalize hZ : (Act.mk _ _) = Z
  refine hK Z ?_
  subst hZ
  clear hK K
  refine kAll_p (fun K hK => ?_)
  go_simp
  generalize hZ : (Act.mk _ _) = Z
  refine hK Z ?_
  subst hZ
  clear hK K
  refine kAll_p (fun K hK => ?_)
  go_simp
  generalize hZ : (Act.mk _ _) = Z
  refine hK Z ?_
  subst hZ
  clear hK K
  refine kAll_p (fun K hK => ?_)
  go_simp
  generalize hZ : (Act.mk _ _) = Z
  refine hK Z ?_
  subst hZ
  clear hK K
  refine kAll_dn _ (fun W hW hF => kStep_of fun K Q hK => ?_) (fun K hK => ?_)
  · have c0 := (HO.out.keep (keepD (Keep.refl _ _) hW) (fun h => h)).cell 1
    simp at c0
    go_simp
    exact hK _ _ (Keep.refl _ _) rfl
  go_simp
  generalize hZ : (Act.mk _ _) = Z
  refine hK Z ?_
  subst hZ
  clear hK K
  refine kAll_dn _ (fun W hW hF => kStep_of fun K Q hK => ?_) (fun K hK => ?_)
  · go_simp
    refine (HNd.out W (keep0_trans _ _ _ HK4.out (keepD (Keep.refl _ _) hW))).mono ?_
    rintro e w' ⟨rfl, rfl⟩
    exact hK _ _ (Keep.refl _ _) rfl
  go_simp
  generalize hZ : (Act.mk _ _) = Z
  refine hK Z ?_
  subst hZ
  clear hK K
  refine kAll_dn _ (fun W hW hF => kStep_of fun K Q hK => ?_) (fun K hK => ?_)
  · exact wp_build_is 62 _ rfl (l := [(0, .agg #[.int .u8 4, .int .i64 addr, .int .i64 inc, .int .i64 n, .int .i64 at_, .int .u32 x, .int .i64 ab.1, .int .i64 ab.2]), (1, .int .u32 d), (2, .pointer np)]) (by kernel_rfl) (cells := #[.int .u8 4, .int .i64 addr, .int .i64 inc, .int .i64 n, .int .i64 at_, .int .u32 x, .int .i64 ab.1, .int .i64 ab.2, .int .u32 d, .pointer np]) (by kernel_rfl) (hK _ _ (Keep.refl _ _) rfl)
  go_simp
  generalize hZ : (Act.mk _ _) = Z
  refine hK Z ?_
  subst hZ
  clear hK K
  refine kAll_tn _ (fun v W W' hk h => by obtain ⟨g_0, e, h0, h1⟩ := h; exact ⟨_, e, (h0.keep hk (fun h => h)), (h1)⟩) (fun W hW hF => kStep_of fun K Q hK => ?_) (fun u0 K hK => ?_)
  · go_simp
    exact hK _ _ ((Keep.refl _ _).alloc _) ⟨_, rfl, Blk.new _ _ _, (keep0_trans _ _ _ HK4.out (keepD (Keep.refl _ _) hW)).size⟩
  go_simp
  generalize hZ : (Act.mk _ _) = Z
  refine hK Z ?_
  subst hZ
  clear hK K
  refine kAll_nil (fun W hW hF => ?_)
  obtain ⟨ga, rfl, hba, hla⟩ := kAllHas_at hF 0 rfl
  replace HO := Lib.hid (HO.out.keep (keepD (Keep.refl _ _) hW) (fun h => h))
  replace HA := Lib.hid (HA.out.keep (keepD (Keep.refl _ _) hW) (fun h => h))
  replace H13 := Lib.hid (H13.out.keep (keepD (Keep.refl _ _) hW) (fun h => h))
  replace H12 := Lib.hid (H12.out.keep (keepD (Keep.refl _ _) hW) (fun h => h))
  replace HK4 := Lib.hid (keep0_trans _ _ _ HK4.out (keepD (Keep.refl _ _) hW))
  have HBa := Lib.hid hba
  have HLa := Lib.hid hla
  clear hW hF hba hla HNd
  go_upto_region 6 with (first | (refine wpList_store_row rfl 62 _ _ rfl ga (actC ⟨4, addr, inc, n, at_, x, ab⟩ d (.pointer np)) rfl rfl 62 _ HBa.out sizeAct rfl (oneAct _ _ _) ?_) | fail)
  have kr := keep_setRow W ga (actC ⟨4, addr, inc, n, at_, x, ab⟩ d (.pointer np))
  have hb6 := blk_setRow HBa.out (actC ⟨4, addr, inc, n, at_, x, ab⟩ d (.pointer np))
  have ho6 := HO.out.keep kr (fun e => (Blk.ne_ HO.out HBa.out (by decide)) e)
  have ha6 := HA.out.keep kr (fun e => (Blk.ne_ HA.out HBa.out (by decide)) e)
  have h136 := H13.out.keep kr (fun e => (Blk.ne_ H13.out HBa.out (by decide)) e)
  have h126 := H12.out.keep kr (fun e => (Blk.ne_ H12.out HBa.out (by decide)) e)
  have hk6 := HK4.out.trans (kr.mono fun g _ e => .inr (by rw [e]; exact HLa.out))
  generalize W.setRow ga (actC ⟨4, addr, inc, n, at_, x, ab⟩ d (.pointer np)) = W6 at *
  replace HBa := Lib.hid hb6
  replace HO := Lib.hid ho6
  replace HA := Lib.hid ha6
  replace H13 := Lib.hid h136
  replace H12 := Lib.hid h126
  replace HK4 := Lib.hid hk6
  clear kr hb6 ho6 ha6 h136 h126 hk6
  have o0 := HO.out.cell 0
  simp at o0
  try simp only at HF
  have t0 := H13.out.cell 4
  simp at t0
  go_upto_region 7 with (fail)
  clear t0 o0
  have NE0 := Lib.hid (show ¬ w.heap.size = b by have := HBW.out; omega)
  have NE1 := Lib.hid (show ¬ g13 = b by have := HBW.out; have := HG.out; omega)
  have NE2 := Lib.hid (show ¬ ga = b by have := HBW.out; have := HLa.out; omega)
  have NE3 := Lib.hid (show ¬ gA = b by have := HBW.out; have := HG.out; omega)
  refine wp_region_kpiv (Keep (fun g => g = b)) (Keep (fun _ => False)) 6 (Keep.refl _) (keepT_trans _) (Keep.refl _) keep0_trans (fun _ _ h => h.mono fun _ _ e => e.elim) 9 (by kernel_rfl) (by kernel_rfl) (Ts := [none, some (.inl (.int .u8 4)), none, some (.inl (.func (.func 15) #[] #[])), none, some (.inl (.agg #[.int .u8 4, .int .i64 addr, .int .i64 inc, .int .i64 n, .int .i64 at_, .int .u32 x, .int .i64 ab.1, .int .i64 ab.2, .int .u32 d, .pointer np])), some (.inr (fun v W => v = ansV er ∧ (∃ W1 W2, Keep (fun _ => False) w W1 ∧ R W1 W2 ∧ Keep (fun g => g = b) W1 W2 ∧ Keep (fun _ => False) W2 W))), some (.inl (.agg ansC)), some (.inl (.int .i64 er))]) ?_
  simp only [List.take, List.drop]
  refine kAllP_p (fun K hK => ?_)
  go_simp
  generalize hZ : (Act.mk _ _) = Z
  refine hK Z ?_
  subst hZ
  clear hK K
  refine kAllP_dn _ (by decide) (fun W hW hF => kStep_of fun K Q hK => ?_) (fun K hK => ?_)
  · have c0 := (HO.out.keep (keepDT hW) (fun e => NE0.out e)).cell 0
    simp at c0
    go_simp
    exact hK _ _ (Keep.refl _ _) rfl
  go_simp
  generalize hZ : (Act.mk _ _) = Z
  refine hK Z ?_
  subst hZ
  clear hK K
  refine kAllP_p (fun K hK => ?_)
  go_simp
  generalize hZ : (Act.mk _ _) = Z
  refine hK Z ?_
  subst hZ
  clear hK K
  refine kAllP_dn _ (by decide) (fun W hW hF => kStep_of fun K Q hK => ?_) (fun K hK => ?_)
  · have c0 := (H13.out.keep (keepDT hW) (fun e => NE1.out e)).cell 4
    simp at c0
    go_simp
    exact hK _ _ (Keep.refl _ _) rfl
  go_simp
  generalize hZ : (Act.mk _ _) = Z
  refine hK Z ?_
  subst hZ
  clear hK K
  refine kAllP_p (fun K hK => ?_)
  go_simp
  generalize hZ : (Act.mk _ _) = Z
  refine hK Z ?_
  subst hZ
  clear hK K
  refine kAllP_dn _ (by decide) (fun W hW hF => kStep_of fun K Q hK => ?_) (fun K hK => ?_)
  · exact wp_load_row 62 _ rfl _ rfl 62 _ (0, 0) _ (HBa.out.keep (keepDT hW) (fun e => NE2.out e)) Tryz.underlying62 rfl (by kernel_rfl) (hK _ _ (Keep.refl _ _) rfl)
  go_simp
  generalize hZ : (Act.mk _ _) = Z
  refine hK Z ?_
  subst hZ
  clear hK K
  refine kAllP_tn _ rfl (fun v W W' hk h => by obtain ⟨e, h0⟩ := h; exact ⟨e, (hext h0 hk)⟩) (fun W hW hF => kStep_of fun K Q hK => ?_) (fun u0 K hK => ?_)
  · go_simp
    have hkw := keep0_trans _ _ _ HK4.out (keepD (Keep.refl _ _) hW)
    refine (HF.out W hkw).mono ?_
    rintro e w' ⟨rfl, hr, hk⟩
    exact hK _ _ hk ⟨rfl, W, w', hkw, hr, hk, Keep.refl _ _⟩
  go_simp
  generalize hZ : (Act.mk _ _) = Z
  refine hK Z ?_
  subst hZ
  clear hK K
  refine kAllP_dn _ (by decide) (fun W hW hF => kStep_of fun K Q hK => ?_) (fun K hK => ?_)
  · obtain ⟨rfl, k0_0⟩ := (kHas_at hF 0 rfl (by kernel_rfl) : (fun v W => v = ansV er ∧ (∃ W1 W2, Keep (fun _ => False) w W1 ∧ R W1 W2 ∧ Keep (fun g => g = b) W1 W2 ∧ Keep (fun _ => False) W2 W)) u0 W)
    go_simp
    exact hK _ _ (Keep.refl _ _) rfl
  go_simp
  generalize hZ : (Act.mk _ _) = Z
  refine hK Z ?_
  subst hZ
  clear hK K
  refine kAllP_dn _ (by decide) (fun W hW hF => kStep_of fun K Q hK => ?_) (fun K hK => ?_)
  · obtain ⟨rfl, k0_0⟩ := (kHas_at hF 0 rfl (by kernel_rfl) : (fun v W => v = ansV er ∧ (∃ W1 W2, Keep (fun _ => False) w W1 ∧ R W1 W2 ∧ Keep (fun g => g = b) W1 W2 ∧ Keep (fun _ => False) W2 W)) u0 W)
    go_simp
    exact hK _ _ (Keep.refl _ _) rfl
  go_simp
  generalize hZ : (Act.mk _ _) = Z
  refine hK Z ?_
  subst hZ
  clear hK K
  refine kAllP_nil (fun W7 hW hF => ?_)
  have hz7 := HA.out.keep (keepDT hW) (fun e => NE3.out e)
  have hk7 := kAllHas_at hF 0 rfl
  have HZ7 := Lib.hid hz7
  have HD7 := Lib.hid hk7.2
  clear hF hW hz7 hk7 HO H13 H12 HBa HA HK4 HF
  go_wp2_with (first | (refine wpList_store_row rfl 34 _ _ rfl gA ansC rfl rfl 34 _ HZ7.out sizeAns rfl oneAns ?_; rw [setRow_same HZ7.out]) | fail)
  exact bodyPost_ret (v := ansV er) (results_ans Tryz.results4 _ _ _ HZ7.out rfl rfl) rfl ⟨rfl, HD7.out⟩
set_option maxHeartbeats 8000000 in
theorem do_lose (b : Nat) (o : OpM) (d : Int) (np : Option Addr) (er : Int) (R : World → World → Prop) (w : World) (hk0 : o.kind = 5) (hbw : b < w.heap.size)
    (hnd : ∀ W, Keep (fun _ => False) w W → Calls Tryz.prog 9 #[.pointer (some ⟨b, 0, none⟩), .int .i64 o.addr] W fun e w' => e = .returned (.pointer np) ∧ w' = W)
    (hf : ∀ W, Keep (fun _ => False) w W → Calls Tryz.prog 16 #[.pointer (some ⟨b, 0, none⟩), .agg (actC o d (.pointer np))] W fun e W' => e = .returned (ansV er) ∧ R W W' ∧ Keep (fun g => g = b) W W') :
    Calls Tryz.prog 4 #[.pointer (some ⟨b, 0, none⟩), .agg (opC o), .int .u32 d] w (DoSays R er b w) := by
  have HF := Lib.hid hf
  have HBW := Lib.hid hbw
  clear hf hbw
  obtain ⟨kind, addr, inc, n, at_, x, ab⟩ := o
  simp only at hk0
  subst hk0
  have HNd := Lib.hid hnd
  simp only at HNd
  clear hnd
  go_enter Tryz.func4, Tryz.ntmps4
  go_upto_region 5 with (fail)
  have ho := Blk.new w 40 (opC ⟨5, addr, inc, n, at_, x, ab⟩)
  have k1 := (Keep.refl (fun _ => False) w).alloc (.cells (opC ⟨5, addr, inc, n, at_, x, ab⟩) 40)
  have z1 : (w.alloc (.cells (opC ⟨5, addr, inc, n, at_, x, ab⟩) 40)).heap.size = w.heap.size + 1 := by simp
  generalize w.alloc (.cells (opC ⟨5, addr, inc, n, at_, x, ab⟩) 40) = V1 at *
  have ha := Blk.new_ z1 34 ansC
  have k2 := (Keep.refl (fun _ => False) V1).alloc (.cells ansC 34)
  have z2 : (V1.alloc (.cells ansC 34)).heap.size = w.heap.size + 1 + 1 := by simp [z1]
  generalize V1.alloc (.cells ansC 34) = V2 at *
  have h13 := Blk.new_ z2 59 tab13
  have k3 := (Keep.refl (fun _ => False) V2).alloc (.cells tab13 59)
  have z3 : (V2.alloc (.cells tab13 59)).heap.size = w.heap.size + 1 + 1 + 1 := by simp [z2]
  generalize V2.alloc (.cells tab13 59) = V3 at *
  have h12 := Blk.new_ z3 60 tab12
  have k4 := (Keep.refl (fun _ => False) V3).alloc (.cells tab12 60)
  generalize V3.alloc (.cells tab12 60) = V4 at *
  have HO := Lib.hid (((ho.keep k2 (fun h => h)).keep k3 (fun h => h)).keep k4 (fun h => h))
  have HA := Lib.hid ((ha.keep k3 (fun h => h)).keep k4 (fun h => h))
  have H13 := Lib.hid (h13.keep k4 (fun h => h))
  have H12 := Lib.hid h12
  have HK4 := Lib.hid (keep0_trans _ _ _ (keep0_trans _ _ _ (keep0_trans _ _ _ k1 k2) k3) k4)
  clear ho k1 z1 ha k2 z2 h13 k3 z3 h12 k4
  have HG := Lib.hid (show w.heap.size < w.heap.size + 1 ∧ w.heap.size < w.heap.size + 1 + 1 ∧ w.heap.size < w.heap.size + 1 + 1 + 1 by omega)
  generalize w.heap.size + 1 + 1 + 1 = g12 at *
  generalize w.heap.size + 1 + 1 = g13 at *
  generalize w.heap.size + 1 = gA at *
  refine wp_region_krip (Keep (fun _ => False)) (Keep.refl _) keep0_trans 8 (by kernel_rfl) (by kernel_rfl) (Ts := [some (.inl (.agg #[.int .u8 5, .int .i64 addr, .int .i64 inc, .int .i64 n, .int .i64 at_, .int .u32 x, .int .i64 ab.1, .int .i64 ab.2])), none, none, none, some (.inl (.int .i64 addr)), some (.inl (.pointer np)), some (.inl (.agg #[.int .u8 5, .int .i64 addr, .int .i64 inc, .int .i64 n, .int .i64 at_, .int .u32 x, .int .i64 ab.1, .int .i64 ab.2, .int .u32 d, .pointer np])), some (.inr (fun v W => ∃ g_0, v = .pointer (some ⟨g_0, 0, none⟩) ∧ Blk W g_0 62 (actC ⟨0, 0, 0, 0, 0, 0, (0, 0)⟩ 0 (.pointer none)) ∧ w.heap.size ≤ g_0))]) ?_
  simp only [List.take, List.drop]
  refine kAll_dn _ (fun W hW hF => kStep_of fun K Q hK => ?_) (fun K hK => ?_)
  · exact wp_load_row 40 _ rfl _ rfl 40 _ (0, 0) _ (HO.out.keep (keepD (Keep.refl _ _) hW) (fun h => h)) Tryz.underlying40 rfl (by kernel_rfl) (hK _ _ (Keep.refl _ _) rfl)
  go_simp
  generalize hZ : (Act.mk _ _) = Z
  refine hK Z ?_
  subst hZ
  clear hK K
  refine kAll_p (fun K hK => ?_)
  go_simp
  generalize hZ : (Act.mk _ _) = Z
  refine hK Z ?_
  subst hZ
  clear hK K
  refine kAll_p (fun K hK => ?_)
  go_simp
  generalize hZ : (Act.mk _ _) = Z
  refine hK Z ?_
  subst hZ
  clear hK K
  refine kAll_p (fun K hK => ?_)
  go_simp
  generalize hZ : (Act.mk _ _) = Z
  refine hK Z ?_
  subst hZ
  clear hK K
  refine kAll_dn _ (fun W hW hF => kStep_of fun K Q hK => ?_) (fun K hK => ?_)
  · have c0 := (HO.out.keep (keepD (Keep.refl _ _) hW) (fun h => h)).cell 1
    simp at c0
    go_simp
    exact hK _ _ (Keep.refl _ _) rfl
  go_simp
  generalize hZ : (Act.mk _ _) = Z
  refine hK Z ?_
  subst hZ
  clear hK K
  refine kAll_dn _ (fun W hW hF => kStep_of fun K Q hK => ?_) (fun K hK => ?_)
  · go_simp
    refine (HNd.out W (keep0_trans _ _ _ HK4.out (keepD (Keep.refl _ _) hW))).mono ?_
    rintro e w' ⟨rfl, rfl⟩
    exact hK _ _ (Keep.refl _ _) rfl
  go_simp
  generalize hZ : (Act.mk _ _) = Z
  refine hK Z ?_
  subst hZ
  clear hK K
  refine kAll_dn _ (fun W hW hF => kStep_of fun K Q hK => ?_) (fun K hK => ?_)
  · exact wp_build_is 62 _ rfl (l := [(0, .agg #[.int .u8 5, .int .i64 addr, .int .i64 inc, .int .i64 n, .int .i64 at_, .int .u32 x, .int .i64 ab.1, .int .i64 ab.2]), (1, .int .u32 d), (2, .pointer np)]) (by kernel_rfl) (cells := #[.int .u8 5, .int .i64 addr, .int .i64 inc, .int .i64 n, .int .i64 at_, .int .u32 x, .int .i64 ab.1, .int .i64 ab.2, .int .u32 d, .pointer np]) (by kernel_rfl) (hK _ _ (Keep.refl _ _) rfl)
  go_simp
  generalize hZ : (Act.mk _ _) = Z
  refine hK Z ?_
  subst hZ
  clear hK K
  refine kAll_tn _ (fun v W W' hk h => by obtain ⟨g_0, e, h0, h1⟩ := h; exact ⟨_, e, (h0.keep hk (fun h => h)), (h1)⟩) (fun W hW hF => kStep_of fun K Q hK => ?_) (fun u0 K hK => ?_)
  · go_simp
    exact hK _ _ ((Keep.refl _ _).alloc _) ⟨_, rfl, Blk.new _ _ _, (keep0_trans _ _ _ HK4.out (keepD (Keep.refl _ _) hW)).size⟩
  go_simp
  generalize hZ : (Act.mk _ _) = Z
  refine hK Z ?_
  subst hZ
  clear hK K
  refine kAll_nil (fun W hW hF => ?_)
  obtain ⟨ga, rfl, hba, hla⟩ := kAllHas_at hF 0 rfl
  replace HO := Lib.hid (HO.out.keep (keepD (Keep.refl _ _) hW) (fun h => h))
  replace HA := Lib.hid (HA.out.keep (keepD (Keep.refl _ _) hW) (fun h => h))
  replace H13 := Lib.hid (H13.out.keep (keepD (Keep.refl _ _) hW) (fun h => h))
  replace H12 := Lib.hid (H12.out.keep (keepD (Keep.refl _ _) hW) (fun h => h))
  replace HK4 := Lib.hid (keep0_trans _ _ _ HK4.out (keepD (Keep.refl _ _) hW))
  have HBa := Lib.hid hba
  have HLa := Lib.hid hla
  clear hW hF hba hla HNd
  go_upto_region 6 with (first | (refine wpList_store_row rfl 62 _ _ rfl ga (actC ⟨5, addr, inc, n, at_, x, ab⟩ d (.pointer np)) rfl rfl 62 _ HBa.out sizeAct rfl (oneAct _ _ _) ?_) | fail)
  have kr := keep_setRow W ga (actC ⟨5, addr, inc, n, at_, x, ab⟩ d (.pointer np))
  have hb6 := blk_setRow HBa.out (actC ⟨5, addr, inc, n, at_, x, ab⟩ d (.pointer np))
  have ho6 := HO.out.keep kr (fun e => (Blk.ne_ HO.out HBa.out (by decide)) e)
  have ha6 := HA.out.keep kr (fun e => (Blk.ne_ HA.out HBa.out (by decide)) e)
  have h136 := H13.out.keep kr (fun e => (Blk.ne_ H13.out HBa.out (by decide)) e)
  have h126 := H12.out.keep kr (fun e => (Blk.ne_ H12.out HBa.out (by decide)) e)
  have hk6 := HK4.out.trans (kr.mono fun g _ e => .inr (by rw [e]; exact HLa.out))
  generalize W.setRow ga (actC ⟨5, addr, inc, n, at_, x, ab⟩ d (.pointer np)) = W6 at *
  replace HBa := Lib.hid hb6
  replace HO := Lib.hid ho6
  replace HA := Lib.hid ha6
  replace H13 := Lib.hid h136
  replace H12 := Lib.hid h126
  replace HK4 := Lib.hid hk6
  clear kr hb6 ho6 ha6 h136 h126 hk6
  have o0 := HO.out.cell 0
  simp at o0
  try simp only at HF
  have t0 := H13.out.cell 5
  simp at t0
  go_upto_region 7 with (fail)
  clear t0 o0
  have NE0 := Lib.hid (show ¬ w.heap.size = b by have := HBW.out; omega)
  have NE1 := Lib.hid (show ¬ g13 = b by have := HBW.out; have := HG.out; omega)
  have NE2 := Lib.hid (show ¬ ga = b by have := HBW.out; have := HLa.out; omega)
  have NE3 := Lib.hid (show ¬ gA = b by have := HBW.out; have := HG.out; omega)
  refine wp_region_kpiv (Keep (fun g => g = b)) (Keep (fun _ => False)) 6 (Keep.refl _) (keepT_trans _) (Keep.refl _) keep0_trans (fun _ _ h => h.mono fun _ _ e => e.elim) 9 (by kernel_rfl) (by kernel_rfl) (Ts := [none, some (.inl (.int .u8 5)), none, some (.inl (.func (.func 16) #[] #[])), none, some (.inl (.agg #[.int .u8 5, .int .i64 addr, .int .i64 inc, .int .i64 n, .int .i64 at_, .int .u32 x, .int .i64 ab.1, .int .i64 ab.2, .int .u32 d, .pointer np])), some (.inr (fun v W => v = ansV er ∧ (∃ W1 W2, Keep (fun _ => False) w W1 ∧ R W1 W2 ∧ Keep (fun g => g = b) W1 W2 ∧ Keep (fun _ => False) W2 W))), some (.inl (.agg ansC)), some (.inl (.int .i64 er))]) ?_
  simp only [List.take, List.drop]
  refine kAllP_p (fun K hK => ?_)
  go_simp
  generalize hZ : (Act.mk _ _) = Z
  refine hK Z ?_
  subst hZ
  clear hK K
  refine kAllP_dn _ (by decide) (fun W hW hF => kStep_of fun K Q hK => ?_) (fun K hK => ?_)
  · have c0 := (HO.out.keep (keepDT hW) (fun e => NE0.out e)).cell 0
    simp at c0
    go_simp
    exact hK _ _ (Keep.refl _ _) rfl
  go_simp
  generalize hZ : (Act.mk _ _) = Z
  refine hK Z ?_
  subst hZ
  clear hK K
  refine kAllP_p (fun K hK => ?_)
  go_simp
  generalize hZ : (Act.mk _ _) = Z
  refine hK Z ?_
  subst hZ
  clear hK K
  refine kAllP_dn _ (by decide) (fun W hW hF => kStep_of fun K Q hK => ?_) (fun K hK => ?_)
  · have c0 := (H13.out.keep (keepDT hW) (fun e => NE1.out e)).cell 5
    simp at c0
    go_simp
    exact hK _ _ (Keep.refl _ _) rfl
  go_simp
  generalize hZ : (Act.mk _ _) = Z
  refine hK Z ?_
  subst hZ
  clear hK K
  refine kAllP_p (fun K hK => ?_)
  go_simp
  generalize hZ : (Act.mk _ _) = Z
  refine hK Z ?_
  subst hZ
  clear hK K
  refine kAllP_dn _ (by decide) (fun W hW hF => kStep_of fun K Q hK => ?_) (fun K hK => ?_)
  · exact wp_load_row 62 _ rfl _ rfl 62 _ (0, 0) _ (HBa.out.keep (keepDT hW) (fun e => NE2.out e)) Tryz.underlying62 rfl (by kernel_rfl) (hK _ _ (Keep.refl _ _) rfl)
  go_simp
  generalize hZ : (Act.mk _ _) = Z
  refine hK Z ?_
  subst hZ
  clear hK K
  refine kAllP_tn _ rfl (fun v W W' hk h => by obtain ⟨e, h0⟩ := h; exact ⟨e, (hext h0 hk)⟩) (fun W hW hF => kStep_of fun K Q hK => ?_) (fun u0 K hK => ?_)
  · go_simp
    have hkw := keep0_trans _ _ _ HK4.out (keepD (Keep.refl _ _) hW)
    refine (HF.out W hkw).mono ?_
    rintro e w' ⟨rfl, hr, hk⟩
    exact hK _ _ hk ⟨rfl, W, w', hkw, hr, hk, Keep.refl _ _⟩
  go_simp
  generalize hZ : (Act.mk _ _) = Z
  refine hK Z ?_
  subst hZ
  clear hK K
  refine kAllP_dn _ (by decide) (fun W hW hF => kStep_of fun K Q hK => ?_) (fun K hK => ?_)
  · obtain ⟨rfl, k0_0⟩ := (kHas_at hF 0 rfl (by kernel_rfl) : (fun v W => v = ansV er ∧ (∃ W1 W2, Keep (fun _ => False) w W1 ∧ R W1 W2 ∧ Keep (fun g => g = b) W1 W2 ∧ Keep (fun _ => False) W2 W)) u0 W)
    go_simp
    exact hK _ _ (Keep.refl _ _) rfl
  go_simp
  generalize hZ : (Act.mk _ _) = Z
  refine hK Z ?_
  subst hZ
  clear hK K
  refine kAllP_dn _ (by decide) (fun W hW hF => kStep_of fun K Q hK => ?_) (fun K hK => ?_)
  · obtain ⟨rfl, k0_0⟩ := (kHas_at hF 0 rfl (by kernel_rfl) : (fun v W => v = ansV er ∧ (∃ W1 W2, Keep (fun _ => False) w W1 ∧ R W1 W2 ∧ Keep (fun g => g = b) W1 W2 ∧ Keep (fun _ => False) W2 W)) u0 W)
    go_simp
    exact hK _ _ (Keep.refl _ _) rfl
  go_simp
  generalize hZ : (Act.mk _ _) = Z
  refine hK Z ?_
  subst hZ
  clear hK K
  refine kAllP_nil (fun W7 hW hF => ?_)
  have hz7 := HA.out.keep (keepDT hW) (fun e => NE3.out e)
  have hk7 := kAllHas_at hF 0 rfl
  have HZ7 := Lib.hid hz7
  have HD7 := Lib.hid hk7.2
  clear hF hW hz7 hk7 HO H13 H12 HBa HA HK4 HF
  go_wp2_with (first | (refine wpList_store_row rfl 34 _ _ rfl gA ansC rfl rfl 34 _ HZ7.out sizeAns rfl oneAns ?_; rw [setRow_same HZ7.out]) | fail)
  exact bodyPost_ret (v := ansV er) (results_ans Tryz.results4 _ _ _ HZ7.out rfl rfl) rfl ⟨rfl, HD7.out⟩
set_option maxHeartbeats 8000000 in
theorem do_judge (b : Nat) (o : OpM) (d : Int) (np : Option Addr) (er : Int) (R : World → World → Prop) (w : World) (hk0 : o.kind = 12) (hbw : b < w.heap.size)
    (hnd : ∀ W, Keep (fun _ => False) w W → Calls Tryz.prog 9 #[.pointer (some ⟨b, 0, none⟩), .int .i64 o.addr] W fun e w' => e = .returned (.pointer np) ∧ w' = W)
    (hf : ∀ W, Keep (fun _ => False) w W → Calls Tryz.prog 19 #[.pointer (some ⟨b, 0, none⟩), .agg (actC o d (.pointer np))] W fun e W' => e = .returned (ansV er) ∧ R W W' ∧ Keep (fun g => g = b) W W') :
    Calls Tryz.prog 4 #[.pointer (some ⟨b, 0, none⟩), .agg (opC o), .int .u32 d] w (DoSays R er b w) := by
  have HF := Lib.hid hf
  have HBW := Lib.hid hbw
  clear hf hbw
  obtain ⟨kind, addr, inc, n, at_, x, ab⟩ := o
  simp only at hk0
  subst hk0
  have HNd := Lib.hid hnd
  simp only at HNd
  clear hnd
  go_enter Tryz.func4, Tryz.ntmps4
  go_upto_region 5 with (fail)
  have ho := Blk.new w 40 (opC ⟨12, addr, inc, n, at_, x, ab⟩)
  have k1 := (Keep.refl (fun _ => False) w).alloc (.cells (opC ⟨12, addr, inc, n, at_, x, ab⟩) 40)
  have z1 : (w.alloc (.cells (opC ⟨12, addr, inc, n, at_, x, ab⟩) 40)).heap.size = w.heap.size + 1 := by simp
  generalize w.alloc (.cells (opC ⟨12, addr, inc, n, at_, x, ab⟩) 40) = V1 at *
  have ha := Blk.new_ z1 34 ansC
  have k2 := (Keep.refl (fun _ => False) V1).alloc (.cells ansC 34)
  have z2 : (V1.alloc (.cells ansC 34)).heap.size = w.heap.size + 1 + 1 := by simp [z1]
  generalize V1.alloc (.cells ansC 34) = V2 at *
  have h13 := Blk.new_ z2 59 tab13
  have k3 := (Keep.refl (fun _ => False) V2).alloc (.cells tab13 59)
  have z3 : (V2.alloc (.cells tab13 59)).heap.size = w.heap.size + 1 + 1 + 1 := by simp [z2]
  generalize V2.alloc (.cells tab13 59) = V3 at *
  have h12 := Blk.new_ z3 60 tab12
  have k4 := (Keep.refl (fun _ => False) V3).alloc (.cells tab12 60)
  generalize V3.alloc (.cells tab12 60) = V4 at *
  have HO := Lib.hid (((ho.keep k2 (fun h => h)).keep k3 (fun h => h)).keep k4 (fun h => h))
  have HA := Lib.hid ((ha.keep k3 (fun h => h)).keep k4 (fun h => h))
  have H13 := Lib.hid (h13.keep k4 (fun h => h))
  have H12 := Lib.hid h12
  have HK4 := Lib.hid (keep0_trans _ _ _ (keep0_trans _ _ _ (keep0_trans _ _ _ k1 k2) k3) k4)
  clear ho k1 z1 ha k2 z2 h13 k3 z3 h12 k4
  have HG := Lib.hid (show w.heap.size < w.heap.size + 1 ∧ w.heap.size < w.heap.size + 1 + 1 ∧ w.heap.size < w.heap.size + 1 + 1 + 1 by omega)
  generalize w.heap.size + 1 + 1 + 1 = g12 at *
  generalize w.heap.size + 1 + 1 = g13 at *
  generalize w.heap.size + 1 = gA at *
  refine wp_region_krip (Keep (fun _ => False)) (Keep.refl _) keep0_trans 8 (by kernel_rfl) (by kernel_rfl) (Ts := [some (.inl (.agg #[.int .u8 12, .int .i64 addr, .int .i64 inc, .int .i64 n, .int .i64 at_, .int .u32 x, .int .i64 ab.1, .int .i64 ab.2])), none, none, none, some (.inl (.int .i64 addr)), some (.inl (.pointer np)), some (.inl (.agg #[.int .u8 12, .int .i64 addr, .int .i64 inc, .int .i64 n, .int .i64 at_, .int .u32 x, .int .i64 ab.1, .int .i64 ab.2, .int .u32 d, .pointer np])), some (.inr (fun v W => ∃ g_0, v = .pointer (some ⟨g_0, 0, none⟩) ∧ Blk W g_0 62 (actC ⟨0, 0, 0, 0, 0, 0, (0, 0)⟩ 0 (.pointer none)) ∧ w.heap.size ≤ g_0))]) ?_
  simp only [List.take, List.drop]
  refine kAll_dn _ (fun W hW hF => kStep_of fun K Q hK => ?_) (fun K hK => ?_)
  · exact wp_load_row 40 _ rfl _ rfl 40 _ (0, 0) _ (HO.out.keep (keepD (Keep.refl _ _) hW) (fun h => h)) Tryz.underlying40 rfl (by kernel_rfl) (hK _ _ (Keep.refl _ _) rfl)
  go_simp
  generalize hZ : (Act.mk _ _) = Z
  refine hK Z ?_
  subst hZ
  clear hK K
  refine kAll_p (fun K hK => ?_)
  go_simp
  generalize hZ : (Act.mk _ _) = Z
  refine hK Z ?_
  subst hZ
  clear hK K
  refine kAll_p (fun K hK => ?_)
  go_simp
  generalize hZ : (Act.mk _ _) = Z
  refine hK Z ?_
  subst hZ
  clear hK K
  refine kAll_p (fun K hK => ?_)
  go_simp
  generalize hZ : (Act.mk _ _) = Z
  refine hK Z ?_
  subst hZ
  clear hK K
  refine kAll_dn _ (fun W hW hF => kStep_of fun K Q hK => ?_) (fun K hK => ?_)
  · have c0 := (HO.out.keep (keepD (Keep.refl _ _) hW) (fun h => h)).cell 1
    simp at c0
    go_simp
    exact hK _ _ (Keep.refl _ _) rfl
  go_simp
  generalize hZ : (Act.mk _ _) = Z
  refine hK Z ?_
  subst hZ
  clear hK K
  refine kAll_dn _ (fun W hW hF => kStep_of fun K Q hK => ?_) (fun K hK => ?_)
  · go_simp
    refine (HNd.out W (keep0_trans _ _ _ HK4.out (keepD (Keep.refl _ _) hW))).mono ?_
    rintro e w' ⟨rfl, rfl⟩
    exact hK _ _ (Keep.refl _ _) rfl
  go_simp
  generalize hZ : (Act.mk _ _) = Z
  refine hK Z ?_
  subst hZ
  clear hK K
  refine kAll_dn _ (fun W hW hF => kStep_of fun K Q hK => ?_) (fun K hK => ?_)
  · exact wp_build_is 62 _ rfl (l := [(0, .agg #[.int .u8 12, .int .i64 addr, .int .i64 inc, .int .i64 n, .int .i64 at_, .int .u32 x, .int .i64 ab.1, .int .i64 ab.2]), (1, .int .u32 d), (2, .pointer np)]) (by kernel_rfl) (cells := #[.int .u8 12, .int .i64 addr, .int .i64 inc, .int .i64 n, .int .i64 at_, .int .u32 x, .int .i64 ab.1, .int .i64 ab.2, .int .u32 d, .pointer np]) (by kernel_rfl) (hK _ _ (Keep.refl _ _) rfl)
  go_simp
  generalize hZ : (Act.mk _ _) = Z
  refine hK Z ?_
  subst hZ
  clear hK K
  refine kAll_tn _ (fun v W W' hk h => by obtain ⟨g_0, e, h0, h1⟩ := h; exact ⟨_, e, (h0.keep hk (fun h => h)), (h1)⟩) (fun W hW hF => kStep_of fun K Q hK => ?_) (fun u0 K hK => ?_)
  · go_simp
    exact hK _ _ ((Keep.refl _ _).alloc _) ⟨_, rfl, Blk.new _ _ _, (keep0_trans _ _ _ HK4.out (keepD (Keep.refl _ _) hW)).size⟩
  go_simp
  generalize hZ : (Act.mk _ _) = Z
  refine hK Z ?_
  subst hZ
  clear hK K
  refine kAll_nil (fun W hW hF => ?_)
  obtain ⟨ga, rfl, hba, hla⟩ := kAllHas_at hF 0 rfl
  replace HO := Lib.hid (HO.out.keep (keepD (Keep.refl _ _) hW) (fun h => h))
  replace HA := Lib.hid (HA.out.keep (keepD (Keep.refl _ _) hW) (fun h => h))
  replace H13 := Lib.hid (H13.out.keep (keepD (Keep.refl _ _) hW) (fun h => h))
  replace H12 := Lib.hid (H12.out.keep (keepD (Keep.refl _ _) hW) (fun h => h))
  replace HK4 := Lib.hid (keep0_trans _ _ _ HK4.out (keepD (Keep.refl _ _) hW))
  have HBa := Lib.hid hba
  have HLa := Lib.hid hla
  clear hW hF hba hla HNd
  go_upto_region 6 with (first | (refine wpList_store_row rfl 62 _ _ rfl ga (actC ⟨12, addr, inc, n, at_, x, ab⟩ d (.pointer np)) rfl rfl 62 _ HBa.out sizeAct rfl (oneAct _ _ _) ?_) | fail)
  have kr := keep_setRow W ga (actC ⟨12, addr, inc, n, at_, x, ab⟩ d (.pointer np))
  have hb6 := blk_setRow HBa.out (actC ⟨12, addr, inc, n, at_, x, ab⟩ d (.pointer np))
  have ho6 := HO.out.keep kr (fun e => (Blk.ne_ HO.out HBa.out (by decide)) e)
  have ha6 := HA.out.keep kr (fun e => (Blk.ne_ HA.out HBa.out (by decide)) e)
  have h136 := H13.out.keep kr (fun e => (Blk.ne_ H13.out HBa.out (by decide)) e)
  have h126 := H12.out.keep kr (fun e => (Blk.ne_ H12.out HBa.out (by decide)) e)
  have hk6 := HK4.out.trans (kr.mono fun g _ e => .inr (by rw [e]; exact HLa.out))
  generalize W.setRow ga (actC ⟨12, addr, inc, n, at_, x, ab⟩ d (.pointer np)) = W6 at *
  replace HBa := Lib.hid hb6
  replace HO := Lib.hid ho6
  replace HA := Lib.hid ha6
  replace H13 := Lib.hid h136
  replace H12 := Lib.hid h126
  replace HK4 := Lib.hid hk6
  clear kr hb6 ho6 ha6 h136 h126 hk6
  have o0 := HO.out.cell 0
  simp at o0
  try simp only at HF
  have t0 := H13.out.cell 12
  simp at t0
  go_upto_region 7 with (fail)
  clear t0 o0
  have NE0 := Lib.hid (show ¬ w.heap.size = b by have := HBW.out; omega)
  have NE1 := Lib.hid (show ¬ g13 = b by have := HBW.out; have := HG.out; omega)
  have NE2 := Lib.hid (show ¬ ga = b by have := HBW.out; have := HLa.out; omega)
  have NE3 := Lib.hid (show ¬ gA = b by have := HBW.out; have := HG.out; omega)
  refine wp_region_kpiv (Keep (fun g => g = b)) (Keep (fun _ => False)) 6 (Keep.refl _) (keepT_trans _) (Keep.refl _) keep0_trans (fun _ _ h => h.mono fun _ _ e => e.elim) 9 (by kernel_rfl) (by kernel_rfl) (Ts := [none, some (.inl (.int .u8 12)), none, some (.inl (.func (.func 19) #[] #[])), none, some (.inl (.agg #[.int .u8 12, .int .i64 addr, .int .i64 inc, .int .i64 n, .int .i64 at_, .int .u32 x, .int .i64 ab.1, .int .i64 ab.2, .int .u32 d, .pointer np])), some (.inr (fun v W => v = ansV er ∧ (∃ W1 W2, Keep (fun _ => False) w W1 ∧ R W1 W2 ∧ Keep (fun g => g = b) W1 W2 ∧ Keep (fun _ => False) W2 W))), some (.inl (.agg ansC)), some (.inl (.int .i64 er))]) ?_
  simp only [List.take, List.drop]
  refine kAllP_p (fun K hK => ?_)
  go_simp
  generalize hZ : (Act.mk _ _) = Z
  refine hK Z ?_
  subst hZ
  clear hK K
  refine kAllP_dn _ (by decide) (fun W hW hF => kStep_of fun K Q hK => ?_) (fun K hK => ?_)
  · have c0 := (HO.out.keep (keepDT hW) (fun e => NE0.out e)).cell 0
    simp at c0
    go_simp
    exact hK _ _ (Keep.refl _ _) rfl
  go_simp
  generalize hZ : (Act.mk _ _) = Z
  refine hK Z ?_
  subst hZ
  clear hK K
  refine kAllP_p (fun K hK => ?_)
  go_simp
  generalize hZ : (Act.mk _ _) = Z
  refine hK Z ?_
  subst hZ
  clear hK K
  refine kAllP_dn _ (by decide) (fun W hW hF => kStep_of fun K Q hK => ?_) (fun K hK => ?_)
  · have c0 := (H13.out.keep (keepDT hW) (fun e => NE1.out e)).cell 12
    simp at c0
    go_simp
    exact hK _ _ (Keep.refl _ _) rfl
  go_simp
  generalize hZ : (Act.mk _ _) = Z
  refine hK Z ?_
  subst hZ
  clear hK K
  refine kAllP_p (fun K hK => ?_)
  go_simp
  generalize hZ : (Act.mk _ _) = Z
  refine hK Z ?_
  subst hZ
  clear hK K
  refine kAllP_dn _ (by decide) (fun W hW hF => kStep_of fun K Q hK => ?_) (fun K hK => ?_)
  · exact wp_load_row 62 _ rfl _ rfl 62 _ (0, 0) _ (HBa.out.keep (keepDT hW) (fun e => NE2.out e)) Tryz.underlying62 rfl (by kernel_rfl) (hK _ _ (Keep.refl _ _) rfl)
  go_simp
  generalize hZ : (Act.mk _ _) = Z
  refine hK Z ?_
  subst hZ
  clear hK K
  refine kAllP_tn _ rfl (fun v W W' hk h => by obtain ⟨e, h0⟩ := h; exact ⟨e, (hext h0 hk)⟩) (fun W hW hF => kStep_of fun K Q hK => ?_) (fun u0 K hK => ?_)
  · go_simp
    have hkw := keep0_trans _ _ _ HK4.out (keepD (Keep.refl _ _) hW)
    refine (HF.out W hkw).mono ?_
    rintro e w' ⟨rfl, hr, hk⟩
    exact hK _ _ hk ⟨rfl, W, w', hkw, hr, hk, Keep.refl _ _⟩
  go_simp
  generalize hZ : (Act.mk _ _) = Z
  refine hK Z ?_
  subst hZ
  clear hK K
  refine kAllP_dn _ (by decide) (fun W hW hF => kStep_of fun K Q hK => ?_) (fun K hK => ?_)
  · obtain ⟨rfl, k0_0⟩ := (kHas_at hF 0 rfl (by kernel_rfl) : (fun v W => v = ansV er ∧ (∃ W1 W2, Keep (fun _ => False) w W1 ∧ R W1 W2 ∧ Keep (fun g => g = b) W1 W2 ∧ Keep (fun _ => False) W2 W)) u0 W)
    go_simp
    exact hK _ _ (Keep.refl _ _) rfl
  go_simp
  generalize hZ : (Act.mk _ _) = Z
  refine hK Z ?_
  subst hZ
  clear hK K
  refine kAllP_dn _ (by decide) (fun W hW hF => kStep_of fun K Q hK => ?_) (fun K hK => ?_)
  · obtain ⟨rfl, k0_0⟩ := (kHas_at hF 0 rfl (by kernel_rfl) : (fun v W => v = ansV er ∧ (∃ W1 W2, Keep (fun _ => False) w W1 ∧ R W1 W2 ∧ Keep (fun g => g = b) W1 W2 ∧ Keep (fun _ => False) W2 W)) u0 W)
    go_simp
    exact hK _ _ (Keep.refl _ _) rfl
  go_simp
  generalize hZ : (Act.mk _ _) = Z
  refine hK Z ?_
  subst hZ
  clear hK K
  refine kAllP_nil (fun W7 hW hF => ?_)
  have hz7 := HA.out.keep (keepDT hW) (fun e => NE3.out e)
  have hk7 := kAllHas_at hF 0 rfl
  have HZ7 := Lib.hid hz7
  have HD7 := Lib.hid hk7.2
  clear hF hW hz7 hk7 HO H13 H12 HBa HA HK4 HF
  go_wp2_with (first | (refine wpList_store_row rfl 34 _ _ rfl gA ansC rfl rfl 34 _ HZ7.out sizeAns rfl oneAns ?_; rw [setRow_same HZ7.out]) | fail)
  exact bodyPost_ret (v := ansV er) (results_ans Tryz.results4 _ _ _ HZ7.out rfl rfl) rfl ⟨rfl, HD7.out⟩
end Go.Proofs.YtlfpefnlgiohbaaGreat
