/-
  World's law: its own config, its closure.
-/
import Derived.Test.YtlfpefnlgiohbaaGreatWorG
namespace Go.Proofs.YtlfpefnlgiohbaaGreat
open Go.RowKit Go
set_option maxRecDepth 100000
abbrev zc0 : Array Value := #[.slice none 0 0, .int .i64 0, .int .i64 0, .int .i64 0, .int .i64 0, .int .i64 0, .int .i64 0, .int .i64 0, .int .u8 0, .int .i64 0, .bool false, .bool false, .int .i64 0, .int .i64 0, .int .i64 0, .int .i64 0, .int .i64 0]
theorem sizeCfg : (Tryz.prog.info? 45).map (·.size) = some 17 := by kernel_rfl
theorem sizeOp : (Tryz.prog.info? 40).map (·.size) = some 8 := by kernel_rfl
theorem oneCca (A : Option Addr) (c : NC) : (cca (.slice A 1 1) c).all (·.oneCell') = true := by kernel_rfl
set_option maxHeartbeats 2000000 in
theorem lsome_any (w : World) : Calls Tryz.prog 6 #[] w fun e w' => ∃ A, e = .returned (.agg (cca (.slice A 1 1) someC)) ∧ RdN w' A 1 someC.seeds ∧ Keep (fun _ => False) w w' := by
  go_enter Tryz.func6, Tryz.ntmps6
  go_wp2_with (first | (refine wpList_store_row rfl 45 _ _ rfl w.heap.size (cca (.slice (some ⟨w.heap.size + 1, 0, none⟩) 1 1) someC) rfl rfl 45 _ ((Blk.new w 45 _).alloc _) sizeCfg rfl (oneCca _ _) ?_) | fail)
  have hb : Blk ((w.alloc (.cells zc0 45)).alloc (.cells #[.int .i64 1] 3)) w.heap.size 45 zc0 := (Blk.new w 45 zc0).alloc _
  have h2 : Blk ((w.alloc (.cells zc0 45)).alloc (.cells #[.int .i64 1] 3)) (w.heap.size + 1) 3 #[.int .i64 1] := Blk.new_ (by simp) _ _
  have hk : Keep (fun _ => False) w ((w.alloc (.cells zc0 45)).alloc (.cells #[.int .i64 1] 3)) := ((Keep.refl _ w).alloc _).alloc _
  refine bodyPost_ret (results_cell_row rfl _ _ w.heap.size 45 (cca (.slice (some ⟨w.heap.size + 1, 0, none⟩) 1 1) someC) (0, 0) _ rfl (blk_setRow hb _) Tryz.underlying45 rfl sizeCfg) rfl ⟨_, rfl, RdK.of_blk (h2.keep (keep_setRow _ _ _) (by omega)) 1 1 rfl, hk.trans ((keep_setRow _ _ _).mono fun g _ e => .inr (by omega))⟩
set_option maxHeartbeats 2000000 in
theorem cl_any {b b6 : Nat} {o : OpM} {er : Int} {P : World → Prop} (w : World) (hc : Blk w b6 22 #[.pointer (some ⟨b, 0, none⟩)])
    (hd : ∀ W, Keep (fun _ => False) w W → Calls Tryz.prog 4 #[.pointer (some ⟨b, 0, none⟩), .agg (opC o), .int .u32 0] W (DoW b er P W)) (hP : ∀ W W', Keep (fun _ => False) W W' → P W → P W') :
    Calls Tryz.prog 7 #[.agg (opC o), .pointer (some ⟨b6, 0, none⟩)] w fun e w' => e = .returned (.int .i64 er) ∧ P w' ∧ Keep (fun g => g = b) w w' := by
  obtain ⟨kind, addr, inc, n, at_, x, ab⟩ := o
  have HD := Lib.hid hd
  have HP := Lib.hid hP
  have HC := Lib.hid hc
  clear hd hP hc
  go_enter Tryz.func7, Tryz.ntmps7
  go_upto_region 1 with (fail)
  have hbx := Blk.new w 40 (opC ⟨kind, addr, inc, n, at_, x, ab⟩)
  have hk1 := (Keep.refl (fun _ => False) w).alloc (.cells (opC ⟨kind, addr, inc, n, at_, x, ab⟩) 40)
  generalize w.alloc (.cells (opC ⟨kind, addr, inc, n, at_, x, ab⟩) 40) = V1 at *
  have HBx := Lib.hid hbx
  have HK1 := Lib.hid hk1
  have c0 := (HC.out.keep hk1 (fun h => h)).cell 0
  simp at c0
  clear hbx hk1
  go_wp2_with (first | (refine wpList_load_row rfl 40 _ rfl w.heap.size rfl 40 (opC ⟨kind, addr, inc, n, at_, x, ab⟩) (0, 0) _ HBx.out Tryz.underlying40 rfl sizeOp ?_) | fail)
  refine (HD.out V1 HK1.out).mono ?_
  rintro e W2 ⟨rfl, hp, hk⟩
  have HP2 := Lib.hid hp
  have HK2 := Lib.hid hk
  clear hp hk c0
  go_wp2_with (first | (refine wpList_store_row rfl 34 _ _ rfl W2.heap.size ansC rfl rfl 34 _ (Blk.new W2 _ ansC) sizeAns rfl oneAns ?_; rw [setRow_same (Blk.new W2 _ ansC)]) | fail)
  go_ret
  have ka := (Keep.refl (fun _ => False) W2).alloc (.cells ansC 34)
  exact ⟨rfl, HP.out _ _ ka HP2.out, ((HK1.out.mono fun _ _ e => e.elim).trans (HK2.out.mono fun _ _ e => .inl e)).trans (ka.mono fun _ _ e => e.elim)⟩
end Go.Proofs.YtlfpefnlgiohbaaGreat
