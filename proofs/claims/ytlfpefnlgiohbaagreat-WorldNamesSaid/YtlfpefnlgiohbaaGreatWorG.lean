/-
  World.judge at no kind, at no arbiter; a world with one address in use (Wn). Written by gen_worg.py.
-/
import Derived.Test.YtlfpefnlgiohbaaGreatWorF
namespace Go.Proofs.YtlfpefnlgiohbaaGreat
open Go.RowKit Go
set_option maxRecDepth 100000
attribute [local irreducible] kAll kAllP
attribute [local go_sem] kQuiet kQuietUpon
set_option maxHeartbeats 2000000 in
theorem wJudge_form (b : Nat) (o : OpM) (d : Int) (nv : Value) (w : World) (hx : o.x = 0) :
    Calls Tryz.prog 19 #[.pointer (some ⟨b, 0, none⟩), .agg (actC o d nv)] w (Tell (ansV 4) w) := by
  obtain ⟨kind, addr, inc, n, at_, x, ab⟩ := o
  simp only at hx
  subst hx
  go_enter Tryz.func19, Tryz.ntmps19
  go_upto_region 1 with (fail)
  have hbx := Blk.new w 62 (actC ⟨kind, addr, inc, n, at_, 0, ab⟩ d nv)
  have hk1 := (Keep.refl (fun _ => False) w).alloc (.cells (actC ⟨kind, addr, inc, n, at_, 0, ab⟩ d nv) 62)
  have hs1 : (w.alloc (.cells (actC ⟨kind, addr, inc, n, at_, 0, ab⟩ d nv) 62)).heap.size = w.heap.size + 1 := by simp
  generalize w.alloc (.cells (actC ⟨kind, addr, inc, n, at_, 0, ab⟩ d nv) 62) = V1 at *
  have hbz := Blk.new_ hs1 34 ansC
  have hk2 := (Keep.refl (fun _ => False) V1).alloc (.cells ansC 34)
  generalize V1.alloc (.cells ansC 34) = V2 at *
  have HBx := Lib.hid (hbx.keep hk2 (fun h => h))
  have HBz := Lib.hid hbz
  have HK0 := Lib.hid (keep0_trans _ _ _ hk1 hk2)
  clear hbx hk1 hs1 hbz hk2
  generalize w.heap.size + 1 = gz at *
  have x5 := HBx.out.cell 5
  simp at x5
  go_wp2_with (first | (refine wpList_store_row rfl 34 _ _ rfl gz ansC rfl rfl 34 _ HBz.out sizeAns rfl oneAns ?_; rw [setRow_same HBz.out]) | fail)
  exact bodyPost_ret (v := ansV 4) (results_ans Tryz.results19 _ _ _ HBz.out rfl rfl) rfl ⟨rfl, HK0.out⟩
set_option maxHeartbeats 2000000 in
theorem wJudge_tick (b : Nat) (o : OpM) (d : Int) (nv : Value) (w : World) (hx : o.x = 1) (hc : w.cell? ⟨b, 45, none⟩ = some (.pointer none)) :
    Calls Tryz.prog 19 #[.pointer (some ⟨b, 0, none⟩), .agg (actC o d nv)] w (Tell (ansV 5) w) := by
  obtain ⟨kind, addr, inc, n, at_, x, ab⟩ := o
  simp only at hx
  subst hx
  go_enter Tryz.func19, Tryz.ntmps19
  go_upto_region 1 with (fail)
  have hbx := Blk.new w 62 (actC ⟨kind, addr, inc, n, at_, 1, ab⟩ d nv)
  have hk1 := (Keep.refl (fun _ => False) w).alloc (.cells (actC ⟨kind, addr, inc, n, at_, 1, ab⟩ d nv) 62)
  have hs1 : (w.alloc (.cells (actC ⟨kind, addr, inc, n, at_, 1, ab⟩ d nv) 62)).heap.size = w.heap.size + 1 := by simp
  generalize w.alloc (.cells (actC ⟨kind, addr, inc, n, at_, 1, ab⟩ d nv) 62) = V1 at *
  have hbz := Blk.new_ hs1 34 ansC
  have hk2 := (Keep.refl (fun _ => False) V1).alloc (.cells ansC 34)
  generalize V1.alloc (.cells ansC 34) = V2 at *
  have HBx := Lib.hid (hbx.keep hk2 (fun h => h))
  have HBz := Lib.hid hbz
  have HK0 := Lib.hid (keep0_trans _ _ _ hk1 hk2)
  have c45 := HK0.out.cell hc (fun e => e)
  clear hbx hk1 hs1 hbz hk2
  generalize w.heap.size + 1 = gz at *
  have x5 := HBx.out.cell 5
  simp at x5
  go_upto_region 3 with (fail)
  clear x5
  go_upto_region 4 with (fail)
  go_wp2_with (first | (refine wpList_store_row rfl 34 _ _ rfl gz ansC rfl rfl 34 _ HBz.out sizeAns rfl oneAns ?_; rw [setRow_same HBz.out]) | fail)
  exact bodyPost_ret (v := ansV 5) (results_ans Tryz.results19 _ _ _ HBz.out rfl rfl) rfl ⟨rfl, HK0.out⟩
set_option maxHeartbeats 2000000 in
theorem wJudge_start (b : Nat) (o : OpM) (d : Int) (nv : Value) (w : World) (hx : o.x = 3) (hc : w.cell? ⟨b, 45, none⟩ = some (.pointer none)) :
    Calls Tryz.prog 19 #[.pointer (some ⟨b, 0, none⟩), .agg (actC o d nv)] w (Tell (ansV 5) w) := by
  obtain ⟨kind, addr, inc, n, at_, x, ab⟩ := o
  simp only at hx
  subst hx
  go_enter Tryz.func19, Tryz.ntmps19
  go_upto_region 1 with (fail)
  have hbx := Blk.new w 62 (actC ⟨kind, addr, inc, n, at_, 3, ab⟩ d nv)
  have hk1 := (Keep.refl (fun _ => False) w).alloc (.cells (actC ⟨kind, addr, inc, n, at_, 3, ab⟩ d nv) 62)
  have hs1 : (w.alloc (.cells (actC ⟨kind, addr, inc, n, at_, 3, ab⟩ d nv) 62)).heap.size = w.heap.size + 1 := by simp
  generalize w.alloc (.cells (actC ⟨kind, addr, inc, n, at_, 3, ab⟩ d nv) 62) = V1 at *
  have hbz := Blk.new_ hs1 34 ansC
  have hk2 := (Keep.refl (fun _ => False) V1).alloc (.cells ansC 34)
  generalize V1.alloc (.cells ansC 34) = V2 at *
  have HBx := Lib.hid (hbx.keep hk2 (fun h => h))
  have HBz := Lib.hid hbz
  have HK0 := Lib.hid (keep0_trans _ _ _ hk1 hk2)
  have c45 := HK0.out.cell hc (fun e => e)
  clear hbx hk1 hs1 hbz hk2
  generalize w.heap.size + 1 = gz at *
  have x5 := HBx.out.cell 5
  simp at x5
  go_upto_region 3 with (fail)
  clear x5
  go_upto_region 4 with (fail)
  go_wp2_with (first | (refine wpList_store_row rfl 34 _ _ rfl gz ansC rfl rfl 34 _ HBz.out sizeAns rfl oneAns ?_; rw [setRow_same HBz.out]) | fail)
  exact bodyPost_ret (v := ansV 5) (results_ans Tryz.results19 _ _ _ HBz.out rfl rfl) rfl ⟨rfl, HK0.out⟩
/-- what the law's config is -/
def someC : NC := ⟨[1], 2, 3, 6, 4, 2, 9, 0, 2, 0, false, false, 0, 0, 0, 9, 9⟩
/-- a node that lives -/
def Live (b : Nat) (v : Value) (w : World) : Prop := ∃ nb, v = .pointer (some ⟨nb, 0, none⟩) ∧ nb ≠ b ∧ w.cell? ⟨nb, 48, none⟩ = some (.bool false)
theorem Live.keep {b : Nat} {v : Value} {w w' : World} (h : Live b v w) (hk : Keep (fun g => g = b) w w') : Live b v w' := by
  obtain ⟨nb, e, hn, hc⟩ := h
  exact ⟨nb, e, hn, hk.cell hc hn⟩
/-- a world whose only address in use is k -/
def Wn (b k : Nat) (alive : Bool) (last st : Int) (w : World) : Prop :=
  ∃ row A cap nd nw bn, Wd w b row A cap someC nd nw st bn ∧ (∀ j, j ≠ k → nd j = .pointer none) ∧ nw k = last ∧ (alive = false → nd k = .pointer none) ∧ (alive = true → Live b (nd k) w)
theorem Wn.keep {b k : Nat} {alive : Bool} {last st : Int} {w w' : World} (h : Wn b k alive last st w) (hk : Keep (fun _ => False) w w') : Wn b k alive last st w' := by
  obtain ⟨row, A, cap, nd, nw, bn, hw, h1, h2, h3, h4⟩ := h
  exact ⟨row, A, cap, nd, nw, bn, hw.keep hk, h1, h2, h3, fun e => (h4 e).keep (hk.mono fun _ _ e => e.elim)⟩
theorem Wn.lt {b k : Nat} {alive : Bool} {last st : Int} {w : World} (h : Wn b k alive last st w) : b < w.heap.size := by
  obtain ⟨row, A, cap, nd, nw, bn, hw, _⟩ := h
  exact hw.blk.lt
/-- what a call of Do at this world says -/
def DoW (b : Nat) (er : Int) (P : World → Prop) (w : World) (e : Ending) (w' : World) : Prop := e = .returned (ansV er) ∧ P w' ∧ Keep (fun g => g = b) w w'
theorem says_dow {b k : Nat} {alive : Bool} {last st : Int} {er : Int} {w : World} {e : Ending} {w' : World} (h : DoSays (fun _ W' => Wn b k alive last st W') er b w e w') : DoW b er (Wn b k alive last st) w e w' := by
  obtain ⟨rfl, W, W', h1, h2, h3, h4⟩ := h
  exact ⟨rfl, h2.keep h4, ((h1.mono fun _ _ e => e.elim).trans (h3.mono fun _ _ e => .inl e)).trans (h4.mono fun _ _ e => e.elim)⟩
section
variable {b k : Nat} {alive : Bool} {last st : Int} {w : World}
theorem same_dow {er : Int} {e : Ending} {w' : World} (h : Wn b k alive last st w) (hr : e = .returned (ansV er) ∧ Keep (fun _ => False) w w') : DoW b er (Wn b k alive last st) w e w' :=
  ⟨hr.1, h.keep hr.2, hr.2.mono fun _ _ e => e.elim⟩
theorem Wn.node0 (_h : Wn b k alive last st w) (n : Int) (hn : n < 1 ∨ 12 < n) : ∀ W, Keep (fun _ => False) w W → Calls Tryz.prog 9 #[.pointer (some ⟨b, 0, none⟩), .int .i64 n] W fun e w' => e = .returned (.pointer none) ∧ w' = W := fun W _ => wNode_out b n W hn
theorem c_none (h : Wn b k alive last st w) : Calls Tryz.prog 4 #[.pointer (some ⟨b, 0, none⟩), .agg (opC ⟨0, 0, 0, 0, 0, 0, (0, 0)⟩), .int .u32 0] w (DoW b 4 (Wn b k alive last st) w) :=
  (do_none b ⟨0, 0, 0, 0, 0, 0, (0, 0)⟩ 0 none w rfl (h.node0 0 (by omega))).mono fun _ _ hr => same_dow h hr
theorem c_bad (h : Wn b k alive last st w) : Calls Tryz.prog 4 #[.pointer (some ⟨b, 0, none⟩), .agg (opC ⟨13, 0, 0, 0, 0, 0, (0, 0)⟩), .int .u32 0] w (DoW b 4 (Wn b k alive last st) w) :=
  (do_bad b ⟨13, 0, 0, 0, 0, 0, (0, 0)⟩ 0 none w rfl (h.node0 0 (by omega))).mono fun _ _ hr => same_dow h hr
/-- a call's post for DoSays where nothing but new memory is written -/
theorem tell_says {f : Nat} {a : Array Value} {er : Int} (h : Wn b k alive last st w) (hf : ∀ W, Wn b k alive last st W → Calls Tryz.prog f a W (Tell (ansV er) W)) (W : World) (hW : Keep (fun _ => False) w W) :
    Calls Tryz.prog f a W fun e W' => e = .returned (ansV er) ∧ Wn b k alive last st W' ∧ Keep (fun g => g = b) W W' :=
  (hf W (h.keep hW)).mono fun _ _ hr => ⟨hr.1, (h.keep hW).keep hr.2, hr.2.mono fun _ _ e => e.elim⟩
theorem c_judge0 (h : Wn b k alive last st w) : Calls Tryz.prog 4 #[.pointer (some ⟨b, 0, none⟩), .agg (opC ⟨12, 0, 0, 0, 0, 0, (0, 0)⟩), .int .u32 0] w (DoW b 4 (Wn b k alive last st) w) :=
  (do_judge b ⟨12, 0, 0, 0, 0, 0, (0, 0)⟩ 0 none 4 (fun _ W' => Wn b k alive last st W') w rfl h.lt (h.node0 0 (by omega)) (tell_says h fun W _ => wJudge_form b _ 0 _ W rfl)).mono fun _ _ hr => says_dow hr
theorem c_judge (x : Int) (hx : x = 1 ∨ x = 3) (h : Wn b k alive last st w) : Calls Tryz.prog 4 #[.pointer (some ⟨b, 0, none⟩), .agg (opC ⟨12, 0, 0, 0, 0, x, (0, 0)⟩), .int .u32 0] w (DoW b 5 (Wn b k alive last st) w) :=
  (do_judge b ⟨12, 0, 0, 0, 0, x, (0, 0)⟩ 0 none 5 (fun _ W' => Wn b k alive last st W') w rfl h.lt (h.node0 0 (by omega)) (tell_says h fun W hW => by
    obtain ⟨row, A, cap, nd, nw, bn, hw, _⟩ := hW
    have hc := hw.blk.cell 45
    rcases hx with rfl | rfl
    · exact wJudge_tick b _ 0 _ W rfl (hc.trans rfl)
    · exact wJudge_start b _ 0 _ W rfl (hc.trans rfl))).mono fun _ _ hr => says_dow hr
theorem c_arg (h : Wn b k alive last st w) : Calls Tryz.prog 4 #[.pointer (some ⟨b, 0, none⟩), .agg (opC ⟨1, 0, 0, 0, 0, 0, (0, 0)⟩), .int .u32 0] w (DoW b 1 (Wn b k alive last st) w) :=
  (do_start b ⟨1, 0, 0, 0, 0, 0, (0, 0)⟩ 0 none 1 (fun _ W' => Wn b k alive last st W') w rfl h.lt (h.node0 0 (by omega)) (tell_says h fun W hW => by
    obtain ⟨row, A, cap, nd, nw, bn, hw, _⟩ := hW
    exact wStart_arg b bn row A cap someC nd nw st _ 0 _ W (by decide) hw)).mono fun _ _ hr => says_dow hr
theorem c_lose (h : Wn b k alive last st w) : Calls Tryz.prog 4 #[.pointer (some ⟨b, 0, none⟩), .agg (opC ⟨5, 0, 0, 0, 0, 0, (0, 0)⟩), .int .u32 0] w (DoW b 5 (Wn b k alive last st) w) :=
  (do_lose b ⟨5, 0, 0, 0, 0, 0, (0, 0)⟩ 0 none 5 (fun _ W' => Wn b k alive last st W') w rfl h.lt (h.node0 0 (by omega)) (tell_says h fun W hW => by
    obtain ⟨row, A, cap, nd, nw, bn, hw, _⟩ := hW
    exact wLose_none b bn row A cap someC nd nw st _ 0 _ W rfl hw)).mono fun _ _ hr => says_dow hr
theorem c_give (h : Wn b k alive last st w) : Calls Tryz.prog 4 #[.pointer (some ⟨b, 0, none⟩), .agg (opC ⟨4, 0, 0, 0, 0, 0, (0, 0)⟩), .int .u32 0] w (DoW b 5 (Wn b k alive last st) w) :=
  (do_give b ⟨4, 0, 0, 0, 0, 0, (0, 0)⟩ 0 none 5 (fun _ W' => Wn b k alive last st W') w rfl h.lt (h.node0 0 (by omega)) (tell_says h fun W hW => by
    obtain ⟨row, A, cap, nd, nw, bn, hw, _⟩ := hW
    exact wGive_none b bn row A cap someC nd nw st _ 0 _ W rfl hw)).mono fun _ _ hr => says_dow hr
/-- the node at an address that none lives at -/
theorem Wn.nodeN (h : Wn b k alive last st w) (j : Nat) (h1 : 1 ≤ j) (h2 : j ≤ 12) (hj : j ≠ k ∨ alive = false) : ∀ W, Keep (fun _ => False) w W → Calls Tryz.prog 9 #[.pointer (some ⟨b, 0, none⟩), .int .i64 (j : Int)] W fun e w' => e = .returned (.pointer none) ∧ w' = W := fun W hW => by
  obtain ⟨row, A, cap, nd, nw, bn, hw, n1, _, n3, _⟩ := h
  have hn : nd j = .pointer none := by
    rcases hj with hj | hj
    · exact n1 j hj
    · by_cases e : j = k
      · rw [e]; exact n3 hj
      · exact n1 j e
  have hc : W.cell? ⟨b, 17 + j, none⟩ = some (nd j) := by rw [((hw.keep hW).blk).cell]; exact wldA_nd _ _ _ _ _ _ (by omega)
  rw [hn] at hc
  exact wNode_in b j _ W h1 h2 hc
theorem c_pass (h : Wn b k alive last st w) (j : Nat) (h1 : 1 ≤ j) (h2 : j ≤ 12) (hj : j ≠ k) : Calls Tryz.prog 4 #[.pointer (some ⟨b, 0, none⟩), .agg (opC ⟨3, (j : Int), 0, 0, 0, 0, (0, 0)⟩), .int .u32 0] w (DoW b 5 (Wn b k alive last st) w) :=
  (do_pass b ⟨3, (j : Int), 0, 0, 0, 0, (0, 0)⟩ 0 w rfl (h.nodeN j h1 h2 (.inl hj))).mono fun _ _ hr => same_dow h hr
theorem c_start (h : Wn b k false last st w) (inc : Int) (h1 : 1 ≤ k) (h2 : k ≤ 12) (hi : ¬ inc ≤ last) (hst : ¬ st = 48) (hs0 : 0 ≤ st) (hs1 : st ≤ 100) (hm : mayID ((k : Int), inc) = true) :
    Calls Tryz.prog 4 #[.pointer (some ⟨b, 0, none⟩), .agg (opC ⟨1, (k : Int), inc, 0, 0, 0, (0, 0)⟩), .int .u32 0] w (DoW b 0 (Wn b k true inc (st + 1)) w) :=
  (do_start b ⟨1, (k : Int), inc, 0, 0, 0, (0, 0)⟩ 0 none 0 (fun _ W' => Wn b k true inc (st + 1) W') w rfl h.lt (h.nodeN k h1 h2 (.inr rfl)) fun W hW => by
    obtain ⟨row, A, cap, nd, nw, bn, hw, n1, n2, n3, _⟩ := h.keep hW
    have hlt := hw.blk.lt
    refine (wStart_ok b bn row A cap someC nd nw st ⟨1, (k : Int), inc, 0, 0, 0, (0, 0)⟩ 0 k W rfl h1 h2 (by rw [n2]; exact hi) hst hs0 hs1 hm (by decide) (by decide) (by decide) hw).mono ?_
    rintro e W' ⟨rfl, v, hw', ⟨nb, ar, rfl, hb, har, hge⟩, hk⟩
    refine ⟨rfl, ⟨row, A, cap, _, _, bn, hw', fun j hj => ?_, ?_, fun e => (by cases e), fun _ => ?_⟩, hk⟩
    · simp only [ndSet, if_neg hj]; exact n1 j hj
    · simp only [nwSet, if_pos]
    · simp only [ndSet, if_pos]
      exact ⟨nb, rfl, by omega, by rw [hb.cell]; exact har⟩).mono fun _ _ hr => says_dow hr
theorem c_crash (h : Wn b k true last st w) (h1 : 1 ≤ k) (h2 : k ≤ 12) :
    Calls Tryz.prog 4 #[.pointer (some ⟨b, 0, none⟩), .agg (opC ⟨2, (k : Int), 0, 0, 0, 0, (0, 0)⟩), .int .u32 0] w (DoW b 0 (Wn b k false last st) w) := by
  obtain ⟨row, A, cap, nd, nw, bn, hw, n1, n2, n3, n4⟩ := h
  obtain ⟨nb, hnd, hne, hc⟩ := n4 rfl
  refine (do_crash b ⟨2, (k : Int), 0, 0, 0, 0, (0, 0)⟩ 0 ⟨nb, 0, none⟩ 0 (fun _ W' => Wn b k false last st W') w rfl hw.blk.lt (fun W hW => ?_) fun W hW => ?_).mono fun _ _ hr => says_dow hr
  · have hc : W.cell? ⟨b, 17 + k, none⟩ = some (nd k) := by rw [((hw.keep hW).blk).cell]; exact wldA_nd _ _ _ _ _ _ (by omega)
    rw [hnd] at hc
    exact wNode_in b k _ W h1 h2 hc
  · refine (wCrash_ok b bn row A cap someC nd nw st ⟨2, (k : Int), 0, 0, 0, 0, (0, 0)⟩ 0 _ k W rfl h1 h2 (hw.keep hW)).mono ?_
    rintro e W' ⟨rfl, hw', hk⟩
    refine ⟨rfl, ⟨row, A, cap, _, _, bn, hw', fun j hj => ?_, n2, fun _ => ?_, fun e => (by cases e)⟩, hk⟩
    · simp only [ndSet, if_neg hj]; exact n1 j hj
    · simp only [ndSet, if_pos]
theorem c_many (h : Wn b k false last 48 w) (inc : Int) (h1 : 1 ≤ k) (h2 : k ≤ 12) (hi : ¬ inc ≤ last) (hm : mayID ((k : Int), inc) = true) :
    Calls Tryz.prog 4 #[.pointer (some ⟨b, 0, none⟩), .agg (opC ⟨1, (k : Int), inc, 0, 0, 0, (0, 0)⟩), .int .u32 0] w (DoW b 40 (Wn b k false last 48) w) :=
  (do_start b ⟨1, (k : Int), inc, 0, 0, 0, (0, 0)⟩ 0 none 40 (fun _ W' => Wn b k false last 48 W') w rfl h.lt (h.nodeN k h1 h2 (.inr rfl)) (tell_says h fun W hW => by
    obtain ⟨row, A, cap, nd, nw, bn, hw, n1, n2, _⟩ := hW
    exact wStart_many b bn row A cap someC nd nw 48 _ 0 k W rfl h1 h2 (by rw [n2]; exact hi) rfl hm hw)).mono fun _ _ hr => says_dow hr
theorem c_old (h : Wn b k false last st w) (inc : Int) (h1 : 1 ≤ k) (h2 : k ≤ 12) (hi : inc ≤ last) (hm : mayID ((k : Int), inc) = true) :
    Calls Tryz.prog 4 #[.pointer (some ⟨b, 0, none⟩), .agg (opC ⟨1, (k : Int), inc, 0, 0, 0, (0, 0)⟩), .int .u32 0] w (DoW b 42 (Wn b k false last st) w) :=
  (do_start b ⟨1, (k : Int), inc, 0, 0, 0, (0, 0)⟩ 0 none 42 (fun _ W' => Wn b k false last st W') w rfl h.lt (h.nodeN k h1 h2 (.inr rfl)) (tell_says h fun W hW => by
    obtain ⟨row, A, cap, nd, nw, bn, hw, n1, n2, _⟩ := hW
    exact wStart_old b bn row A cap someC nd nw st _ 0 k W rfl h1 h2 (by rw [n2]; exact hi) hm hw)).mono fun _ _ hr => says_dow hr
theorem c_twice (h : Wn b k true last st w) (inc : Int) (h1 : 1 ≤ k) (h2 : k ≤ 12) (hm : mayID ((k : Int), inc) = true) :
    Calls Tryz.prog 4 #[.pointer (some ⟨b, 0, none⟩), .agg (opC ⟨1, (k : Int), inc, 0, 0, 0, (0, 0)⟩), .int .u32 0] w (DoW b 6 (Wn b k true last st) w) := by
  obtain ⟨row, A, cap, nd, nw, bn, hw, n1, n2, n3, n4⟩ := h
  obtain ⟨nb, hnd, hne, hc⟩ := n4 rfl
  refine (do_start b ⟨1, (k : Int), inc, 0, 0, 0, (0, 0)⟩ 0 (some ⟨nb, 0, none⟩) 6 (fun _ W' => Wn b k true last st W') w rfl hw.blk.lt (fun W hW => ?_) fun W hW => ?_).mono fun _ _ hr => says_dow hr
  · have hc : W.cell? ⟨b, 17 + k, none⟩ = some (nd k) := by rw [((hw.keep hW).blk).cell]; exact wldA_nd _ _ _ _ _ _ (by omega)
    rw [hnd] at hc
    exact wNode_in b k _ W h1 h2 hc
  · have hcW := hW.cell hc (fun e => e)
    refine (wStart_twice b bn row A cap someC nd nw st ⟨1, (k : Int), inc, 0, 0, 0, (0, 0)⟩ 0 nb W hm (hw.keep hW) hcW).mono ?_
    rintro e W' ⟨rfl, hk⟩
    exact ⟨rfl, ⟨row, A, cap, nd, nw, bn, (hw.keep hW).keep hk, n1, n2, n3, fun _ => ⟨nb, hnd, hne, hk.cell hcW (fun e => e)⟩⟩, hk.mono fun _ _ e => e.elim⟩
end
end Go.Proofs.YtlfpefnlgiohbaaGreat
