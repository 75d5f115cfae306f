/-
  An empty net; crash.
-/
import Derived.Test.YtlfpefnlgiohbaaGreatWorB
namespace Go.Proofs.YtlfpefnlgiohbaaGreat
open Go.RowKit Go
set_option maxRecDepth 100000
attribute [local irreducible] kAll kAllP
attribute [local go_sem] kQuiet kQuietUpon

/-- the cells of an array from off on -/
theorem sub_at {A : Array Value} {cs : List Value} (off : Nat) (h : (A.toList.drop off).take cs.length = cs) : ∀ j v, cs[j]? = some v → A[off + j]? = some v := by
  intro j v hj
  have hl : j < cs.length := (List.getElem?_eq_some_iff.1 hj).1
  rw [← h] at hj
  rw [List.getElem?_take_of_lt hl, List.getElem?_drop] at hj
  rw [← Array.getElem?_toList]; exact hj
theorem netAt_none (bn : Nat) (f : Value) (w : World) (hb : Blk w bn 101 #[.int .i64 4096, .slice none 0 0]) : Calls Tryz.prog 89 #[.pointer (some ⟨bn, 0, none⟩), .int .i64 0, f] w fun e w' => e = .returned (.int .i64 5) ∧ w' = w := by
  have c1 := hb.cell 1
  simp at c1
  clear hb
  go_enter Tryz.func89, Tryz.ntmps89
  go_wp2
  go_ret
  exact ⟨rfl, rfl⟩
theorem netLose_none (bn : Nat) (w : World) (hb : Blk w bn 101 #[.int .i64 4096, .slice none 0 0]) : Calls Tryz.prog 39 #[.pointer (some ⟨bn, 0, none⟩), .int .i64 0] w fun e w' => e = .returned (.int .i64 5) ∧ w' = w := by
  go_enter Tryz.func39, Tryz.ntmps39
  go_wp2_with fail
  refine (netAt_none bn _ w hb).mono ?_
  rintro e w' ⟨rfl, rfl⟩
  go_wp2
  go_ret
  exact ⟨rfl, rfl⟩
set_option maxHeartbeats 1000000 in
theorem netAt1_none (bn : Nat) (w : World) (hb : Blk w bn 101 #[.int .i64 4096, .slice none 0 0]) : Calls Tryz.prog 79 #[.pointer (some ⟨bn, 0, none⟩), .int .i64 0] w fun e w' => e = .returned (.tuple #[.string ⟨#[]⟩, .int .i64 0, .bool false]) ∧ Keep (fun _ => False) w w' := by
  go_enter Tryz.func79, Tryz.ntmps79
  go_wp2_with fail
  refine (netAt_none bn _ _ ((hb.alloc _).alloc _)).mono ?_
  rintro e w' ⟨rfl, rfl⟩
  go_upto_region 2 with (fail)
  go_region
  all_goals go_wp2
  exact bodyPost_ret (v := .tuple #[.string ⟨#[]⟩, .int .i64 0, .bool false]) (by simp [results, Tryz.results79, go_sem]) rfl ⟨rfl, (((Keep.refl _ w).alloc _).alloc _).drew⟩
set_option maxHeartbeats 1000000 in
theorem netGive_none (bn : Nat) (w : World) (hb : Blk w bn 101 #[.int .i64 4096, .slice none 0 0]) : Calls Tryz.prog 36 #[.pointer (some ⟨bn, 0, none⟩), .int .i64 0] w (Tell (.tuple #[.string ⟨#[]⟩, .int .i64 0, .int .i64 5]) w) := by
  go_enter Tryz.func36, Tryz.ntmps36
  go_wp2_with fail
  refine (netAt1_none bn _ hb).mono ?_
  rintro e W ⟨rfl, hk⟩
  have HK := Lib.hid hk
  have HB := Lib.hid (hb.keep hk (fun h => h))
  clear hk
  go_wp2_with fail
  refine (netLose_none bn _ HB.out).mono ?_
  rintro e W2 ⟨rfl, rfl⟩
  go_wp2
  go_ret3
  exact ⟨rfl, HK.out⟩
/-- an operation -/
structure OpM where
  kind : Int
  addr : Int
  inc : Int
  n : Int
  at_ : Int
  x : Int
  ab : ID
abbrev opC (o : OpM) : Array Value := #[.int .u8 o.kind, .int .i64 o.addr, .int .i64 o.inc, .int .i64 o.n, .int .i64 o.at_, .int .u32 o.x, .int .i64 o.ab.1, .int .i64 o.ab.2]
abbrev actC (o : OpM) (d : Int) (nv : Value) : Array Value := #[.int .u8 o.kind, .int .i64 o.addr, .int .i64 o.inc, .int .i64 o.n, .int .i64 o.at_, .int .u32 o.x, .int .i64 o.ab.1, .int .i64 o.ab.2, .int .u32 d, nv]
abbrev ansC : Array Value := #[.slice none 0 0, .slice none 0 0, .slice none 0 0, .slice none 0 0, .slice none 0 0, .int .i64 0, .int .i64 0, .int .u8 0, .int .u8 0, .bool false]
abbrev ansV (er : Int) : Value := .tuple #[.agg ansC, .int .i64 er]
theorem setRow_same {w : World} {g : Nat} {t : TypeId} {cs : Array Value} (h : Blk w g t cs) : w.setRow g cs = w := by
  unfold Blk at h
  unfold World.setRow
  have hlt := (Array.getElem?_eq_some_iff.1 h).1
  have he := (Array.getElem?_eq_some_iff.1 h).2
  congr 1
  apply Array.ext
  · simp
  · intro i h1 h2
    rw [Array.getElem_modify]
    split
    · next e => subst e; rw [he]
    · rfl
theorem sizeAns : (Tryz.prog.info? 34).map (·.size) = some 10 := by kernel_rfl
theorem results_ans {fn : Func} {p q : Tmp} {er : Int} (h : fn.results = #[.cell p 34, .tmp q]) (tmps : Array Value) (w : World) (g : Nat) (hb : Blk w g 34 ansC) (hp : tmps.getD p undef = .pointer (some ⟨g, 0, none⟩)) (hq : tmps.getD q undef = .int .i64 er) :
    (results fn tmps).run Tryz.prog w = .ok (ansV er) w := by
  have hp' : tmps[p]?.getD undef = .pointer (some ⟨g, 0, none⟩) := by simpa using hp
  have hq' : tmps[q]?.getD undef = .int .i64 er := by simpa using hq
  simp [results, h, hp', hq', asAddr, run_loadVar_row w g 34 34 ansC (0, 0) _ hb Tryz.underlying34 rfl sizeAns]
theorem oneAns : ansC.all (·.oneCell') = true := by kernel_rfl
set_option maxHeartbeats 2000000 in
theorem wLose_none (b bn : Nat) (row : Option Nat) (A : Option Addr) (cap : Nat) (c : NC) (nd : Nat → Value) (nw : Nat → Int) (st : Int) (o : OpM) (d : Int) (nv : Value) (w : World) (hn : o.n = 0) (hw : Wd w b row A cap c nd nw st bn) :
    Calls Tryz.prog 16 #[.pointer (some ⟨b, 0, none⟩), .agg (actC o d nv)] w (Tell (ansV 5) w) := by
  obtain ⟨kind, addr, inc, n, at_, x, ab⟩ := o
  simp only at hn
  subst hn
  have HWd := Lib.hid hw
  clear hw
  go_enter Tryz.func16, Tryz.ntmps16
  go_upto_region 1 with (fail)
  have hbx := Blk.new w 62 (actC ⟨kind, addr, inc, 0, at_, x, ab⟩ d nv)
  have hk1 := (Keep.refl (fun _ => False) w).alloc (.cells (actC ⟨kind, addr, inc, 0, at_, x, ab⟩ d nv) 62)
  have hs1 : (w.alloc (.cells (actC ⟨kind, addr, inc, 0, at_, x, ab⟩ d nv) 62)).heap.size = w.heap.size + 1 := by simp
  generalize w.alloc (.cells (actC ⟨kind, addr, inc, 0, at_, x, ab⟩ d nv) 62) = V1 at *
  have hbz := Blk.new V1 34 ansC
  have hk2 := (Keep.refl (fun _ => False) V1).alloc (.cells ansC 34)
  rw [hs1] at hbz
  generalize V1.alloc (.cells ansC 34) = V2 at *
  have HBx := Lib.hid (hbx.keep hk2 (fun h => h))
  have HBz := Lib.hid hbz
  have HK0 := Lib.hid (keep0_trans _ _ _ hk1 hk2)
  have HWd2 := Lib.hid (HWd.out.keep HK0.out)
  clear hbx hk1 hs1 hbz hk2
  refine wp_region_krip (Keep (fun _ => False)) (Keep.refl _) keep0_trans 9 (by kernel_rfl) (by kernel_rfl) (Ts := [some (.inl (.agg #[.slice none 0 0, .slice none 0 0, .slice none 0 0, .slice none 0 0, .slice none 0 0, .int .i64 0, .int .i64 0, .int .u8 0, .int .u8 0, .bool false])), none, none, none, some (.inl (.pointer (some ⟨bn, 0, none⟩))), none, none, some (.inl (.int .i64 0)), some (.inl (.int .i64 5))]) ?_
  simp only [List.take, List.drop]
  refine kAll_dn _ (fun W hW hF => kStep_of fun K Q hK => ?_) (fun K hK => ?_)
  · exact wp_build_is 34 _ rfl (l := []) (by kernel_rfl) (cells := #[.slice none 0 0, .slice none 0 0, .slice none 0 0, .slice none 0 0, .slice none 0 0, .int .i64 0, .int .i64 0, .int .u8 0, .int .u8 0, .bool false]) (by kernel_rfl) (hK _ _ (Keep.refl _ _) rfl)
  go_simp
  generalize hZ : (Act.mk _ _) = Z
  refine hK Z ?_
  subst hZ
  clear hK K
  refine kAll_p (fun K hK => ?_)
  go_simp
  generalize hZ : (Act.mk _ _) = Z
  refine hK Z ?_
  subst hZ
  clear hK K
  refine kAll_p (fun K hK => ?_)
  go_simp
  generalize hZ : (Act.mk _ _) = Z
  refine hK Z ?_
  subst hZ
  clear hK K
  refine kAll_p (fun K hK => ?_)
  go_simp
  generalize hZ : (Act.mk _ _) = Z
  refine hK Z ?_
  subst hZ
  clear hK K
  refine kAll_dn _ (fun W hW hF => kStep_of fun K Q hK => ?_) (fun K hK => ?_)
  · have c0 := (HWd2.out.blk.keep (keepD (Keep.refl _ _) hW) (fun h => h)).cell 44
    simp at c0
    go_simp
    exact hK _ _ (Keep.refl _ _) rfl
  go_simp
  generalize hZ : (Act.mk _ _) = Z
  refine hK Z ?_
  subst hZ
  clear hK K
  refine kAll_p (fun K hK => ?_)
  go_simp
  generalize hZ : (Act.mk _ _) = Z
  refine hK Z ?_
  subst hZ
  clear hK K
  refine kAll_p (fun K hK => ?_)
  go_simp
  generalize hZ : (Act.mk _ _) = Z
  refine hK Z ?_
  subst hZ
  clear hK K
  refine kAll_dn _ (fun W hW hF => kStep_of fun K Q hK => ?_) (fun K hK => ?_)
  · have c0 := (HBx.out.keep (keepD (Keep.refl _ _) hW) (fun h => h)).cell 3
    simp at c0
    go_simp
    exact hK _ _ (Keep.refl _ _) rfl
  go_simp
  generalize hZ : (Act.mk _ _) = Z
  refine hK Z ?_
  subst hZ
  clear hK K
  refine kAll_dn _ (fun W hW hF => kStep_of fun K Q hK => ?_) (fun K hK => ?_)
  · go_simp
    refine (netLose_none bn W (HWd2.out.net.keep (keepD (Keep.refl _ _) hW) (fun h => h))).mono ?_
    rintro e w' ⟨rfl, rfl⟩
    exact hK _ _ (Keep.refl _ _) rfl
  go_simp
  generalize hZ : (Act.mk _ _) = Z
  refine hK Z ?_
  subst hZ
  clear hK K
  refine kAll_nil (fun W hW hF => ?_)
  have HBz2 := Lib.hid (HBz.out.keep (keepD (Keep.refl _ _) hW) (fun h => h))
  have HKf := Lib.hid (keep0_trans _ _ _ HK0.out (keepD (Keep.refl _ _) hW))
  clear hF hW HBx HBz HK0 HWd
  go_wp2_with (first | (refine wpList_store_row rfl 34 _ _ rfl (w.heap.size + 1) ansC rfl rfl 34 _ HBz2.out sizeAns rfl oneAns ?_; rw [setRow_same HBz2.out]) | fail)
  exact bodyPost_ret (v := ansV 5) (results_ans Tryz.results16 _ _ _ HBz2.out rfl rfl) rfl ⟨rfl, HKf.out⟩
end Go.Proofs.YtlfpefnlgiohbaaGreat
