/-
  A node's parts, made new: watch, entry, holder; configurations as they lie.
-/
import Derived.Test.YtlfpefnlgiohbaaGreatNewA
import Derived.Test.YtlfpefnlgiohbaaGreatMayB
import Derived.Test.YtlfpefnlgiohbaaGreatCloA
import Derived.Test.YtlfpefnlgiohbaaGreatRowAt
import Derived.Test.YtlfpefnlgiohbaaGreatKord
namespace Go.Proofs.YtlfpefnlgiohbaaGreat
open Go.RowKit Go
set_option maxRecDepth 100000
attribute [local irreducible] kAll
attribute [local go_sem] kQuiet kQuietUpon

structure NC where
  seeds : List Int
  watch : Int
  mn : Int
  mx : Int
  window : Int
  retry : Int
  stable : Int
  unstable : Int
  strategy : Int
  quorum : Int
  alone : Bool
  weak : Bool
  delay : Int
  term : Int
  hold : Int
  queue : Int
  events : Int
abbrev ccs (s : Value) (c : NC) : List Value := [s, .int .i64 c.watch, .int .i64 c.mn, .int .i64 c.mx, .int .i64 c.window, .int .i64 c.retry, .int .i64 c.stable, .int .i64 c.unstable, .int .u8 c.strategy, .int .i64 c.quorum, .bool c.alone, .bool c.weak, .int .i64 c.delay, .int .i64 c.term, .int .i64 c.hold, .int .i64 c.queue, .int .i64 c.events]
abbrev cca (s : Value) (c : NC) : Array Value := #[s, .int .i64 c.watch, .int .i64 c.mn, .int .i64 c.mx, .int .i64 c.window, .int .i64 c.retry, .int .i64 c.stable, .int .i64 c.unstable, .int .u8 c.strategy, .int .i64 c.quorum, .bool c.alone, .bool c.weak, .int .i64 c.delay, .int .i64 c.term, .int .i64 c.hold, .int .i64 c.queue, .int .i64 c.events]
def mayNC (c : NC) : Bool := mayX c.seeds c.watch c.mn c.mx c.window c.retry c.stable c.unstable c.strategy c.quorum c.alone c.delay c.term c.hold c.queue c.events
theorem mayNC_any (c : NC) (A : Option Addr) (n cap : Nat) (w : World) (h : RdN w A n c.seeds) (hb : n ≤ 600000000) :
    Calls Tryz.prog 27 #[.agg (cca (.slice A n cap) c)] w (Tell (.bool (mayNC c)) w) :=
  mayX_any c.seeds c.watch c.mn c.mx c.window c.retry c.stable c.unstable c.strategy c.quorum c.alone c.weak c.delay c.term c.hold c.queue c.events A n cap w h hb

theorem accNew_ok (mn mx wd : Int) (w : World) (h1 : 1 ≤ mn) (h2 : mn ≤ mx) (h3 : mx ≤ 4096) (h4 : 1 ≤ wd) (h5 : wd ≤ 4096) :
    Calls Tryz.prog 123 #[.int .i64 mn, .int .i64 mx, .int .i64 wd] w (MadeE 274 #[.int .i64 mn, .int .i64 mx, .int .i64 wd, .int .i64 (-1), .slice none 0 0] w) := by
  go_enter Tryz.func123, Tryz.ntmps123
  go_wp2
  go_ret2
  exact ⟨w.heap.size, rfl, Blk.new _ _ _, Nat.le_refl _, (Keep.refl _ _).alloc _⟩
def MadeW (mn mx wd : Int) (w : World) (e : Ending) (w' : World) : Prop :=
  ∃ b m, e = .returned (.tuple #[.pointer (some ⟨b, 0, none⟩), .int .i64 0]) ∧ Blk w' b 190 #[.int .i64 mn, .int .i64 mx, .int .i64 wd, .map (some m)] ∧ w'.heap[m]? = some (.map #[] 0) ∧ w.heap.size ≤ m ∧ w.heap.size ≤ b ∧ Keep (fun _ => False) w w'
theorem watNew_ok (mn mx wd : Int) (w : World) (h1 : 1 ≤ mn) (h2 : mn ≤ mx) (h3 : mx ≤ 4096) (h4 : 1 ≤ wd) (h5 : wd ≤ 4096) :
    Calls Tryz.prog 72 #[.int .i64 mn, .int .i64 mx, .int .i64 wd] w (MadeW mn mx wd w) := by
  have hmm := @run_makeMap Tryz.prog
  go_enter Tryz.func72, Tryz.ntmps72
  go_wp2_with fail
  refine (accNew_ok mn mx wd w h1 h2 h3 h4 h5).mono ?_
  rintro e w' ⟨b, rfl, _, _, hk⟩
  have HK := Lib.hid hk
  clear hk
  go_wp2
  go_ret2
  have hs := HK.out.size
  refine ⟨w'.heap.size + 1, w'.heap.size, by simp, ?_, ?_, by omega, by omega, (HK.out.alloc _).alloc _⟩
  · exact Blk.new_ (by simp) _ _
  · exact (Below.heap_alloc _ _ _ (by simp)).trans (heap_alloc_new w' _)
def MadeEn (seeds : List Int) (retry own : Int) (w : World) (e : Ending) (w' : World) : Prop :=
  ∃ b row A c, e = .returned (.tuple #[.pointer (some ⟨b, 0, none⟩), .int .i64 0]) ∧ Blk w' b 196 #[.slice A seeds.length c, .int .i64 retry, .int .i64 own, .int .i64 0, .bool false] ∧ SlK w' 3 1 row A seeds.length c (seeds.map (Value.int .i64)) ∧
    (∀ g, row = some g → w.heap.size ≤ g) ∧ w.heap.size ≤ b ∧ Keep (fun _ => False) w w'
def NewN1 (zs : List Int) (w0 : World) (v : Value) (w : World) : Prop := ∃ row A c, v = .slice A zs.length c ∧ SlK w 3 1 row A zs.length c (zs.map (Value.int .i64)) ∧ ∀ g, row = some g → w0.heap.size ≤ g
theorem NewN1.keep0 {zs : List Int} {w0 : World} {v : Value} {w w' : World} (h : NewN1 zs w0 v w) (hk : Keep (fun _ => False) w w') : NewN1 zs w0 v w' := by
  obtain ⟨row, A, c, e, h, hr⟩ := h
  exact ⟨row, A, c, e, h.keep hk (fun _ _ h => h), hr⟩
theorem entNew_ok (c : NC) (a i : Int) (A : Option Addr) (n cap : Nat) (w : World) (hr : RdN w A n c.seeds) (h0 : 0 < n) (hn : n ≤ 1000000) (h1 : 1 ≤ c.retry) (h2 : c.retry ≤ 4096) (hm : mayID (a, i) = true) :
    Calls Tryz.prog 74 #[.agg (cca (.slice A n cap) c), .agg #[.int .i64 a, .int .i64 i]] w (MadeEn c.seeds c.retry a w) := by
  have HR := Lib.hid hr
  have HM := Lib.hid hm
  clear hr hm
  obtain ⟨seeds, x1, x2, x3, x4, retry, x6, x7, x8, x9, x10, x11, x12, x13, x14, x15, x16⟩ := c
  simp only at HR h1 h2 ⊢
  obtain rfl : n = seeds.length := (RdN.len HR.out).symm
  go_enter Tryz.func74, Tryz.ntmps74
  obtain ⟨W0, hW0⟩ : ∃ V, w.alloc (.cells (cca (.slice A seeds.length cap) ⟨seeds, x1, x2, x3, x4, retry, x6, x7, x8, x9, x10, x11, x12, x13, x14, x15, x16⟩) 45) = V := ⟨_, rfl⟩
  have hb := Blk.new w 45 (cca (.slice A seeds.length cap) ⟨seeds, x1, x2, x3, x4, retry, x6, x7, x8, x9, x10, x11, x12, x13, x14, x15, x16⟩)
  have hk : Keep (fun _ => False) w W0 := by rw [← hW0]; exact (Keep.refl _ _).alloc _
  rw [hW0] at hb
  obtain ⟨W1, hW1⟩ : ∃ V, W0.alloc (.cells #[.int .i64 a, .int .i64 i] 30) = V := ⟨_, rfl⟩
  have hb1 : Blk W1 W0.heap.size 30 #[.int .i64 a, .int .i64 i] := by rw [← hW1]; exact Blk.new _ _ _
  have hk1 : Keep (fun _ => False) W0 W1 := by rw [← hW1]; exact (Keep.refl _ _).alloc _
  have HB := Lib.hid (hb.keep hk1 (fun h => h))
  have HI := Lib.hid hb1
  have HK := Lib.hid (keep0_trans _ _ _ hk hk1)
  clear hb hb1 hk hk1
  have c5 := HB.out.cell 5
  have d0 := HI.out.cell 0
  have d1 := HI.out.cell 1
  simp at c5 d0 d1
  go_wp2_with fail
  refine (may_any (a, i) _).mono ?_
  rintro e W2 ⟨rfl, hk2⟩
  rw [HM.out]
  replace HB := Lib.hid (HB.out.keep hk2 (fun h => h))
  replace HI := Lib.hid (HI.out.keep hk2 (fun h => h))
  replace HK := Lib.hid (keep0_trans _ _ _ HK.out hk2)
  clear hk2 c5 d0 d1
  go_upto_region 3 with (fail)
  refine wp_region_krip (Keep (fun _ => False)) (Keep.refl _) keep0_trans 9 (by kernel_rfl) (by kernel_rfl) (Ts := [none, some (.inl (.slice A seeds.length cap)), some (.inr (fun v W => ∃ row_0 A1_0 c1_0, v = .slice A1_0 seeds.length c1_0 ∧ SlK W 3 1 row_0 A1_0 seeds.length c1_0 (seeds.map (Value.int .i64)) ∧ (∀ q, row_0 = some q → w.heap.size ≤ q))), none, some (.inl (.int .i64 retry)), none, some (.inl (.int .i64 a)), some (.inr (fun v W => ∃ row_0 A1_0 c1_0, v = .agg #[.slice A1_0 seeds.length c1_0, .int .i64 retry, .int .i64 a, .int .i64 0, .bool false] ∧ SlK W 3 1 row_0 A1_0 seeds.length c1_0 (seeds.map (Value.int .i64)) ∧ (∀ q, row_0 = some q → w.heap.size ≤ q))), some (.inr (fun v W => ∃ g_2 row_0 A1_0 c1_0, v = .pointer (some ⟨g_2, 0, none⟩) ∧ Blk W g_2 196 #[.slice A1_0 seeds.length c1_0, .int .i64 retry, .int .i64 a, .int .i64 0, .bool false] ∧ w.heap.size ≤ g_2 ∧ SlK W 3 1 row_0 A1_0 seeds.length c1_0 (seeds.map (Value.int .i64)) ∧ (∀ q, row_0 = some q → w.heap.size ≤ q)))]) ?_
  simp only [List.take, List.drop]
  refine kAll_p (fun K hK => ?_)
  go_simp
  generalize hZ : (Act.mk _ _) = Z
  refine hK Z ?_
  subst hZ
  clear hK K
  refine kAll_dn _ (fun W hW hF => kStep_of fun K Q hK => ?_) (fun K hK => ?_)
  · have c0 := (HB.out.keep (keepD (Keep.refl _ _) hW) (fun h => h)).cell 0
    simp at c0
    go_simp
    exact hK _ _ (Keep.refl _ _) rfl
  go_simp
  generalize hZ : (Act.mk _ _) = Z
  refine hK Z ?_
  subst hZ
  clear hK K
  refine kAll_tn _ (fun v W W' hk h => by obtain ⟨row_0, A1_0, c1_0, e, h0, h1⟩ := h; exact ⟨_, _, _, e, (h0.keep hk (fun _ _ h => h)), (h1)⟩) (fun W hW hF => kStep_of fun K Q hK => ?_) (fun u0 K hK => ?_)
  · go_simp
    refine (clone_any A seeds.length cap seeds W (HR.out.keep0 (keep0_trans _ _ _ HK.out (keepD (Keep.refl _ _) hW))) h0 (by omega)).mono ?_
    rintro e w' ⟨row, A', c', rfl, hs, hr, hk⟩
    exact hK _ _ hk ⟨row, A', c', rfl, hs, fun g hg => Nat.le_trans (keep0_trans _ _ _ HK.out (keepD (Keep.refl _ _) hW)).size (hr g hg)⟩
  go_simp
  generalize hZ : (Act.mk _ _) = Z
  refine hK Z ?_
  subst hZ
  clear hK K
  refine kAll_p (fun K hK => ?_)
  go_simp
  generalize hZ : (Act.mk _ _) = Z
  refine hK Z ?_
  subst hZ
  clear hK K
  refine kAll_dn _ (fun W hW hF => kStep_of fun K Q hK => ?_) (fun K hK => ?_)
  · have c0 := (HB.out.keep (keepD (Keep.refl _ _) hW) (fun h => h)).cell 5
    simp at c0
    go_simp
    exact hK _ _ (Keep.refl _ _) rfl
  go_simp
  generalize hZ : (Act.mk _ _) = Z
  refine hK Z ?_
  subst hZ
  clear hK K
  refine kAll_p (fun K hK => ?_)
  go_simp
  generalize hZ : (Act.mk _ _) = Z
  refine hK Z ?_
  subst hZ
  clear hK K
  refine kAll_dn _ (fun W hW hF => kStep_of fun K Q hK => ?_) (fun K hK => ?_)
  · have c0 := (HI.out.keep (keepD (Keep.refl _ _) hW) (fun h => h)).cell 0
    simp at c0
    go_simp
    exact hK _ _ (Keep.refl _ _) rfl
  go_simp
  generalize hZ : (Act.mk _ _) = Z
  refine hK Z ?_
  subst hZ
  clear hK K
  refine kAll_tn _ (fun v W W' hk h => by obtain ⟨row_0, A1_0, c1_0, e, h0, h1⟩ := h; exact ⟨_, _, _, e, (h0.keep hk (fun _ _ h => h)), (h1)⟩) (fun W hW hF => kStep_of fun K Q hK => ?_) (fun u1 K hK => ?_)
  · obtain ⟨row_0, A1_0, c1_0, rfl, k0_0, k0_1⟩ := (kHas_at hF 0 rfl (by kernel_rfl) : (fun v W => ∃ row_0 A1_0 c1_0, v = .slice A1_0 seeds.length c1_0 ∧ SlK W 3 1 row_0 A1_0 seeds.length c1_0 (seeds.map (Value.int .i64)) ∧ (∀ q, row_0 = some q → w.heap.size ≤ q)) u0 W)
    exact wp_build_is 196 _ rfl (l := [(0, .slice A1_0 seeds.length c1_0), (1, .int .i64 retry), (2, .int .i64 a)]) (by kernel_rfl) (cells := #[.slice A1_0 seeds.length c1_0, .int .i64 retry, .int .i64 a, .int .i64 0, .bool false]) (by kernel_rfl) (hK _ _ (Keep.refl _ _) ⟨_, _, _, rfl, k0_0, k0_1⟩)
  go_simp
  generalize hZ : (Act.mk _ _) = Z
  refine hK Z ?_
  subst hZ
  clear hK K
  refine kAll_tn _ (fun v W W' hk h => by obtain ⟨g_2, row_0, A1_0, c1_0, e, h0, h1, h2, h3⟩ := h; exact ⟨_, _, _, _, e, (h0.keep hk (fun h => h)), (h1), (h2.keep hk (fun _ _ h => h)), (h3)⟩) (fun W hW hF => kStep_of fun K Q hK => ?_) (fun u2 K hK => ?_)
  · obtain ⟨row_0, A1_0, c1_0, rfl, k1_0, k1_1⟩ := (kHas_at hF 0 rfl (by kernel_rfl) : (fun v W => ∃ row_0 A1_0 c1_0, v = .agg #[.slice A1_0 seeds.length c1_0, .int .i64 retry, .int .i64 a, .int .i64 0, .bool false] ∧ SlK W 3 1 row_0 A1_0 seeds.length c1_0 (seeds.map (Value.int .i64)) ∧ (∀ q, row_0 = some q → w.heap.size ≤ q)) u1 W)
    go_simp
    exact hK _ _ ((Keep.refl _ _).alloc _) ⟨_, _, _, _, rfl, Blk.new _ _ _, (keep0_trans _ _ _ HK.out (keepD (Keep.refl _ _) hW)).size, k1_0.keep ((Keep.refl (fun _ => False) _).alloc _) (fun _ _ h => h), k1_1⟩
  go_simp
  generalize hZ : (Act.mk _ _) = Z
  refine hK Z ?_
  subst hZ
  clear hK K
  refine kAll_nil (fun W hW hF => ?_)
  obtain ⟨g, row, A1, c1, rfl, hb, hl, hs, hr⟩ := (kAllHas_at hF 0 rfl : (fun v W => ∃ g_2 row_0 A1_0 c1_0, v = .pointer (some ⟨g_2, 0, none⟩) ∧ Blk W g_2 196 #[.slice A1_0 seeds.length c1_0, .int .i64 retry, .int .i64 a, .int .i64 0, .bool false] ∧ w.heap.size ≤ g_2 ∧ SlK W 3 1 row_0 A1_0 seeds.length c1_0 (seeds.map (Value.int .i64)) ∧ (∀ q, row_0 = some q → w.heap.size ≤ q)) u2 W)
  have HB2 := Lib.hid hb
  have HS := Lib.hid hs
  have HRw := Lib.hid hr
  have HL := Lib.hid hl
  have HKK := Lib.hid (keep0_trans _ _ _ HK.out (keepD (Keep.refl _ _) hW))
  clear hb hs hr hl hF hW HB HI HK
  go_wp2
  go_ret2
  exact ⟨g, row, A1, c1, rfl, HB2.out, HS.out, HRw.out, HL.out, HKK.out⟩
end Go.Proofs.YtlfpefnlgiohbaaGreat
