/-
  A node made new: its holder, and what New does one behind the other. Written by gen_newd.py.
-/
import Derived.Test.YtlfpefnlgiohbaaGreatNewC
namespace Go.Proofs.YtlfpefnlgiohbaaGreat
open Go.RowKit Go
set_option maxRecDepth 100000
attribute [local irreducible] kAll kAllP
attribute [local go_sem] kQuiet kQuietUpon

theorem makeHolder_none (b : Nat) (cs : Array Value) (s : Int) (w : World) (hb : Blk w b 115 cs) (hs : cs[8]? = some (.int .u8 s)) (h4 : s ≠ 4) :
    Calls Tryz.prog 78 #[.pointer (some ⟨b, 0, none⟩)] w fun e w' => e = .returned (.int .i64 0) ∧ w' = w := by
  have c8 : w.cell? ⟨b, 8, none⟩ = some (.int .u8 s) := by rw [hb.cell]; exact hs
  clear hb hs
  go_enter Tryz.func78, Tryz.ntmps78
  go_wp2
  go_ret
  exact ⟨rfl, rfl⟩
theorem far_set {w : World} {g : Nat} {t : TypeId} {cs : Array Value} (h : Blk w g t cs) {b j : Nat} (hn : ¬ g = b) (v : Value) : Blk (w.setCell ⟨b, j, none⟩ v) g t cs := h.far (p := ⟨b, j, none⟩) hn v
theorem mapFar {w : World} {m b j : Nat} (h : w.heap[m]? = some (.map #[] 0)) (hn : ¬ m = b) (v : Value) : (w.setCell ⟨b, j, none⟩ v).heap[m]? = some (.map #[] 0) := (Below.heap_setCell w ⟨b, j, none⟩ v m hn).trans h
set_option maxHeartbeats 2000000 in
theorem new1_ok (bc bn b : Nat) (cs : Array Value) (s : Value) (c : NC) (w : World) (hc : Blk w bc 45 (cca s c)) (hn : Blk w bn 49 #[.pointer (some ⟨b, 0, none⟩)]) (hb : Blk w b 115 cs) (hz : cs.size = 55) (h1 : 1 ≤ c.mn) (h2 : c.mn ≤ c.mx) (h3 : c.mx ≤ 4096) (h4 : 1 ≤ c.window) (h5 : c.window ≤ 4096) :
    Calls Tryz.prog 71 #[.pointer (some ⟨bc, 0, none⟩), .pointer (some ⟨bn, 0, none⟩)] w fun e w' => e = .returned (.int .i64 0) ∧ (∃ g m, Blk w' b 115 (cs.setIfInBounds 39 (.pointer (some ⟨g, 0, none⟩))) ∧ Blk w' g 190 #[.int .i64 c.mn, .int .i64 c.mx, .int .i64 c.window, .map (some m)] ∧ w'.heap[m]? = some (.map #[] 0) ∧ w.heap.size ≤ g ∧ w.heap.size ≤ m) ∧ Keep (fun g => g = b) w w' := by
  have HC := Lib.hid hc
  have HN := Lib.hid hn
  have HB := Lib.hid hb
  have NEc := Lib.hid (show ¬ bc = b from fun e => (Blk.ne_ hc hb (by decide)) e)
  have NEn := Lib.hid (show ¬ bn = b from fun e => (Blk.ne_ hn hb (by decide)) e)
  have HO : Hid (∀ j v, cs[j]? = some v → w.cell? ⟨b, j, none⟩ = some v) := Lib.hid fun j v hj => by rw [HB.out.cell]; exact hj
  obtain ⟨vk, hvk⟩ : ∃ v, cs[39]? = some v := ⟨_, Array.getElem?_eq_getElem (by omega)⟩
  have HV := Lib.hid hvk
  have hlb := hb.lt
  have HLB := Lib.hid hlb
  clear hc hn hb hz hvk hlb
  go_enter Tryz.func71, Tryz.ntmps71
  go_upto_region 1 with (fail)
  refine wp_region_kpiv (KeepC b 39) (Keep (fun _ => False)) 13 (KeepC.refl _ _) (KeepC.trans _ _) (Keep.refl _) keep0_trans (KeepC.of0 _ _) 14 (by kernel_rfl) (by kernel_rfl) (Ts := [some (.inl (.pointer (some ⟨b, 0, none⟩))), none, some (.inl (.int .i64 c.mn)), none, some (.inl (.int .i64 c.mx)), none, some (.inl (.int .i64 c.window)), some (.inr (fun v W => ∃ g_0 m_0, v = .tuple #[.pointer (some ⟨g_0, 0, none⟩), .int .i64 0] ∧ Blk W g_0 190 #[.int .i64 c.mn, .int .i64 c.mx, .int .i64 c.window, .map (some m_0)] ∧ W.heap[m_0]? = some (.map #[] 0) ∧ w.heap.size ≤ g_0 ∧ ¬ g_0 = b ∧ ¬ m_0 = b ∧ w.heap.size ≤ m_0)), some (.inr (fun v W => ∃ g_0 m_0, v = .tuple #[.pointer (some ⟨g_0, 0, none⟩), .int .i64 0] ∧ Blk W g_0 190 #[.int .i64 c.mn, .int .i64 c.mx, .int .i64 c.window, .map (some m_0)] ∧ W.heap[m_0]? = some (.map #[] 0) ∧ w.heap.size ≤ g_0 ∧ ¬ g_0 = b ∧ ¬ m_0 = b ∧ w.heap.size ≤ m_0)), some (.inr (fun v W => ∃ g_0 m_0, v = .pointer (some ⟨g_0, 0, none⟩) ∧ Blk W g_0 190 #[.int .i64 c.mn, .int .i64 c.mx, .int .i64 c.window, .map (some m_0)] ∧ W.heap[m_0]? = some (.map #[] 0) ∧ w.heap.size ≤ g_0 ∧ ¬ g_0 = b ∧ ¬ m_0 = b ∧ w.heap.size ≤ m_0)), some (.inl (.int .i64 0)), none, none, some (.inr (fun v W => ∃ g_0 m_0, v = undef ∧ Blk W b 115 (cs.setIfInBounds 39 (.pointer (some ⟨g_0, 0, none⟩))) ∧ Blk W g_0 190 #[.int .i64 c.mn, .int .i64 c.mx, .int .i64 c.window, .map (some m_0)] ∧ W.heap[m_0]? = some (.map #[] 0) ∧ w.heap.size ≤ g_0 ∧ ¬ g_0 = b ∧ ¬ m_0 = b ∧ w.heap.size ≤ m_0))]) ?_
  simp only [List.take, List.drop]
  refine kAllP_dn _ (by decide) (fun W hW hF => kStep_of fun K Q hK => ?_) (fun K hK => ?_)
  · have c0 := (HN.out.keep (KeepC.d hW).1 (fun e => NEn.out e)).cell 0
    simp at c0
    go_simp
    exact hK _ _ (Keep.refl _ _) rfl
  go_simp
  generalize hZ : (Act.mk _ _) = Z
  refine hK Z ?_
  subst hZ
  clear hK K
  refine kAllP_p (fun K hK => ?_)
  go_simp
  generalize hZ : (Act.mk _ _) = Z
  refine hK Z ?_
  subst hZ
  clear hK K
  refine kAllP_dn _ (by decide) (fun W hW hF => kStep_of fun K Q hK => ?_) (fun K hK => ?_)
  · have c0 := (HC.out.keep (KeepC.d hW).1 (fun e => NEc.out e)).cell 2
    simp at c0
    go_simp
    exact hK _ _ (Keep.refl _ _) rfl
  go_simp
  generalize hZ : (Act.mk _ _) = Z
  refine hK Z ?_
  subst hZ
  clear hK K
  refine kAllP_p (fun K hK => ?_)
  go_simp
  generalize hZ : (Act.mk _ _) = Z
  refine hK Z ?_
  subst hZ
  clear hK K
  refine kAllP_dn _ (by decide) (fun W hW hF => kStep_of fun K Q hK => ?_) (fun K hK => ?_)
  · have c0 := (HC.out.keep (KeepC.d hW).1 (fun e => NEc.out e)).cell 3
    simp at c0
    go_simp
    exact hK _ _ (Keep.refl _ _) rfl
  go_simp
  generalize hZ : (Act.mk _ _) = Z
  refine hK Z ?_
  subst hZ
  clear hK K
  refine kAllP_p (fun K hK => ?_)
  go_simp
  generalize hZ : (Act.mk _ _) = Z
  refine hK Z ?_
  subst hZ
  clear hK K
  refine kAllP_dn _ (by decide) (fun W hW hF => kStep_of fun K Q hK => ?_) (fun K hK => ?_)
  · have c0 := (HC.out.keep (KeepC.d hW).1 (fun e => NEc.out e)).cell 4
    simp at c0
    go_simp
    exact hK _ _ (Keep.refl _ _) rfl
  go_simp
  generalize hZ : (Act.mk _ _) = Z
  refine hK Z ?_
  subst hZ
  clear hK K
  refine kAllP_un _ (by decide) (fun v W W' hk h => by obtain ⟨g_0, m_0, e, h0, h1, h2, h3, h4, h5⟩ := h; exact ⟨_, _, e, (h0.keep hk.1 h3), (hk.1.heap h1 h4), (h2), (h3), (h4), (h5)⟩) (fun W hW hF => kStep_of fun K Q hK => ?_) (fun u0 K hK => ?_)
  · go_simp
    refine (watNew_ok c.mn c.mx c.window W (by omega) (by omega) (by omega) (by omega) (by omega)).mono ?_
    rintro e w' ⟨g, m, rfl, hb, hm, h1, h2, hk⟩
    have hz := (KeepC.d hW).1.size
    have hl := HLB.out
    exact hK _ _ hk ⟨g, m, rfl, hb, hm, by omega, by omega, by omega, by omega⟩
  go_simp
  generalize hZ : (Act.mk _ _) = Z
  refine hK Z ?_
  subst hZ
  clear hK K
  refine kAllP_un _ (by decide) (fun v W W' hk h => by obtain ⟨g_0, m_0, e, h0, h1, h2, h3, h4, h5⟩ := h; exact ⟨_, _, e, (h0.keep hk.1 h3), (hk.1.heap h1 h4), (h2), (h3), (h4), (h5)⟩) (fun W hW hF => kStep_of fun K Q hK => ?_) (fun u1 K hK => ?_)
  · obtain ⟨g_0, m_0, rfl, k0_0, k0_1, k0_2, k0_3, k0_4, k0_5⟩ := (kHas_at hF 0 rfl (by kernel_rfl) : (fun v W => ∃ g_0 m_0, v = .tuple #[.pointer (some ⟨g_0, 0, none⟩), .int .i64 0] ∧ Blk W g_0 190 #[.int .i64 c.mn, .int .i64 c.mx, .int .i64 c.window, .map (some m_0)] ∧ W.heap[m_0]? = some (.map #[] 0) ∧ w.heap.size ≤ g_0 ∧ ¬ g_0 = b ∧ ¬ m_0 = b ∧ w.heap.size ≤ m_0) u0 W)
    go_simp
    exact hK _ _ (Keep.refl _ _) ⟨_, _, rfl, k0_0, k0_1, k0_2, k0_3, k0_4, k0_5⟩
  go_simp
  generalize hZ : (Act.mk _ _) = Z
  refine hK Z ?_
  subst hZ
  clear hK K
  refine kAllP_un _ (by decide) (fun v W W' hk h => by obtain ⟨g_0, m_0, e, h0, h1, h2, h3, h4, h5⟩ := h; exact ⟨_, _, e, (h0.keep hk.1 h3), (hk.1.heap h1 h4), (h2), (h3), (h4), (h5)⟩) (fun W hW hF => kStep_of fun K Q hK => ?_) (fun u2 K hK => ?_)
  · obtain ⟨g_0, m_0, rfl, k1_0, k1_1, k1_2, k1_3, k1_4, k1_5⟩ := (kHas_at hF 0 rfl (by kernel_rfl) : (fun v W => ∃ g_0 m_0, v = .tuple #[.pointer (some ⟨g_0, 0, none⟩), .int .i64 0] ∧ Blk W g_0 190 #[.int .i64 c.mn, .int .i64 c.mx, .int .i64 c.window, .map (some m_0)] ∧ W.heap[m_0]? = some (.map #[] 0) ∧ w.heap.size ≤ g_0 ∧ ¬ g_0 = b ∧ ¬ m_0 = b ∧ w.heap.size ≤ m_0) u1 W)
    go_simp
    exact hK _ _ (Keep.refl _ _) ⟨_, _, rfl, k1_0, k1_1, k1_2, k1_3, k1_4, k1_5⟩
  go_simp
  generalize hZ : (Act.mk _ _) = Z
  refine hK Z ?_
  subst hZ
  clear hK K
  refine kAllP_dn _ (by decide) (fun W hW hF => kStep_of fun K Q hK => ?_) (fun K hK => ?_)
  · obtain ⟨g_0, m_0, rfl, k1_0, k1_1, k1_2, k1_3, k1_4, k1_5⟩ := (kHas_at hF 1 rfl (by kernel_rfl) : (fun v W => ∃ g_0 m_0, v = .tuple #[.pointer (some ⟨g_0, 0, none⟩), .int .i64 0] ∧ Blk W g_0 190 #[.int .i64 c.mn, .int .i64 c.mx, .int .i64 c.window, .map (some m_0)] ∧ W.heap[m_0]? = some (.map #[] 0) ∧ w.heap.size ≤ g_0 ∧ ¬ g_0 = b ∧ ¬ m_0 = b ∧ w.heap.size ≤ m_0) u1 W)
    go_simp
    exact hK _ _ (Keep.refl _ _) rfl
  go_simp
  generalize hZ : (Act.mk _ _) = Z
  refine hK Z ?_
  subst hZ
  clear hK K
  refine kAllP_p (fun K hK => ?_)
  go_simp
  generalize hZ : (Act.mk _ _) = Z
  refine hK Z ?_
  subst hZ
  clear hK K
  refine kAllP_p (fun K hK => ?_)
  go_simp
  generalize hZ : (Act.mk _ _) = Z
  refine hK Z ?_
  subst hZ
  clear hK K
  refine kAllP_tn _ rfl (fun v W W' hk h =>  by obtain ⟨g_0, m_0, e, h0, h1, h2, h3, h4, h5, h6⟩ := h; exact ⟨_, _, e, (h0.keep hk (fun h => h)), (h1.keep hk (fun h => h)), (hk.heap h2 (fun h => h)), (h3), (h4), (h5), (h6)⟩) (fun W hW hF => kStep_of fun K Q hK => ?_) (fun u3 K hK => ?_)
  · obtain ⟨g_0, m_0, rfl, k2_0, k2_1, k2_2, k2_3, k2_4, k2_5⟩ := (kHas_at hF 0 rfl (by kernel_rfl) : (fun v W => ∃ g_0 m_0, v = .pointer (some ⟨g_0, 0, none⟩) ∧ Blk W g_0 190 #[.int .i64 c.mn, .int .i64 c.mx, .int .i64 c.window, .map (some m_0)] ∧ W.heap[m_0]? = some (.map #[] 0) ∧ w.heap.size ≤ g_0 ∧ ¬ g_0 = b ∧ ¬ m_0 = b ∧ w.heap.size ≤ m_0) u2 W)
    have hbW := HB.out.keep (keepD (Keep.refl _ _) hW) (fun h => h)
    have c0 := (keepD (Keep.refl (fun _ => False) _) hW).cell (HO.out _ _ HV.out) (fun h => h)
    have f0 := hbW.frozen 39
    go_simp
    exact hK undef _ (KeepC.set b 39 W _) ⟨_, _, rfl, hbW.set_ _ _, far_set k2_0 k2_3 _, (mapFar k2_1 k2_4 _), k2_2, k2_3, k2_4, k2_5⟩
  go_simp
  generalize hZ : (Act.mk _ _) = Z
  refine hK Z ?_
  subst hZ
  clear hK K
  refine kAllP_nil (fun W hW hF => ?_)
  obtain ⟨g, m, _, k1, k2, k3, k4, _, _, k7⟩ := (kAllHas_at hF 0 rfl : (fun v W => ∃ g_0 m_0, v = undef ∧ Blk W b 115 (cs.setIfInBounds 39 (.pointer (some ⟨g_0, 0, none⟩))) ∧ Blk W g_0 190 #[.int .i64 c.mn, .int .i64 c.mx, .int .i64 c.window, .map (some m_0)] ∧ W.heap[m_0]? = some (.map #[] 0) ∧ w.heap.size ≤ g_0 ∧ ¬ g_0 = b ∧ ¬ m_0 = b ∧ w.heap.size ≤ m_0) _ W)
  have HS : Hid ((∃ g m, Blk W b 115 (cs.setIfInBounds 39 (.pointer (some ⟨g, 0, none⟩))) ∧ Blk W g 190 #[.int .i64 c.mn, .int .i64 c.mx, .int .i64 c.window, .map (some m)] ∧ W.heap[m]? = some (.map #[] 0) ∧ w.heap.size ≤ g ∧ w.heap.size ≤ m) ∧ Keep (fun g => g = b) w W) := Lib.hid ⟨⟨g, m, k1, k2, k3, k4, k7⟩, (KeepC.d hW).1⟩
  clear hF hW  HC HN HB NEc NEn HO HV HLB
  go_wp2
  go_ret
  exact ⟨rfl, HS.out.1, HS.out.2⟩
set_option maxHeartbeats 2000000 in
theorem new2_ok (bc bn bi b : Nat) (cs : Array Value) (c : NC) (me : ID) (A : Option Addr) (cap : Nat) (w : World) (hc : Blk w bc 45 (cca (.slice A c.seeds.length cap) c)) (hn : Blk w bn 49 #[.pointer (some ⟨b, 0, none⟩)]) (hi : Blk w bi 30 #[.int .i64 me.1, .int .i64 me.2]) (hb : Blk w b 115 cs) (hz : cs.size = 55) (row : Option Nat) (hsl : SlK w 3 1 row A c.seeds.length cap (c.seeds.map (Value.int .i64))) (hl0 : 0 < c.seeds.length) (hl1 : c.seeds.length ≤ 1000000) (hm : mayID me = true) (h1 : 1 ≤ c.retry) (h2 : c.retry ≤ 4096) :
    Calls Tryz.prog 73 #[.pointer (some ⟨bc, 0, none⟩), .pointer (some ⟨bi, 0, none⟩), .pointer (some ⟨bn, 0, none⟩)] w fun e w' => e = .returned (.int .i64 0) ∧ (∃ g row1 A1 c1, Blk w' b 115 (cs.setIfInBounds 41 (.pointer (some ⟨g, 0, none⟩))) ∧ Blk w' g 196 #[.slice A1 c.seeds.length c1, .int .i64 c.retry, .int .i64 me.1, .int .i64 0, .bool false] ∧ SlK w' 3 1 row1 A1 c.seeds.length c1 (c.seeds.map (Value.int .i64)) ∧ w.heap.size ≤ g ∧ (∀ q, row1 = some q → w.heap.size ≤ q)) ∧ Keep (fun g => g = b) w w' := by
  have HC := Lib.hid hc
  have HN := Lib.hid hn
  have HI := Lib.hid hi
  have NEi := Lib.hid (show ¬ bi = b from fun e => (Blk.ne_ hi hb (by decide)) e)
  have NEs := Lib.hid (show ∀ q, row = some q → ¬ q = b from fun q hq e => hsl.row_ne hb (by decide) (by rw [hq, e]))
  have HSl := Lib.hid hsl
  have HL0 := Lib.hid hl0
  have HL1 := Lib.hid hl1
  have HM := Lib.hid hm
  have HB := Lib.hid hb
  have NEc := Lib.hid (show ¬ bc = b from fun e => (Blk.ne_ hc hb (by decide)) e)
  have NEn := Lib.hid (show ¬ bn = b from fun e => (Blk.ne_ hn hb (by decide)) e)
  have HO : Hid (∀ j v, cs[j]? = some v → w.cell? ⟨b, j, none⟩ = some v) := Lib.hid fun j v hj => by rw [HB.out.cell]; exact hj
  obtain ⟨vk, hvk⟩ : ∃ v, cs[41]? = some v := ⟨_, Array.getElem?_eq_getElem (by omega)⟩
  have HV := Lib.hid hvk
  have hlb := hb.lt
  have HLB := Lib.hid hlb
  clear hc hn hb hz hvk hlb hi hsl hl0 hl1 hm
  go_enter Tryz.func73, Tryz.ntmps73
  go_upto_region 1 with (fail)
  refine wp_region_kpiv (KeepC b 41) (Keep (fun _ => False)) 9 (KeepC.refl _ _) (KeepC.trans _ _) (Keep.refl _) keep0_trans (KeepC.of0 _ _) 10 (by kernel_rfl) (by kernel_rfl) (Ts := [some (.inl (.pointer (some ⟨b, 0, none⟩))), some (.inl (.agg #[.slice A c.seeds.length cap, .int .i64 c.watch, .int .i64 c.mn, .int .i64 c.mx, .int .i64 c.window, .int .i64 c.retry, .int .i64 c.stable, .int .i64 c.unstable, .int .u8 c.strategy, .int .i64 c.quorum, .bool c.alone, .bool c.weak, .int .i64 c.delay, .int .i64 c.term, .int .i64 c.hold, .int .i64 c.queue, .int .i64 c.events])), some (.inl (.agg #[.int .i64 me.1, .int .i64 me.2])), some (.inr (fun v W => ∃ g_0 row1_0 A1_0 c1_0, v = .tuple #[.pointer (some ⟨g_0, 0, none⟩), .int .i64 0] ∧ Blk W g_0 196 #[.slice A1_0 c.seeds.length c1_0, .int .i64 c.retry, .int .i64 me.1, .int .i64 0, .bool false] ∧ SlK W 3 1 row1_0 A1_0 c.seeds.length c1_0 (c.seeds.map (Value.int .i64)) ∧ w.heap.size ≤ g_0 ∧ ¬ g_0 = b ∧ (∀ q, row1_0 = some q → ¬ q = b) ∧ (∀ q, row1_0 = some q → w.heap.size ≤ q))), some (.inr (fun v W => ∃ g_0 row1_0 A1_0 c1_0, v = .tuple #[.pointer (some ⟨g_0, 0, none⟩), .int .i64 0] ∧ Blk W g_0 196 #[.slice A1_0 c.seeds.length c1_0, .int .i64 c.retry, .int .i64 me.1, .int .i64 0, .bool false] ∧ SlK W 3 1 row1_0 A1_0 c.seeds.length c1_0 (c.seeds.map (Value.int .i64)) ∧ w.heap.size ≤ g_0 ∧ ¬ g_0 = b ∧ (∀ q, row1_0 = some q → ¬ q = b) ∧ (∀ q, row1_0 = some q → w.heap.size ≤ q))), some (.inr (fun v W => ∃ g_0 row1_0 A1_0 c1_0, v = .pointer (some ⟨g_0, 0, none⟩) ∧ Blk W g_0 196 #[.slice A1_0 c.seeds.length c1_0, .int .i64 c.retry, .int .i64 me.1, .int .i64 0, .bool false] ∧ SlK W 3 1 row1_0 A1_0 c.seeds.length c1_0 (c.seeds.map (Value.int .i64)) ∧ w.heap.size ≤ g_0 ∧ ¬ g_0 = b ∧ (∀ q, row1_0 = some q → ¬ q = b) ∧ (∀ q, row1_0 = some q → w.heap.size ≤ q))), some (.inl (.int .i64 0)), none, none, some (.inr (fun v W => ∃ g_0 row1_0 A1_0 c1_0, v = undef ∧ Blk W b 115 (cs.setIfInBounds 41 (.pointer (some ⟨g_0, 0, none⟩))) ∧ Blk W g_0 196 #[.slice A1_0 c.seeds.length c1_0, .int .i64 c.retry, .int .i64 me.1, .int .i64 0, .bool false] ∧ SlK W 3 1 row1_0 A1_0 c.seeds.length c1_0 (c.seeds.map (Value.int .i64)) ∧ w.heap.size ≤ g_0 ∧ ¬ g_0 = b ∧ (∀ q, row1_0 = some q → ¬ q = b) ∧ (∀ q, row1_0 = some q → w.heap.size ≤ q)))]) ?_
  simp only [List.take, List.drop]
  refine kAllP_dn _ (by decide) (fun W hW hF => kStep_of fun K Q hK => ?_) (fun K hK => ?_)
  · have c0 := (HN.out.keep (KeepC.d hW).1 (fun e => NEn.out e)).cell 0
    simp at c0
    go_simp
    exact hK _ _ (Keep.refl _ _) rfl
  go_simp
  generalize hZ : (Act.mk _ _) = Z
  refine hK Z ?_
  subst hZ
  clear hK K
  refine kAllP_dn _ (by decide) (fun W hW hF => kStep_of fun K Q hK => ?_) (fun K hK => ?_)
  · exact wp_load_row 45 _ rfl _ rfl 45 _ (0, 0) _ (HC.out.keep (KeepC.d hW).1 (fun e => NEc.out e)) Tryz.underlying45 rfl (by kernel_rfl) (hK _ _ (Keep.refl _ _) rfl)
  go_simp
  generalize hZ : (Act.mk _ _) = Z
  refine hK Z ?_
  subst hZ
  clear hK K
  refine kAllP_dn _ (by decide) (fun W hW hF => kStep_of fun K Q hK => ?_) (fun K hK => ?_)
  · have c0 := (HI.out.keep (KeepC.d hW).1 (fun e => NEi.out e)).cell 0
    have c1 := (HI.out.keep (KeepC.d hW).1 (fun e => NEi.out e)).cell 1
    simp at c0 c1
    go_simp
    exact hK _ _ (Keep.refl _ _) rfl
  go_simp
  generalize hZ : (Act.mk _ _) = Z
  refine hK Z ?_
  subst hZ
  clear hK K
  refine kAllP_un _ (by decide) (fun v W W' hk h => by obtain ⟨g_0, row1_0, A1_0, c1_0, e, h0, h1, h2, h3, h4, h5⟩ := h; exact ⟨_, _, _, _, e, (h0.keep hk.1 h3), (h1.keep hk.1 h4), (h2), (h3), (h4), (h5)⟩) (fun W hW hF => kStep_of fun K Q hK => ?_) (fun u0 K hK => ?_)
  · go_simp
    have hrd := (HSl.out.keep (KeepC.d hW).1 (fun q hq e => NEs.out q hq e)).rd
    refine (entNew_ok c me.1 me.2 A c.seeds.length cap W hrd HL0.out (by have := HL1.out; omega) (by omega) (by omega) HM.out).mono ?_
    rintro e w' ⟨g, row1, A1, c1, rfl, hb, hs, hr, hl, hk⟩
    have hz := (KeepC.d hW).1.size
    have hlb := HLB.out
    exact hK _ _ hk ⟨g, row1, A1, c1, rfl, hb, hs, by omega, by omega, fun q hq e => by have := hr q hq; omega, fun q hq => by have := hr q hq; omega⟩
  go_simp
  generalize hZ : (Act.mk _ _) = Z
  refine hK Z ?_
  subst hZ
  clear hK K
  refine kAllP_un _ (by decide) (fun v W W' hk h => by obtain ⟨g_0, row1_0, A1_0, c1_0, e, h0, h1, h2, h3, h4, h5⟩ := h; exact ⟨_, _, _, _, e, (h0.keep hk.1 h3), (h1.keep hk.1 h4), (h2), (h3), (h4), (h5)⟩) (fun W hW hF => kStep_of fun K Q hK => ?_) (fun u1 K hK => ?_)
  · obtain ⟨g_0, row1_0, A1_0, c1_0, rfl, k0_0, k0_1, k0_2, k0_3, k0_4, k0_5⟩ := (kHas_at hF 0 rfl (by kernel_rfl) : (fun v W => ∃ g_0 row1_0 A1_0 c1_0, v = .tuple #[.pointer (some ⟨g_0, 0, none⟩), .int .i64 0] ∧ Blk W g_0 196 #[.slice A1_0 c.seeds.length c1_0, .int .i64 c.retry, .int .i64 me.1, .int .i64 0, .bool false] ∧ SlK W 3 1 row1_0 A1_0 c.seeds.length c1_0 (c.seeds.map (Value.int .i64)) ∧ w.heap.size ≤ g_0 ∧ ¬ g_0 = b ∧ (∀ q, row1_0 = some q → ¬ q = b) ∧ (∀ q, row1_0 = some q → w.heap.size ≤ q)) u0 W)
    go_simp
    exact hK _ _ (Keep.refl _ _) ⟨_, _, _, _, rfl, k0_0, k0_1, k0_2, k0_3, k0_4, k0_5⟩
  go_simp
  generalize hZ : (Act.mk _ _) = Z
  refine hK Z ?_
  subst hZ
  clear hK K
  refine kAllP_un _ (by decide) (fun v W W' hk h => by obtain ⟨g_0, row1_0, A1_0, c1_0, e, h0, h1, h2, h3, h4, h5⟩ := h; exact ⟨_, _, _, _, e, (h0.keep hk.1 h3), (h1.keep hk.1 h4), (h2), (h3), (h4), (h5)⟩) (fun W hW hF => kStep_of fun K Q hK => ?_) (fun u2 K hK => ?_)
  · obtain ⟨g_0, row1_0, A1_0, c1_0, rfl, k1_0, k1_1, k1_2, k1_3, k1_4, k1_5⟩ := (kHas_at hF 0 rfl (by kernel_rfl) : (fun v W => ∃ g_0 row1_0 A1_0 c1_0, v = .tuple #[.pointer (some ⟨g_0, 0, none⟩), .int .i64 0] ∧ Blk W g_0 196 #[.slice A1_0 c.seeds.length c1_0, .int .i64 c.retry, .int .i64 me.1, .int .i64 0, .bool false] ∧ SlK W 3 1 row1_0 A1_0 c.seeds.length c1_0 (c.seeds.map (Value.int .i64)) ∧ w.heap.size ≤ g_0 ∧ ¬ g_0 = b ∧ (∀ q, row1_0 = some q → ¬ q = b) ∧ (∀ q, row1_0 = some q → w.heap.size ≤ q)) u1 W)
    go_simp
    exact hK _ _ (Keep.refl _ _) ⟨_, _, _, _, rfl, k1_0, k1_1, k1_2, k1_3, k1_4, k1_5⟩
  go_simp
  generalize hZ : (Act.mk _ _) = Z
  refine hK Z ?_
  subst hZ
  clear hK K
  refine kAllP_dn _ (by decide) (fun W hW hF => kStep_of fun K Q hK => ?_) (fun K hK => ?_)
  · obtain ⟨g_0, row1_0, A1_0, c1_0, rfl, k1_0, k1_1, k1_2, k1_3, k1_4, k1_5⟩ := (kHas_at hF 1 rfl (by kernel_rfl) : (fun v W => ∃ g_0 row1_0 A1_0 c1_0, v = .tuple #[.pointer (some ⟨g_0, 0, none⟩), .int .i64 0] ∧ Blk W g_0 196 #[.slice A1_0 c.seeds.length c1_0, .int .i64 c.retry, .int .i64 me.1, .int .i64 0, .bool false] ∧ SlK W 3 1 row1_0 A1_0 c.seeds.length c1_0 (c.seeds.map (Value.int .i64)) ∧ w.heap.size ≤ g_0 ∧ ¬ g_0 = b ∧ (∀ q, row1_0 = some q → ¬ q = b) ∧ (∀ q, row1_0 = some q → w.heap.size ≤ q)) u1 W)
    go_simp
    exact hK _ _ (Keep.refl _ _) rfl
  go_simp
  generalize hZ : (Act.mk _ _) = Z
  refine hK Z ?_
  subst hZ
  clear hK K
  refine kAllP_p (fun K hK => ?_)
  go_simp
  generalize hZ : (Act.mk _ _) = Z
  refine hK Z ?_
  subst hZ
  clear hK K
  refine kAllP_p (fun K hK => ?_)
  go_simp
  generalize hZ : (Act.mk _ _) = Z
  refine hK Z ?_
  subst hZ
  clear hK K
  refine kAllP_tn _ rfl (fun v W W' hk h =>  by obtain ⟨g_0, row1_0, A1_0, c1_0, e, h0, h1, h2, h3, h4, h5, h6⟩ := h; exact ⟨_, _, _, _, e, (h0.keep hk (fun h => h)), (h1.keep hk (fun h => h)), (h2.keep hk (fun _ _ h => h)), (h3), (h4), (h5), (h6)⟩) (fun W hW hF => kStep_of fun K Q hK => ?_) (fun u3 K hK => ?_)
  · obtain ⟨g_0, row1_0, A1_0, c1_0, rfl, k2_0, k2_1, k2_2, k2_3, k2_4, k2_5⟩ := (kHas_at hF 0 rfl (by kernel_rfl) : (fun v W => ∃ g_0 row1_0 A1_0 c1_0, v = .pointer (some ⟨g_0, 0, none⟩) ∧ Blk W g_0 196 #[.slice A1_0 c.seeds.length c1_0, .int .i64 c.retry, .int .i64 me.1, .int .i64 0, .bool false] ∧ SlK W 3 1 row1_0 A1_0 c.seeds.length c1_0 (c.seeds.map (Value.int .i64)) ∧ w.heap.size ≤ g_0 ∧ ¬ g_0 = b ∧ (∀ q, row1_0 = some q → ¬ q = b) ∧ (∀ q, row1_0 = some q → w.heap.size ≤ q)) u2 W)
    have hbW := HB.out.keep (keepD (Keep.refl _ _) hW) (fun h => h)
    have c0 := (keepD (Keep.refl (fun _ => False) _) hW).cell (HO.out _ _ HV.out) (fun h => h)
    have f0 := hbW.frozen 41
    go_simp
    exact hK undef _ (KeepC.set b 41 W _) ⟨_, _, _, _, rfl, hbW.set_ _ _, far_set k2_0 k2_3 _, (SlK.keep k2_1 ((Keep.refl (fun g => g = b) W).setCell (p := ⟨b, 41, none⟩) (fun _ => rfl) _) (fun q hq e => k2_4 q hq e)), k2_2, k2_3, k2_4, k2_5⟩
  go_simp
  generalize hZ : (Act.mk _ _) = Z
  refine hK Z ?_
  subst hZ
  clear hK K
  refine kAllP_nil (fun W hW hF => ?_)
  obtain ⟨g, row1, A1, c1, _, k1, k2, k3, k4, _, _, k7⟩ := (kAllHas_at hF 0 rfl : (fun v W => ∃ g_0 row1_0 A1_0 c1_0, v = undef ∧ Blk W b 115 (cs.setIfInBounds 41 (.pointer (some ⟨g_0, 0, none⟩))) ∧ Blk W g_0 196 #[.slice A1_0 c.seeds.length c1_0, .int .i64 c.retry, .int .i64 me.1, .int .i64 0, .bool false] ∧ SlK W 3 1 row1_0 A1_0 c.seeds.length c1_0 (c.seeds.map (Value.int .i64)) ∧ w.heap.size ≤ g_0 ∧ ¬ g_0 = b ∧ (∀ q, row1_0 = some q → ¬ q = b) ∧ (∀ q, row1_0 = some q → w.heap.size ≤ q)) _ W)
  have HS : Hid ((∃ g row1 A1 c1, Blk W b 115 (cs.setIfInBounds 41 (.pointer (some ⟨g, 0, none⟩))) ∧ Blk W g 196 #[.slice A1 c.seeds.length c1, .int .i64 c.retry, .int .i64 me.1, .int .i64 0, .bool false] ∧ SlK W 3 1 row1 A1 c.seeds.length c1 (c.seeds.map (Value.int .i64)) ∧ w.heap.size ≤ g ∧ (∀ q, row1 = some q → w.heap.size ≤ q)) ∧ Keep (fun g => g = b) w W) := Lib.hid ⟨⟨g, row1, A1, c1, k1, k2, k3, k4, k7⟩, (KeepC.d hW).1⟩
  clear hF hW HI NEi NEs HSl HL0 HL1 HM  HC HN HB NEc NEn HO HV HLB
  go_wp2
  go_ret
  exact ⟨rfl, HS.out.1, HS.out.2⟩
set_option maxHeartbeats 2000000 in
theorem new3_ok (bc bn b : Nat) (cs : Array Value) (s : Value) (c : NC) (w : World) (hc : Blk w bc 45 (cca s c)) (hn : Blk w bn 49 #[.pointer (some ⟨b, 0, none⟩)]) (hb : Blk w b 115 cs) (hz : cs.size = 55) (h1 : 1 ≤ c.events) (h2 : c.events ≤ 4096) :
    Calls Tryz.prog 75 #[.pointer (some ⟨bc, 0, none⟩), .pointer (some ⟨bn, 0, none⟩)] w fun e w' => e = .returned (.int .i64 0) ∧ (∃ g, Blk w' b 115 (cs.setIfInBounds 43 (.pointer (some ⟨g, 0, none⟩))) ∧ Blk w' g 203 #[.int .i64 c.events, .slice none 0 0] ∧ w.heap.size ≤ g) ∧ Keep (fun g => g = b) w w' := by
  have HC := Lib.hid hc
  have HN := Lib.hid hn
  have HB := Lib.hid hb
  have NEc := Lib.hid (show ¬ bc = b from fun e => (Blk.ne_ hc hb (by decide)) e)
  have NEn := Lib.hid (show ¬ bn = b from fun e => (Blk.ne_ hn hb (by decide)) e)
  have HO : Hid (∀ j v, cs[j]? = some v → w.cell? ⟨b, j, none⟩ = some v) := Lib.hid fun j v hj => by rw [HB.out.cell]; exact hj
  obtain ⟨vk, hvk⟩ : ∃ v, cs[43]? = some v := ⟨_, Array.getElem?_eq_getElem (by omega)⟩
  have HV := Lib.hid hvk
  have hlb := hb.lt
  have HLB := Lib.hid hlb
  clear hc hn hb hz hvk hlb
  go_enter Tryz.func75, Tryz.ntmps75
  go_upto_region 1 with (fail)
  refine wp_region_kpiv (KeepC b 43) (Keep (fun _ => False)) 9 (KeepC.refl _ _) (KeepC.trans _ _) (Keep.refl _) keep0_trans (KeepC.of0 _ _) 10 (by kernel_rfl) (by kernel_rfl) (Ts := [some (.inl (.pointer (some ⟨b, 0, none⟩))), none, some (.inl (.int .i64 c.events)), some (.inr (fun v W => ∃ g_0, v = .tuple #[.pointer (some ⟨g_0, 0, none⟩), .int .i64 0] ∧ Blk W g_0 203 #[.int .i64 c.events, .slice none 0 0] ∧ w.heap.size ≤ g_0 ∧ ¬ g_0 = b)), some (.inr (fun v W => ∃ g_0, v = .tuple #[.pointer (some ⟨g_0, 0, none⟩), .int .i64 0] ∧ Blk W g_0 203 #[.int .i64 c.events, .slice none 0 0] ∧ w.heap.size ≤ g_0 ∧ ¬ g_0 = b)), some (.inr (fun v W => ∃ g_0, v = .pointer (some ⟨g_0, 0, none⟩) ∧ Blk W g_0 203 #[.int .i64 c.events, .slice none 0 0] ∧ w.heap.size ≤ g_0 ∧ ¬ g_0 = b)), some (.inl (.int .i64 0)), none, none, some (.inr (fun v W => ∃ g_0, v = undef ∧ Blk W b 115 (cs.setIfInBounds 43 (.pointer (some ⟨g_0, 0, none⟩))) ∧ Blk W g_0 203 #[.int .i64 c.events, .slice none 0 0] ∧ w.heap.size ≤ g_0 ∧ ¬ g_0 = b))]) ?_
  simp only [List.take, List.drop]
  refine kAllP_dn _ (by decide) (fun W hW hF => kStep_of fun K Q hK => ?_) (fun K hK => ?_)
  · have c0 := (HN.out.keep (KeepC.d hW).1 (fun e => NEn.out e)).cell 0
    simp at c0
    go_simp
    exact hK _ _ (Keep.refl _ _) rfl
  go_simp
  generalize hZ : (Act.mk _ _) = Z
  refine hK Z ?_
  subst hZ
  clear hK K
  refine kAllP_p (fun K hK => ?_)
  go_simp
  generalize hZ : (Act.mk _ _) = Z
  refine hK Z ?_
  subst hZ
  clear hK K
  refine kAllP_dn _ (by decide) (fun W hW hF => kStep_of fun K Q hK => ?_) (fun K hK => ?_)
  · have c0 := (HC.out.keep (KeepC.d hW).1 (fun e => NEc.out e)).cell 16
    simp at c0
    go_simp
    exact hK _ _ (Keep.refl _ _) rfl
  go_simp
  generalize hZ : (Act.mk _ _) = Z
  refine hK Z ?_
  subst hZ
  clear hK K
  refine kAllP_un _ (by decide) (fun v W W' hk h => by obtain ⟨g_0, e, h0, h1, h2⟩ := h; exact ⟨_, e, (h0.keep hk.1 h2), (h1), (h2)⟩) (fun W hW hF => kStep_of fun K Q hK => ?_) (fun u0 K hK => ?_)
  · go_simp
    refine (eventsNew_ok c.events W (by omega) (by omega)).mono ?_
    rintro e w' ⟨g, rfl, hb, h1, hk⟩
    have hz := (KeepC.d hW).1.size
    have hl := HLB.out
    exact hK _ _ hk ⟨g, rfl, hb, by omega, by omega⟩
  go_simp
  generalize hZ : (Act.mk _ _) = Z
  refine hK Z ?_
  subst hZ
  clear hK K
  refine kAllP_un _ (by decide) (fun v W W' hk h => by obtain ⟨g_0, e, h0, h1, h2⟩ := h; exact ⟨_, e, (h0.keep hk.1 h2), (h1), (h2)⟩) (fun W hW hF => kStep_of fun K Q hK => ?_) (fun u1 K hK => ?_)
  · obtain ⟨g_0, rfl, k0_0, k0_1, k0_2⟩ := (kHas_at hF 0 rfl (by kernel_rfl) : (fun v W => ∃ g_0, v = .tuple #[.pointer (some ⟨g_0, 0, none⟩), .int .i64 0] ∧ Blk W g_0 203 #[.int .i64 c.events, .slice none 0 0] ∧ w.heap.size ≤ g_0 ∧ ¬ g_0 = b) u0 W)
    go_simp
    exact hK _ _ (Keep.refl _ _) ⟨_, rfl, k0_0, k0_1, k0_2⟩
  go_simp
  generalize hZ : (Act.mk _ _) = Z
  refine hK Z ?_
  subst hZ
  clear hK K
  refine kAllP_un _ (by decide) (fun v W W' hk h => by obtain ⟨g_0, e, h0, h1, h2⟩ := h; exact ⟨_, e, (h0.keep hk.1 h2), (h1), (h2)⟩) (fun W hW hF => kStep_of fun K Q hK => ?_) (fun u2 K hK => ?_)
  · obtain ⟨g_0, rfl, k1_0, k1_1, k1_2⟩ := (kHas_at hF 0 rfl (by kernel_rfl) : (fun v W => ∃ g_0, v = .tuple #[.pointer (some ⟨g_0, 0, none⟩), .int .i64 0] ∧ Blk W g_0 203 #[.int .i64 c.events, .slice none 0 0] ∧ w.heap.size ≤ g_0 ∧ ¬ g_0 = b) u1 W)
    go_simp
    exact hK _ _ (Keep.refl _ _) ⟨_, rfl, k1_0, k1_1, k1_2⟩
  go_simp
  generalize hZ : (Act.mk _ _) = Z
  refine hK Z ?_
  subst hZ
  clear hK K
  refine kAllP_dn _ (by decide) (fun W hW hF => kStep_of fun K Q hK => ?_) (fun K hK => ?_)
  · obtain ⟨g_0, rfl, k1_0, k1_1, k1_2⟩ := (kHas_at hF 1 rfl (by kernel_rfl) : (fun v W => ∃ g_0, v = .tuple #[.pointer (some ⟨g_0, 0, none⟩), .int .i64 0] ∧ Blk W g_0 203 #[.int .i64 c.events, .slice none 0 0] ∧ w.heap.size ≤ g_0 ∧ ¬ g_0 = b) u1 W)
    go_simp
    exact hK _ _ (Keep.refl _ _) rfl
  go_simp
  generalize hZ : (Act.mk _ _) = Z
  refine hK Z ?_
  subst hZ
  clear hK K
  refine kAllP_p (fun K hK => ?_)
  go_simp
  generalize hZ : (Act.mk _ _) = Z
  refine hK Z ?_
  subst hZ
  clear hK K
  refine kAllP_p (fun K hK => ?_)
  go_simp
  generalize hZ : (Act.mk _ _) = Z
  refine hK Z ?_
  subst hZ
  clear hK K
  refine kAllP_tn _ rfl (fun v W W' hk h =>  by obtain ⟨g_0, e, h0, h1, h2, h3⟩ := h; exact ⟨_, e, (h0.keep hk (fun h => h)), (h1.keep hk (fun h => h)), (h2), (h3)⟩) (fun W hW hF => kStep_of fun K Q hK => ?_) (fun u3 K hK => ?_)
  · obtain ⟨g_0, rfl, k2_0, k2_1, k2_2⟩ := (kHas_at hF 0 rfl (by kernel_rfl) : (fun v W => ∃ g_0, v = .pointer (some ⟨g_0, 0, none⟩) ∧ Blk W g_0 203 #[.int .i64 c.events, .slice none 0 0] ∧ w.heap.size ≤ g_0 ∧ ¬ g_0 = b) u2 W)
    have hbW := HB.out.keep (keepD (Keep.refl _ _) hW) (fun h => h)
    have c0 := (keepD (Keep.refl (fun _ => False) _) hW).cell (HO.out _ _ HV.out) (fun h => h)
    have f0 := hbW.frozen 43
    go_simp
    exact hK undef _ (KeepC.set b 43 W _) ⟨_, rfl, hbW.set_ _ _, far_set k2_0 k2_2 _, k2_1, k2_2⟩
  go_simp
  generalize hZ : (Act.mk _ _) = Z
  refine hK Z ?_
  subst hZ
  clear hK K
  refine kAllP_nil (fun W hW hF => ?_)
  obtain ⟨g, _, k1, k2, k3, _⟩ := (kAllHas_at hF 0 rfl : (fun v W => ∃ g_0, v = undef ∧ Blk W b 115 (cs.setIfInBounds 43 (.pointer (some ⟨g_0, 0, none⟩))) ∧ Blk W g_0 203 #[.int .i64 c.events, .slice none 0 0] ∧ w.heap.size ≤ g_0 ∧ ¬ g_0 = b) _ W)
  have HS : Hid ((∃ g, Blk W b 115 (cs.setIfInBounds 43 (.pointer (some ⟨g, 0, none⟩))) ∧ Blk W g 203 #[.int .i64 c.events, .slice none 0 0] ∧ w.heap.size ≤ g) ∧ Keep (fun g => g = b) w W) := Lib.hid ⟨⟨g, k1, k2, k3⟩, (KeepC.d hW).1⟩
  clear hF hW  HC HN HB NEc NEn HO HV HLB
  go_wp2
  go_ret
  exact ⟨rfl, HS.out.1, HS.out.2⟩
end Go.Proofs.YtlfpefnlgiohbaaGreat
