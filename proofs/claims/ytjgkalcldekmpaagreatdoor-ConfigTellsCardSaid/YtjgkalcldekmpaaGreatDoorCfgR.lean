/-
  config: what comes of Parse; some, awake. Written by gen_r.py.
-/
import Derived.Test.YtjgkalcldekmpaaGreatDoorCfgQ
import Derived.Laws.ResultCell
namespace Go.Proofs.YtjgkalcldekmpaaGreatDoor
open Go.RowKit Go Go.Shelf
set_option maxRecDepth 100000
attribute [local irreducible] kAll
attribute [local go_sem] kQuiet kQuietUpon
attribute [local go_sem] bs_toList bs_size bs_zero

theorem inB_of {lo hi : Int} {l : List Int} (h : inB lo hi l = true) {x : Int} (hx : x ∈ l) : lo ≤ x ∧ x ≤ hi := by
  unfold inB at h
  rw [List.all_eq_true] at h
  exact of_decide_eq_true (h x hx)
theorem mayM_wf {c : Cfg} (h : mayM c = true) (hl : c.seeds.length ≤ 400000000) : WfC c := by
  unfold mayM mayX riseM timesM at h
  simp only [Bool.and_eq_true, decide_eq_true_eq] at h
  obtain ⟨⟨⟨⟨⟨⟨⟨_, _⟩, _⟩, hs⟩, ⟨⟨ht, _⟩, h7⟩⟩, h1⟩, _⟩, hk⟩ := h
  have b : ∀ {lo hi x : Int} {l : List Int}, inB lo hi l = true → x ∈ l → -4096 ≤ lo → hi ≤ 4096 → i64 x := fun h hx h1 h2 => by
    have := inB_of h hx
    unfold i64; omega
  have k8 : (c.v 8 = 1 ∨ c.v 8 = 2 ∨ c.v 8 = 3 ∨ c.v 8 = 4) ∧ i64 (c.v 9) ∧ i64 (c.v 12) ∧ i64 (c.v 13) ∧ i64 (c.v 14) := by
    unfold kindM at hk
    split at hk
    · rename_i e
      simp only [Bool.and_eq_true] at hk
      exact ⟨.inl e, b hk.1 (by simp) (by decide) (by decide), b hk.2 (by simp) (by decide) (by decide), b hk.2 (by simp) (by decide) (by decide), b hk.2 (by simp) (by decide) (by decide)⟩
    · split at hk
      · rename_i e
        exact ⟨by omega, b hk (by simp) (by decide) (by decide), b hk (by simp) (by decide) (by decide), b hk (by simp) (by decide) (by decide), b hk (by simp) (by decide) (by decide)⟩
      · split at hk
        · rename_i e
          simp only [Bool.and_eq_true, decide_eq_true_eq] at hk
          exact ⟨by omega, by unfold i64; omega, b hk.1.1.2 (by simp) (by decide) (by decide), b hk.1.2 (by simp) (by decide) (by decide), b hk.1.2 (by simp) (by decide) (by decide)⟩
        · cases hk
  refine ⟨fun n hn => b hs hn (by decide) (by decide), fun i hi => ?_, by omega, hl⟩
  obtain ⟨hi17, h0, h8, h10, h11⟩ := hi
  have hc : i = 1 ∨ i = 2 ∨ i = 3 ∨ i = 4 ∨ i = 5 ∨ i = 6 ∨ i = 7 ∨ i = 9 ∨ i = 12 ∨ i = 13 ∨ i = 14 ∨ i = 15 ∨ i = 16 := by omega
  rcases hc with rfl | rfl | rfl | rfl | rfl | rfl | rfl | rfl | rfl | rfl | rfl | rfl | rfl
  · exact b h1 (by simp) (by decide) (by decide)
  · exact b ht (by simp) (by decide) (by decide)
  · exact b ht (by simp) (by decide) (by decide)
  · exact b ht (by simp) (by decide) (by decide)
  · exact b ht (by simp) (by decide) (by decide)
  · exact b ht (by simp) (by decide) (by decide)
  · exact b h7 (by simp) (by decide) (by decide)
  · exact k8.2.1
  · exact k8.2.2.1
  · exact k8.2.2.2.1
  · exact k8.2.2.2.2
  · exact b ht (by simp) (by decide) (by decide)
  · exact b ht (by simp) (by decide) (by decide)
theorem zero_wf : WfC zeroCfg := ⟨fun n hn => by simp [zeroCfg] at hn, fun i _ => (by show (-9223372036854775808 : Int) ≤ 0 ∧ (0 : Int) ≤ 9223372036854775807; omega), by unfold zeroCfg; simp, by simp [zeroCfg]⟩
theorem PInv.step {st st' : PSt} (h : PInv st) {x : LnT} (hs : pstep st x = .ok st') : PInv st' := by
  unfold pstep at hs
  split at hs
  · injection hs with hs; rw [← hs]; exact h
  · split at hs
    · cases hs
    · rename_i hk
      have hle := keyN_le (trimM (cutM 61 x.1.2).1)
      split at hs
      · cases hs
      · rename_i c hc
        split at hs
        · cases hs
        · rename_i hn
          injection hs with hs
          rw [← hs]
          refine h.set (by omega) (Nat.le_trans (trim_len _ _) ?_) hc hn
          refine Nat.le_trans ?_ x.2
          unfold cutM
          simp only [List.length_tail]
          have := List.Sublist.length_le (List.dropWhile_sublist (l := x.1.2) (p := fun y => y != 61))
          omega
theorem pfold_inv : ∀ (xs : List LnT) (st st' : PSt), PInv st → xs.foldlM pstep st = .ok st' → PInv st'
  | [], st, st', h, e => by
    simp [List.foldlM, pure, Except.pure] at e; rw [← e]; exact h
  | x :: xs, st, st', h, e => by
    rw [List.foldlM_cons] at e
    cases hq : pstep st x with
    | error e' => rw [hq] at e; cases e
    | ok s1 => rw [hq] at e; exact pfold_inv xs s1 st' (h.step hq) e
theorem parse_wf (s : Bs) : WfC (parseM s).1 := by
  unfold parseM
  split
  · exact zero_wf
  · rename_i st h
    split
    · rename_i hm
      exact mayM_wf hm (Nat.le_trans (pfold_inv _ _ _ pinv_zero h).len (by decide))
    · exact zero_wf
/-- what Parse gives -/
theorem parse_is {s : Bs} {c : Cfg} {l er : Int} (hp : parseM s = (c, l, er)) (w : World) (hE : Env w) (hs : s.length ≤ 40000000) :
    Calls Tryz.prog 10 #[.string (bs s)] w fun e w' => ∃ (row : Option Nat) (A : Option Addr) (cap : Nat), e = .returned (.tuple #[.agg (cfgA (.slice A c.seeds.length cap) c.v), .int .i64 l, .int .i64 er]) ∧
      SlK w' 3 1 row A c.seeds.length cap (c.seeds.map (Value.int .i64)) ∧ (∀ g, row = some g → w.heap.size ≤ g) ∧ Keep (fun _ => False) w w' := by
  have h := parse_any s w hE hs
  rw [hp] at h
  exact h
theorem row_new {t : TypeId} (W : World) (z c : Array Value) : Blk ((W.alloc (.cells z t)).setRow W.heap.size c) W.heap.size t c ∧ Keep (fun _ => False) W ((W.alloc (.cells z t)).setRow W.heap.size c) :=
  ⟨(Blk.new W t z).setRow_ c, ((Keep.refl (fun _ => False) W).alloc _).trans ((Keep.setRow_ _ _ _).mono fun g hg e => .inr (by rw [e]; exact Nat.le_refl _))⟩
def someV (k : Nat) : Int := [0, 3, 3, 9, 5, 4, 40, 0, 2, 0, 0, 1, 0, 0, 0, 8, 16].getD k 0
def someC : Cfg := ⟨[1, 2], someV⟩
theorem some_wf : WfC someC := mayM_wf (by kernel_rfl) (by decide)
theorem some_any (w : World) : Calls Tryz.prog 20 #[] w fun e w' => ∃ g, e = .returned (.agg (cfgA (.slice (some ⟨g, 0, none⟩) 2 2) someV)) ∧ Blk w' g 3 #[.int .i64 1, .int .i64 2] ∧ w.heap.size ≤ g ∧ Keep (fun _ => False) w w' := by
  go_enter Tryz.func20, Tryz.ntmps20
  go_wp2_with (first | (refine wpList_store_row rfl 25 _ _ rfl w.heap.size (cfgA (.slice (some ⟨w.heap.size + 1, 0, none⟩) 2 2) someV) rfl rfl 25 _ ((Blk.new w 25 _).alloc _) infoCfg rfl (cfgA_one _ _ _ _) ?_) | fail)
  have hb : Blk ((w.alloc (.cells zc 25)).alloc (.cells #[.int .i64 1, .int .i64 2] 3)) w.heap.size 25 zc := (Blk.new w 25 zc).alloc _
  have h2 : Blk ((w.alloc (.cells zc 25)).alloc (.cells #[.int .i64 1, .int .i64 2] 3)) (w.heap.size + 1) 3 #[.int .i64 1, .int .i64 2] := Blk.new_ (by simp) _ _
  have hk : Keep (fun _ => False) w ((w.alloc (.cells zc 25)).alloc (.cells #[.int .i64 1, .int .i64 2] 3)) := ((Keep.refl _ w).alloc _).alloc _
  refine bodyPost_ret (results_cell_row rfl _ _ w.heap.size 25 (cfgA (.slice (some ⟨w.heap.size + 1, 0, none⟩) 2 2) someV) (0, 0) _ rfl (hb.setRow_ _) Tryz.underlying25 rfl infoCfg) rfl ⟨w.heap.size + 1, rfl, h2.keep (Keep.setRow_ _ _ _) (by omega), by omega, hk.trans ((Keep.setRow_ _ _ _).mono fun g _ e => .inr (by omega))⟩
theorem rd_some {W : World} {g : Nat} (h : Blk W g 3 #[.int .i64 1, .int .i64 2]) : RdN W (some ⟨g, 0, none⟩) someC.seeds.length someC.seeds := RdK.of_blk h 2 1 rfl
theorem showM_congr {a b : Cfg} (hs : a.seeds = b.seeds) {i : Nat} (hv : a.v i = b.v i) : showM i a = showM i b := by
  unfold showM
  by_cases h0 : i = 0
  · rw [if_pos h0, if_pos h0, hs]
  · rw [if_neg h0, if_neg h0]
    by_cases h8 : i = 8
    · rw [if_pos h8, if_pos h8]; subst h8; rw [hv]
    · rw [if_neg h8, if_neg h8, hv]
theorem sameM_of {a b : Cfg} (hs : a.seeds = b.seeds) (hv : ∀ i, i < 17 → a.v i = b.v i) : sameM a b = true := by
  unfold sameM
  rw [decide_eq_true hs, Bool.true_and, List.all_eq_true]
  exact fun i hi => decide_eq_true (showM_congr hs (hv i (List.mem_range.1 hi)))
def ex1 : Bs := [115, 101, 101, 100, 115, 32, 61, 32, 49, 44, 32, 50, 10, 119, 97, 116, 99, 104, 61, 51, 32, 35, 32, 97, 108, 108, 10, 10, 32, 32, 109, 105, 110, 32, 61, 32, 51, 10, 109, 97, 120, 9, 61, 32, 57, 10, 119, 105, 110, 100, 111, 119, 32, 61, 32, 53, 10, 114, 101, 116, 114, 121, 32, 61, 32, 52, 10, 115, 116, 97, 98, 108, 101, 32, 61, 32, 52, 48, 10, 115, 116, 114, 97, 116, 101, 103, 121, 32, 61, 32, 109, 97, 106, 111, 114, 105, 116, 121, 10, 119, 101, 97, 107, 32, 61, 32, 121, 101, 115, 10, 113, 117, 101, 117, 101, 32, 61, 32, 56, 10, 101, 118, 101, 110, 116, 115, 32, 61, 32, 49, 54]
def ex2 : Bs := [115, 101, 101, 100, 115, 32, 61, 32, 50, 44, 32, 49]
def ex3 : Bs := [109, 105, 110, 32, 61, 32, 48, 55]
theorem ex1_e : (parseM ex1).2 = (0, 0) := by kernel_rfl
theorem ex1_s : (parseM ex1).1.seeds = [1, 2] := by kernel_rfl
theorem ex1_v : (List.range 17).map (parseM ex1).1.v = (List.range 17).map someV := by kernel_rfl
theorem ex2_e : (parseM ex2).2 = (0, 1) := by kernel_rfl
theorem ex3_e : (parseM ex3).2 = (1, 4) := by kernel_rfl
theorem ex1_same : sameM (parseM ex1).1 someC = true := sameM_of ex1_s fun i hi => by
  have h := congrArg (fun l : List Int => l[i]?) ex1_v
  simp only [List.getElem?_map, List.getElem?_range hi, Option.map_some, Option.some.injEq] at h
  exact h
set_option maxHeartbeats 4000000 in
theorem awake_any (w : World) (hE : Env w) : Calls Tryz.prog 9 #[] w (Tell (.bool true) w) := by
  obtain ⟨c1, hc1⟩ : ∃ c, (parseM ex1).1 = c := ⟨_, rfl⟩
  obtain ⟨c2, hc2⟩ : ∃ c, (parseM ex2).1 = c := ⟨_, rfl⟩
  obtain ⟨c3, hc3⟩ : ∃ c, (parseM ex3).1 = c := ⟨_, rfl⟩
  have p1 : parseM ex1 = (c1, 0, 0) := by rw [← hc1, ← ex1_e]
  have p2 : parseM ex2 = (c2, 0, 1) := by rw [← hc2, ← ex2_e]
  have p3 : parseM ex3 = (c3, 1, 4) := by rw [← hc3, ← ex3_e]
  have HE := Lib.hid hE
  have HP1 := Lib.hid p1
  have HP2 := Lib.hid p2
  have HP3 := Lib.hid p3
  have HWf := Lib.hid (hc1 ▸ parse_wf ex1)
  have HSm := Lib.hid (hc1 ▸ ex1_same)
  clear p1 p2 p3 hc1 hc2 hc3 hE
  go_enter Tryz.func9, Tryz.ntmps9
  go_wp2_with fail
  refine (parse_is HP1.out w (HE.out.keep0 (Keep.refl _ _)) (by decide)).mono ?_
  rintro e W1 ⟨row, A1, cap1, rfl, hs, hr, hk⟩
  have HS1 := Lib.hid hs.rd
  have HKw1 := Lib.hid hk
  clear hs hr hk
  go_wp2_with (first | (refine wpList_store_row rfl 25 _ _ rfl W1.heap.size (cfgA (.slice A1 c1.seeds.length cap1) c1.v) rfl rfl 25 _ (Blk.new _ _ _) infoCfg rfl (cfgA_one _ _ _ _) ?_; obtain ⟨hbv, hkv⟩ := row_new (t := 25) W1 zc (cfgA (.slice A1 c1.seeds.length cap1) c1.v); unfold zc at hbv hkv) | fail)
  have HBv := Lib.hid hbv
  have HKv := Lib.hid (keep0_trans _ _ _ HKw1.out hkv)
  have HS1' := Lib.hid (HS1.out.keep0 hkv)
  clear hbv hkv HS1
  obtain ⟨V1, hV1⟩ : ∃ V, (W1.alloc (.cells #[.slice none 0 0, .int .i64 0, .int .i64 0, .int .i64 0, .int .i64 0, .int .i64 0, .int .i64 0, .int .i64 0, .int .u8 0, .int .i64 0, .bool false, .bool false, .int .i64 0, .int .i64 0, .int .i64 0, .int .i64 0, .int .i64 0] 25)).setRow W1.heap.size (cfgA (.slice A1 c1.seeds.length cap1) c1.v) = V := ⟨_, rfl⟩
  rw [hV1] at HBv HKv HS1' ⊢
  clear hV1
  refine (parse_is HP2.out V1 (HE.out.keep0 HKv.out) (by decide)).mono ?_
  rintro e W2 ⟨row, A2, cap2, rfl, hs, hr, hk⟩
  have HS2 := Lib.hid hs.rd
  have HKw2 := Lib.hid hk
  clear hs hr hk
  go_wp2_with (first | (refine wpList_store_row rfl 25 _ _ rfl W2.heap.size (cfgA (.slice A2 c2.seeds.length cap2) c2.v) rfl rfl 25 _ (Blk.new _ _ _) infoCfg rfl (cfgA_one _ _ _ _) ?_; obtain ⟨hbv, hkv⟩ := row_new (t := 25) W2 zc (cfgA (.slice A2 c2.seeds.length cap2) c2.v); unfold zc at hbv hkv) | fail)
  have HKv2 := Lib.hid (keep0_trans _ _ _ HKw2.out hkv)
  clear hbv hkv HS2
  obtain ⟨V2, hV2⟩ : ∃ V, (W2.alloc (.cells #[.slice none 0 0, .int .i64 0, .int .i64 0, .int .i64 0, .int .i64 0, .int .i64 0, .int .i64 0, .int .i64 0, .int .u8 0, .int .i64 0, .bool false, .bool false, .int .i64 0, .int .i64 0, .int .i64 0, .int .i64 0, .int .i64 0] 25)).setRow W2.heap.size (cfgA (.slice A2 c2.seeds.length cap2) c2.v) = V := ⟨_, rfl⟩
  rw [hV2] at HKv2 ⊢
  clear hV2
  refine (parse_is HP3.out V2 (HE.out.keep0 (keep0_trans _ _ _ HKv.out HKv2.out)) (by decide)).mono ?_
  rintro e W3 ⟨row, A3, cap3, rfl, hs, hr, hk⟩
  have HS3 := Lib.hid hs.rd
  have HKw3 := Lib.hid hk
  clear hs hr hk
  go_upto_region 4 with (first | (refine wpList_store_row rfl 25 _ _ rfl W3.heap.size (cfgA (.slice A3 c3.seeds.length cap3) c3.v) rfl rfl 25 _ (Blk.new _ _ _) infoCfg rfl (cfgA_one _ _ _ _) ?_; obtain ⟨hbv, hkv⟩ := row_new (t := 25) W3 zc (cfgA (.slice A3 c3.seeds.length cap3) c3.v); unfold zc at hbv hkv) | fail)
  have hkk := keep0_trans _ _ _ HKv2.out (keep0_trans _ _ _ HKw3.out hkv)
  have HKv3 := Lib.hid (keep0_trans _ _ _ HKv.out hkk)
  have HS1 := Lib.hid (HS1'.out.keep0 hkk)
  have HB1 := Lib.hid (HBv.out.keep hkk (fun h => h))
  clear hbv hkv HS3 hkk
  obtain ⟨V3, hV3⟩ : ∃ V, (W3.alloc (.cells #[.slice none 0 0, .int .i64 0, .int .i64 0, .int .i64 0, .int .i64 0, .int .i64 0, .int .i64 0, .int .i64 0, .int .u8 0, .int .i64 0, .bool false, .bool false, .int .i64 0, .int .i64 0, .int .i64 0, .int .i64 0, .int .i64 0] 25)).setRow W3.heap.size (cfgA (.slice A3 c3.seeds.length cap3) c3.v) = V := ⟨_, rfl⟩
  rw [hV3] at HKv3 HS1 HB1 ⊢
  clear hV3
  refine wp_region_krip (Keep (fun _ => False)) (Keep.refl _) keep0_trans 9 (by kernel_rfl) (by kernel_rfl) (Ts := [none, none, none, none, none, none, none, some (.inl (.agg (cfgA (.slice A1 c1.seeds.length cap1) c1.v))), some (.inr (fun v W => ∃ g, v = .agg (cfgA (.slice (some ⟨g, 0, none⟩) 2 2) someV) ∧ Blk W g 3 #[.int .i64 1, .int .i64 2]))]) ?_
  simp only [List.take, List.drop]
  refine kAll_p (fun K hK => ?_)
  go_simp
  generalize hZ : (Act.mk _ _) = Z
  refine hK Z ?_
  subst hZ
  clear hK K
  refine kAll_p (fun K hK => ?_)
  go_simp
  generalize hZ : (Act.mk _ _) = Z
  refine hK Z ?_
  subst hZ
  clear hK K
  refine kAll_p (fun K hK => ?_)
  go_simp
  generalize hZ : (Act.mk _ _) = Z
  refine hK Z ?_
  subst hZ
  clear hK K
  refine kAll_pw (by kernel_rfl) (fun K hK => ?_)
  go_simp
  generalize hZ : (Act.mk _ _) = Z
  refine hK Z ?_
  subst hZ
  clear hK K
  refine kAll_pw (by kernel_rfl) (fun K hK => ?_)
  go_simp
  generalize hZ : (Act.mk _ _) = Z
  refine hK Z ?_
  subst hZ
  clear hK K
  refine kAll_p (fun K hK => ?_)
  go_simp
  generalize hZ : (Act.mk _ _) = Z
  refine hK Z ?_
  subst hZ
  clear hK K
  refine kAll_p (fun K hK => ?_)
  go_simp
  generalize hZ : (Act.mk _ _) = Z
  refine hK Z ?_
  subst hZ
  clear hK K
  refine kAll_d _ (fun W hW hF => kStep_w (by kernel_rfl) fun K Q hK => ?_) ?_
  · exact wp_load_row 25 _ rfl W1.heap.size rfl 25 _ (0, 0) _ (HB1.out.keep (keepD (Keep.refl _ _) hW) (fun h => h)) Tryz.underlying25 rfl infoCfg (hK _ _ (Keep.refl _ _) rfl)
  refine kAll_t _ (by rintro v a b hk ⟨g, e, hb⟩; exact ⟨g, e, hb.keep hk (fun h => h)⟩) (fun W hW hF => kStep_w (by kernel_rfl) fun K Q hK => ?_) (fun u33 => ?_)
  · go_simp
    refine (some_any W).mono ?_
    rintro e w' ⟨g, rfl, hb, _, hk⟩
    exact hK _ _ hk ⟨g, rfl, hb⟩
  refine kAll_nil (fun W5 hW hF => ?_)
  obtain ⟨g, rfl, hg⟩ := (show _ from hF.1)
  have HK5 := Lib.hid (keepD (Keep.refl _ _) hW)
  have HG := Lib.hid hg
  clear hF hW hg
  go_wp2_with fail
  refine (same_any c1 someC A1 (some ⟨g, 0, none⟩) cap1 2 HWf.out some_wf _ (HE.out.keep0 (keep0_trans _ _ _ HKv3.out HK5.out)) (HS1.out.keep0 HK5.out) (rd_some HG.out)).mono ?_
  rintro e W6 ⟨rfl, hk6⟩
  rw [HSm.out]
  have HK6 := Lib.hid hk6
  clear hk6
  go_wp2
  go_ret
  exact ⟨rfl, keep0_trans _ _ _ HKv3.out (keep0_trans _ _ _ HK5.out HK6.out)⟩
end Go.Proofs.YtjgkalcldekmpaaGreatDoor
