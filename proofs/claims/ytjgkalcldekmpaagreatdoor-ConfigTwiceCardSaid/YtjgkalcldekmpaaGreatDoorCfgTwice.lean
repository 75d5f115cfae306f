/-
  ConfigTwice. Written by gen_twice.py.
-/
import Derived.Test.YtjgkalcldekmpaaGreatDoorCfgW
import Derived.Test.YtjgkalcldekmpaaGreatDoorCfgFirst
import Derived.Test.YtjgkalcldekmpaaGreatDoorKvS
import Derived.Test.YtjgkalcldekmpaaGreatDoorKord
namespace Go.Proofs.YtjgkalcldekmpaaGreatDoor
open Go.RowKit Go Go.Shelf
set_option maxRecDepth 100000
attribute [local go_sem] bs_toList bs_size bs_zero bs_get

theorem parse_line0 {s : Bs} {c : Cfg} {f : Int} (h : parseM s = (c, 0, f)) : ∃ st, pfold (nl s) = .ok st := by
  cases hf : pfold (nl s) with
  | error e =>
    obtain ⟨k, _, e1, _, _⟩ := wrong_at (ls := spl 10 s) hf
    unfold parseM at h
    rw [hf] at h
    have h3 : e.1 = 0 := congrArg (fun x => x.2.1) h
    omega
  | ok st => exact ⟨st, rfl⟩
theorem any_succ {x : Bs} {i : Nat} (hi : i < x.length) (f : UInt8 → Bool) : (x.take (i + 1)).any f = ((x.take i).any f || f x[i]) := by
  rw [List.take_add_one, List.getElem?_eq_getElem hi, List.any_append]
  simp
theorem take_to {x : Bs} {i : Nat} (h : ∀ y ∈ x.take i, ¬ y = 35) (he : i = x.length ∨ ∃ hi : i < x.length, x[i] = 35) : x.takeWhile (· != 35) = x.take i := by
  induction x generalizing i with
  | nil => simp
  | cons y x ih =>
    cases i with
    | zero =>
      rcases he with he | ⟨_, he⟩
      · simp at he
      · rw [List.getElem_cons_zero] at he
        subst he
        rfl
    | succ i =>
      have hy : ¬ y = 35 := h y (by simp)
      rw [List.takeWhile_cons_of_pos (p := (· != 35)) (by simpa using hy), List.take_succ_cons]
      rw [ih (i := i) (fun z hz => h z (by simp [hz])) ?_]
      rcases he with he | ⟨hi, he⟩
      · left; simpa using he
      · right; exact ⟨by simpa using hi, by simpa using he⟩
theorem key_end {x : Bs} {i : Nat} (h : ∀ y ∈ x.take i, ¬ y = 35) (he : i = x.length ∨ ∃ hi : i < x.length, x[i] = 35) : ((x.take i).any fun y => !blB y) = keyB x := by
  unfold keyB
  rw [take_to h he]
theorem rd_drop {w : World} {g off n : Nat} {xs : List Value} (h : RdK w 1 (some ⟨g, off, none⟩) n xs) {k : Nat} (hk : k ≤ n) : RdK w 1 (some ⟨g, off + k, none⟩) (n - k) (xs.drop k) :=
  ⟨by have := h.1; rw [List.length_drop]; omega, fun j hj => by
    obtain ⟨g', off', v, e1, e2, e3⟩ := h.2 (k + j) (by omega)
    injection e1 with e1; injection e1 with e1 e1'; subst e1 e1'
    exact ⟨_, _, v, rfl, by rw [List.getElem?_drop]; exact e2, by rw [Nat.add_assoc]; exact e3⟩⟩
theorem tw_map (ls : List Bs) {k n : Nat} {x : Bs} (hx : ls.getD k [] = x) : (tw ls k n).map vS = (ls.take n).map vS ++ [vS x] ++ (ls.map vS).drop n := by
  unfold tw
  rw [hx]
  simp
attribute [local irreducible] kAll
attribute [local go_sem] kQuiet kQuietUpon
set_option maxHeartbeats 8000000 in
theorem walkConfigTwice (s0 : ByteArray) (_w0 : s0.size ≤ maxLen) (a1 : Int) (_w1 : (Lit.int .i64 a1).wf = true) (a2 : Int) (_w2 : (Lit.int .i64 a2).wf = true) {w : World} (hE : Env w) :
    Calls Tryz.prog 5 #[.string s0, .int .i64 a1, .int .i64 a2] w fun e w' => e = .returned (.bool true) ∧ Below w.heap.size w w' := by
  obtain ⟨s, rfl⟩ : ∃ s, s0 = bs s := ⟨s0.data.toList, (bs_of s0).symm⟩
  have HE := Lib.hid hE
  clear hE _w0 _w1 _w2
  obtain ⟨i0, hi, hz0, hz1, hz2⟩ := info_parts infoStr
  have HI0 := Lib.hid hi
  have HZ0 := Lib.hid hz0
  have HZ1 := Lib.hid hz1
  have HZ2 := Lib.hid hz2
  clear hi hz0 hz1 hz2
  go_enter Tryz.func5, Tryz.ntmps5
  by_cases h1 : 3000 < s.length
  · have q1 : (3000 : Int) < (s.length : Int) := by omega
    go_wp2_with fail
    refine (awake_any w HE.out).mono ?_
    rintro e W1 ⟨rfl, hk⟩
    have HK := Lib.hid hk
    clear hk
    go_wp2
    go_ret
    exact ⟨rfl, below_of HK.out⟩
  have q1 : ¬ (3000 : Int) < (s.length : Int) := by omega
  go_wp2_with fail
  refine (awake_any w HE.out).mono ?_
  rintro e W0 ⟨rfl, hk⟩
  have HK0 := Lib.hid hk
  clear hk
  rcases parse_cases s with ⟨c, f, hp, hf⟩ | ⟨k, er, hk, hp, her, ⟨st, hst⟩, hbe⟩
  case inr =>
    have HP := Lib.hid hp
    clear hp hst hbe
    have q3 : ¬ (k : Int) + 1 = 0 := by omega
    have her2 : er = 4 ∨ er = 6 := her
    clear her
    rcases her2 with rfl | rfl
    all_goals
      go_wp2_with fail
      refine (parse_is HP.out _ (HE.out.keep0 HK0.out) (by omega)).mono ?_
      rintro e W1 ⟨row, A1, cap1, rfl, hs, hr, hk⟩
      have HR1 := Lib.hid hs.rd
      have HKw1 := Lib.hid (keep0_trans _ _ _ HK0.out hk)
      clear hs hr hk
      go_wp2_with (first | (refine wpList_store_row rfl 25 _ _ rfl W1.heap.size (cfgA (.slice A1 zeroCfg.seeds.length cap1) zeroCfg.v) rfl rfl 25 _ (Blk.new _ _ _) infoCfg rfl (cfgA_one _ _ _ _) ?_; obtain ⟨hbv, hkv⟩ := row_new (t := 25) W1 zc (cfgA (.slice A1 zeroCfg.seeds.length cap1) zeroCfg.v); unfold zc at hbv hkv; have HBn := Lib.hid hbv; have HKn := Lib.hid hkv; clear hbv hkv; generalize (W1.alloc (.cells #[.slice none 0 0, .int .i64 0, .int .i64 0, .int .i64 0, .int .i64 0, .int .i64 0, .int .i64 0, .int .i64 0, .int .u8 0, .int .i64 0, .bool false, .bool false, .int .i64 0, .int .i64 0, .int .i64 0, .int .i64 0, .int .i64 0] 25)).setRow W1.heap.size (cfgA (.slice A1 zeroCfg.seeds.length cap1) zeroCfg.v) = V1 at *) | fail)
      have HKV1 := Lib.hid (keep0_trans _ _ _ HKw1.out HKn.out)
      have HRV1 := Lib.hid (HR1.out.keep0 HKn.out)
      have HB1 := Lib.hid HBn.out
      clear HBn HKn HR1 HKw1
      clear HRV1 HB1
      go_ret
      exact ⟨rfl, below_of HKV1.out⟩
  have hpos : 0 < (spl 10 s).length := List.length_pos_iff.2 (spl_ne 10 s)
  have hcn := spl_count 10 s
  have HLm := Lib.hid (fun x hx => Nat.le_trans (spl_len 10 s x hx) (by omega : s.length ≤ 3000))
  have HTw := Lib.hid (fun (k n : Nat) (hk : k < n) (hn : n ≤ (spl 10 s).length) => twice_law (parse_line0 hp).choose_spec (by omega : s.length ≤ 40000000) hk hn)
  have HP := Lib.hid hp
  clear hp hf
  obtain ⟨ls, hls⟩ : ∃ ls, spl 10 s = ls := ⟨_, rfl⟩
  have HLs := Lib.hid hls
  rw [hls] at hpos hcn HLm HTw
  clear hls
  obtain ⟨n, hn⟩ : ∃ n, ls.length = n := ⟨_, rfl⟩
  have HNn := Lib.hid hn
  rw [hn] at hpos hcn HTw
  obtain ⟨k, hkk, hge⟩ := mod_u64 a1 n (by omega) (by omega)
  have hkn : k < n := by omega
  have p4 : IntKind.u64.wrap (n : Int) = (n : Int) := IntWalk.u64_in _ (by omega)
  have p5 : ¬ (n : Int) = 0 := by omega
  have p6 : IntKind.i64.wrap ((k : Int) + 1) = (k : Int) + 1 := IntWalk.i64_in _ (by omega)
  have p7 : IntKind.i64.wrap ((n : Int) - (k : Int)) = ((n - k : Nat) : Int) := by rw [show (n : Int) - (k : Int) = ((n - k : Nat) : Int) by omega]; exact IntWalk.i64_in _ (by omega)
  have p8 : IntKind.u64.wrap ((n - k : Nat) : Int) = ((n - k : Nat) : Int) := IntWalk.u64_in _ (by omega)
  have p9 : ¬ ((n - k : Nat) : Int) = 0 := by omega
  obtain ⟨g, hg, hge2⟩ := mod_u64 a2 ((n - k : Nat) : Int) (by omega) (by omega)
  obtain ⟨nn, hnn⟩ : ∃ nn, k + 1 + g = nn := ⟨_, rfl⟩
  have hnk : k < nn := by omega
  have hnl : nn ≤ n := by omega
  have p10 : IntKind.i64.wrap ((k : Int) + 1 + (g : Int)) = (nn : Int) := by rw [show (k : Int) + 1 + (g : Int) = (nn : Int) by omega]; exact IntWalk.i64_in _ (by omega)
  have p11 : IntKind.i64.wrap ((nn : Int) + 1) = (nn : Int) + 1 := IntWalk.i64_in _ (by omega)
  have p12 : (0 : Int) ≤ (nn : Int) := by omega
  have p13 : (nn : Int) ≤ (n : Int) := by omega
  have p14 : (0 : Int) ≤ (k : Int) := by omega
  have p15 : (k : Int) < (n : Int) := by omega
  obtain ⟨m, hm⟩ : ∃ m, n - k = m := ⟨_, rfl⟩
  rw [hm] at p7 p8 p9 hge2
  clear hm hkk hg hnn
  go_wp2_with fail
  refine (parse_is HP.out _ (HE.out.keep0 HK0.out) (by omega)).mono ?_
  rintro e W1 ⟨row, A1, cap1, rfl, hs, hr, hk⟩
  have HR1 := Lib.hid hs.rd
  have HKw1 := Lib.hid (keep0_trans _ _ _ HK0.out hk)
  clear hs hr hk
  go_wp2_with (first | (refine wpList_store_row rfl 25 _ _ rfl W1.heap.size (cfgA (.slice A1 c.seeds.length cap1) c.v) rfl rfl 25 _ (Blk.new _ _ _) infoCfg rfl (cfgA_one _ _ _ _) ?_; obtain ⟨hbv, hkv⟩ := row_new (t := 25) W1 zc (cfgA (.slice A1 c.seeds.length cap1) c.v); unfold zc at hbv hkv; have HBn := Lib.hid hbv; have HKn := Lib.hid hkv; clear hbv hkv; generalize (W1.alloc (.cells #[.slice none 0 0, .int .i64 0, .int .i64 0, .int .i64 0, .int .i64 0, .int .i64 0, .int .i64 0, .int .i64 0, .int .u8 0, .int .i64 0, .bool false, .bool false, .int .i64 0, .int .i64 0, .int .i64 0, .int .i64 0, .int .i64 0] 25)).setRow W1.heap.size (cfgA (.slice A1 c.seeds.length cap1) c.v) = V1 at *) | fail)
  have HKV1 := Lib.hid (keep0_trans _ _ _ HKw1.out HKn.out)
  have HRV1 := Lib.hid (HR1.out.keep0 HKn.out)
  have HB1 := Lib.hid HBn.out
  clear HBn HKn HR1 HKw1
  clear HRV1 HB1
  refine (lawLines_any s _ (by omega)).mono ?_
  rintro e W2 ⟨row, A, cap, rfl, hs, _, hk2⟩
  rw [HLs.out] at hs ⊢
  rw [hn] at hs ⊢
  have hcap := hs.2.1
  have hcap2 : (nn : Int) ≤ (cap : Int) := by omega
  have hcap3 : nn ≤ cap := by omega
  have hrd := hs.rd
  obtain ⟨gb, off, v0, rfl, hv0, hc0⟩ := hrd.2 k (by omega)
  have hkl : k < ls.length := by rw [HNn.out]; exact hkn
  rw [List.getElem?_map, List.getElem?_eq_getElem hkl] at hv0
  simp only [Option.map_some, Option.some.injEq] at hv0
  subst hv0
  have hgd : ls.getD k [] = ls[k] := by simp [List.getD, List.getElem?_eq_getElem hkl]
  have hxl := HLm.out _ (List.getElem_mem hkl)
  have hTw := HTw.out k nn hnk hnl
  have HTm := Lib.hid (fun y hy => HLm.out y (tw_mem (ls := ls) (k := k) (n := nn) hkl y hy))
  rw [hgd] at hTw
  have HTw2 := Lib.hid hTw
  have HTp := Lib.hid (fun x (hx : ls.getD k [] = x) => tw_map ls (k := k) (n := nn) hx)
  have HTn : Hid ((tw ls k nn).length = n + 1) := Lib.hid (by unfold tw; simp only [List.length_append, List.length_take, List.length_drop, List.length_singleton, HNn.out]; omega)
  clear HTw hTw
  generalize hx : ls[k] = x at hc0 hxl HTw2 hgd
  have HGd := Lib.hid hgd
  clear hx hgd hkl
  have HC := Lib.hid hc0
  have HRd := Lib.hid (show RdK W2 1 (some ⟨gb, off, none⟩) nn ((ls.take nn).map vS) by rw [List.map_take]; exact rd_take hrd hnl)
  have HDr : Hid ((cap = nn → RdK W2 1 (some ⟨gb, off, none⟩) (n - nn) ((ls.map vS).drop nn)) ∧ (¬ cap = nn → RdK W2 1 (some ⟨gb, off + nn, none⟩) (n - nn) ((ls.map vS).drop nn))) := Lib.hid ⟨fun e => by
    have e2 : n = nn := by omega
    have e3 : (ls.map vS).drop nn = [] := List.drop_eq_nil_of_le (by rw [List.length_map, HNn.out]; omega)
    rw [e3, e2, Nat.sub_self]
    exact ⟨rfl, fun j hj => by omega⟩, fun _ => rd_drop hrd hnl⟩
  have HTl : Hid (((ls.take nn).map vS).length = nn) := Lib.hid (by rw [List.length_map, List.length_take, HNn.out]; omega)
  have HK2 := Lib.hid (keep0_trans _ _ _ HKV1.out hk2)
  clear hs hk2 hn hrd
  unfold vS at hc0
  go_wp2
  go_loopw [12, 13] (fun kk j wr => ∃ (i : Nat) (kb : Bool), i ≤ x.length ∧ j = .int .i64 (i : Int) ∧ kk = .bool kb ∧ Hid (((x.take i).any fun y => !blB y) = kb) ∧ wr = W2 ∧ Hid (∀ y ∈ x.take i, ¬ y = 35)) (fun _ j _ => x.length - (intOf j).toNat)
  case atStart => exact ⟨0, false, Nat.zero_le _, rfl, rfl, Lib.hid (by simp), rfl, Lib.hid (by simp)⟩
  case round =>
    obtain ⟨i, kb, hil, rfl, rfl, HKb, rfl, HNh⟩ := hrel
    have e2 : IntKind.i64.wrap ((i : Int) + 1) = (i : Int) + 1 := IntWalk.i64_in _ (by omega)
    have p2 : (0 : Int) ≤ (i : Int) := by omega
    have hcase : (∃ hi : i < x.length, ¬ x[i] = 35) ∨ (i = x.length ∨ ∃ hi : i < x.length, x[i] = 35) := by
      by_cases hlt : i < x.length
      · by_cases hb : x[i] = 35
        · exact .inr (.inr ⟨hlt, hb⟩)
        · exact .inl ⟨hlt, hb⟩
      · exact .inr (.inl (by omega))
    rcases hcase with ⟨hlt, hb⟩ | hend
    · have p1 : (i : Int) < (x.length : Int) := by omega
      have p3 : ¬ ((x[i]).toNat : Int) = 35 := fun e => hb (UInt8.toNat_inj.1 (by show _ = 35; omega))
      have HNs : Hid (∀ y ∈ x.take (i + 1), ¬ y = 35) := Lib.hid (by
        rw [show x.take (i + 1) = x.take i ++ [x[i]] by rw [List.take_add_one, List.getElem?_eq_getElem hlt]; rfl]
        intro y hy
        rcases List.mem_append.1 hy with h | h
        · exact HNh.out y h
        · rw [List.mem_singleton.1 h]; exact hb)
      have HAs := Lib.hid (any_succ hlt (fun y => !blB y))
      clear hb
      rcases kb with _ | _
      case true =>
        go_wp2
        go_roundw
        case rel => exact ⟨i + 1, true, by omega, by go_num, rfl, Lib.hid (by rw [HAs.out, HKb.out]; rfl), trivial, HNs⟩
        case measure => simp [intOf]; omega
      by_cases hb1 : x[i] = 32
      · have p16 : ((x[i]).toNat : Int) = 32 := by rw [hb1]; rfl
        have HB1 := Lib.hid hb1
        clear hb1
        go_wp2
        go_roundw
        case rel => exact ⟨i + 1, false, by omega, by go_num, rfl, Lib.hid (by rw [HAs.out, HKb.out, HB1.out]; rfl), trivial, HNs⟩
        case measure => simp [intOf]; omega
      have p16 : ¬ ((x[i]).toNat : Int) = 32 := fun e => hb1 (UInt8.toNat_inj.1 (by show _ = 32; omega))
      by_cases hb2 : x[i] = 9
      · have p17 : ((x[i]).toNat : Int) = 9 := by rw [hb2]; rfl
        have HB1 := Lib.hid hb2
        clear hb1 hb2
        go_wp2
        go_roundw
        case rel => exact ⟨i + 1, false, by omega, by go_num, rfl, Lib.hid (by rw [HAs.out, HKb.out, HB1.out]; rfl), trivial, HNs⟩
        case measure => simp [intOf]; omega
      have p17 : ¬ ((x[i]).toNat : Int) = 9 := fun e => hb2 (UInt8.toNat_inj.1 (by show _ = 9; omega))
      have HBl : Hid (blB x[i] = false) := Lib.hid (by unfold blB; simp [hb1, hb2])
      clear hb1 hb2
      go_wp2
      go_roundw
      case rel => exact ⟨i + 1, true, by omega, by go_num, by simp [p16, p17], Lib.hid (by rw [HAs.out, HKb.out, HBl.out]; rfl), trivial, HNs⟩
      case measure => simp [intOf]; omega
    · have hkey := key_end HNh.out hend
      rw [HKb.out] at hkey
      have hpar : ∃ c f, parseM (Lib.join (tw ls k nn) [10]) = (c, if kb then (nn : Int) + 1 else 0, if kb then 6 else f) := by
        rcases kb with _ | _
        · obtain ⟨c, f, h⟩ := HTw2.out.1 hkey.symm
          exact ⟨c, f, h⟩
        · exact ⟨zeroCfg, 0, HTw2.out.2 hkey.symm⟩
      obtain ⟨c9, f9, hpar⟩ := hpar
      have HPar := Lib.hid hpar
      clear hpar hkey HKb HTw2
      have hgo : (i = x.length) ∨ (i < x.length ∧ Hid (∀ hi : i < x.length, ((x[i]).toNat : Int) = 35)) := by
        rcases hend with h | ⟨hi, h⟩
        · exact .inl h
        · exact .inr ⟨hi, Lib.hid (fun _ => by rw [h]; rfl)⟩
      clear hend HNh
      rcases hgo with rfl | ⟨hlt, hb⟩
      case inr =>
        have p1 : (i : Int) < (x.length : Int) := by omega
        have p3 : ((x[i]).toNat : Int) = 35 := hb.out hlt
        rcases Nat.eq_or_lt_of_le hcap3 with hcq | hcq
        case inl =>
          have HDq : Hid (RdK wr 1 (some ⟨gb, off, none⟩) 0 ((ls.map vS).drop nn)) := Lib.hid (by have := HDr.out.1 hcq.symm; rwa [show n - nn = 0 by omega] at this)
          subst hcq
          go_wp2_with fail
          refine wp_region_krip (KS wr.heap.size nn (vS x)) KS.refl KS.trans 14 (by kernel_rfl) (by kernel_rfl) (Ts := [some (.inr (fun v W => EmpS wr.heap.size v W)), none, none, none, some (.inr (fun v W => OwnS wr.heap.size ((ls.take nn).map vS) v W)), none, none, none, some (.inl (vS x)), some (.inr (fun v W => OneS (vS x) v W)), some (.inr (fun v W => OwnS wr.heap.size ((ls.take nn).map vS ++ [vS x]) v W)), none, none, none]) ?_
          simp only [List.take, List.drop]
          refine kAll_tn _ (fun v W W' hk h => h.ks hk) (fun W hW hF => kStep_of fun K Q hK => ?_) (fun u0 K hK => ?_)
          · have hsz : wr.heap.size ≤ W.heap.size := hW.size
            go_simp
            exact hK _ _ (KS.of_keep0 ((Keep.refl _ _).alloc _)) ⟨_, rfl, Blk.new _ _ _, hsz⟩
          go_simp
          generalize hZ : (Act.mk _ _) = Z
          refine hK Z ?_
          subst hZ
          clear hK K
          refine kAll_p (fun K hK => ?_)
          go_simp
          generalize hZ : (Act.mk _ _) = Z
          refine hK Z ?_
          subst hZ
          clear hK K
          refine kAll_p (fun K hK => ?_)
          go_simp
          generalize hZ : (Act.mk _ _) = Z
          refine hK Z ?_
          subst hZ
          clear hK K
          refine kAll_p (fun K hK => ?_)
          go_simp
          generalize hZ : (Act.mk _ _) = Z
          refine hK Z ?_
          subst hZ
          clear hK K
          refine kAll_tn _ (fun v W W' hk h => h.ks (Nat.le_refl _) (.inl HTl.out) hk) (fun W hW hF => kStep_of fun K Q hK => ?_) (fun u1 K hK => ?_)
          · obtain ⟨g1, rfl, hg1, hB1⟩ := (show EmpS wr.heap.size u0 W from kHas_at hF 0 rfl (by kernel_rfl))
            have hsz : wr.heap.size ≤ W.heap.size := hW.size
            have hRd := HRd.out.keep0 (keepDS hW)
            obtain ⟨v', w', q1, q2, q3⟩ := run_append_empS (P := Tryz.prog) 29 29 i0 _ Tryz.underlying29 HI0.out HZ0.out HZ1.out HZ2.out rfl g1 (d := _) hRd (by omega) (by omega)
            refine wp_append_runS _ _ _ rfl rfl rfl q1 ?_
            exact hK _ _ (KS.of_keep0 q3) (q2.up hsz)
          go_simp
          generalize hZ : (Act.mk _ _) = Z
          refine hK Z ?_
          subst hZ
          clear hK K
          refine kAll_p (fun K hK => ?_)
          go_simp
          generalize hZ : (Act.mk _ _) = Z
          refine hK Z ?_
          subst hZ
          clear hK K
          refine kAll_p (fun K hK => ?_)
          go_simp
          generalize hZ : (Act.mk _ _) = Z
          refine hK Z ?_
          subst hZ
          clear hK K
          refine kAll_p (fun K hK => ?_)
          go_simp
          generalize hZ : (Act.mk _ _) = Z
          refine hK Z ?_
          subst hZ
          clear hK K
          refine kAll_dn _ (fun W hW hF => kStep_of fun K Q hK => ?_) (fun K hK => ?_)
          · have c0 := hW.cell (show World.cell? (World.drew _) ⟨gb, off + k, none⟩ = some (vS x) from HC.out) (World.block_lt_of_cell? _ _ HC.out)
            unfold vS at c0
            go_simp
            exact hK _ _ (KS.refl _) rfl
          go_simp
          generalize hZ : (Act.mk _ _) = Z
          refine hK Z ?_
          subst hZ
          clear hK K
          refine kAll_tn _ (fun v W W' hk h => h.ks hk (by omega)) (fun W hW hF => kStep_of fun K Q hK => ?_) (fun u2 K hK => ?_)
          · unfold vS
            go_simp
            exact hK _ _ (KS.of_keep0 ((Keep.refl _ _).alloc _)) ⟨_, rfl, Blk.new _ _ _⟩
          go_simp
          generalize hZ : (Act.mk _ _) = Z
          refine hK Z ?_
          subst hZ
          clear hK K
          refine kAll_tn _ (fun v W W' hk h => h.ks (Nat.le_refl _) (.inr ⟨_, rfl, HTl.out⟩) hk) (fun W hW hF => kStep_of fun K Q hK => ?_) (fun u3 K hK => ?_)
          · have h1 := (show OwnS wr.heap.size ((ls.take nn).map vS) u1 W from kHas_at hF 1 rfl (by kernel_rfl))
            have h2 := (show OneS (vS x) u2 W from kHas_at hF 0 rfl (by kernel_rfl))
            have hsz : wr.heap.size ≤ W.heap.size := hW.size
            obtain ⟨v', w', q1, q2, q3⟩ := run_append_ks (P := Tryz.prog) 29 29 i0 _ Tryz.underlying29 HI0.out HZ0.out HZ1.out HZ2.out rfl rfl h1 h2 hsz (by rw [HTl.out]; omega)
            rw [HTl.out] at q3
            refine wp_append_runS _ _ _ rfl rfl rfl q1 ?_
            exact hK _ _ q3 q2
          go_simp
          generalize hZ : (Act.mk _ _) = Z
          refine hK Z ?_
          subst hZ
          clear hK K
          refine kAll_p (fun K hK => ?_)
          go_simp
          generalize hZ : (Act.mk _ _) = Z
          refine hK Z ?_
          subst hZ
          clear hK K
          refine kAll_p (fun K hK => ?_)
          go_simp
          generalize hZ : (Act.mk _ _) = Z
          refine hK Z ?_
          subst hZ
          clear hK K
          refine kAll_p (fun K hK => ?_)
          go_simp
          generalize hZ : (Act.mk _ _) = Z
          refine hK Z ?_
          subst hZ
          clear hK K
          refine kAll_nil (fun W hW hF => ?_)
          obtain ⟨g8, c8, e8, hB8, hs8⟩ := (show OwnS wr.heap.size ((ls.take nn).map vS ++ [vS x]) u3 W from hF.1).slK
          have e9 : ((ls.take nn).map vS ++ [vS x]).length = nn + 1 := by rw [List.length_append, HTl.out]; rfl
          rw [e9] at e8 hs8
          subst e8
          have HS8 := Lib.hid hs8
          have HB8 := Lib.hid hB8
          have HK8 := Lib.hid (keepDS hW)
          have HD8 := Lib.hid (HDq.out.keep0 HK8.out)
          clear hF hs8 hW hB8
          go_wp2_with (at_builtin; refine wpList_append_slK rfl _ _ _ rfl i0 _ 16 Tryz.underlying29 HI0.out HZ0.out HZ1.out HZ2.out rfl (by omega) HS8.out rfl rfl HD8.out (fun u hu => by obtain ⟨y, _, rfl⟩ := List.mem_map.1 (List.mem_of_mem_drop hu); rfl) (by unfold maxLen; omega) (by omega) ?_; intro row2 A3 c5 w4 hs4 hr4
                       have HS4 := Lib.hid hs4
                       have HGr : Hid (Keep (fun _ => False) wr w4) := Lib.hid (by
                         rcases hr4 with ⟨_, _, _, _, rfl⟩ | hr4
                         · exact HK8.out
                         · exact hr4.keep0 HK8.out (fun g hg => by injection hg with hg; have := HB8.out; omega))
                       clear hs4 hr4)
          have HK4 := Lib.hid (keep0_trans _ _ _ HK2.out HGr.out)
          refine (together_any (tw ls k nn) A3 _ c5 _ (by rw [HTp.out x HGd.out]; exact HS4.out.rd) (by omega) (fun y hy => Nat.le_trans (HTm.out y hy) (by decide))).mono ?_
          rintro e W3 ⟨rfl, hk3⟩
          have HK3 := Lib.hid (keep0_trans _ _ _ HK4.out hk3)
          clear hk3
          have hlenJ : (Lib.join (tw ls k nn) [10]).length ≤ 40000000 := by
            have h1 := join_len [10] (tw ls k nn) (k := 3000) HTm.out
            rw [HTn.out] at h1
            exact Nat.le_trans h1 (by simp only [List.length_cons, List.length_nil]; omega)
          obtain ⟨J, hJ⟩ : ∃ J, Lib.join (tw ls k nn) [10] = J := ⟨_, rfl⟩
          rw [hJ] at HPar hlenJ ⊢
          clear hJ
          rcases kb with _ | _
          all_goals
            go_wp2_with fail
            refine (parse_is HPar.out _ (HE.out.keep0 HK3.out) hlenJ).mono ?_
            rintro e W5 ⟨row, A5, cap5, rfl, hs, hr, hk⟩
            have HK5 := Lib.hid (keep0_trans _ _ _ HK3.out hk)
            clear hs hr hk
            go_wp2
            go_ret
            exact ⟨rfl, below_of HK5.out⟩
        case inr =>
          have HDq := Lib.hid (HDr.out.2 (by omega))
          have hcq1 : ¬ cap = nn := by omega
          have hcq2 : ¬ nn = cap := by omega
          go_wp2_with fail
          refine wp_region_krip (KS wr.heap.size nn (vS x)) KS.refl KS.trans 14 (by kernel_rfl) (by kernel_rfl) (Ts := [some (.inr (fun v W => EmpS wr.heap.size v W)), none, none, none, some (.inr (fun v W => OwnS wr.heap.size ((ls.take nn).map vS) v W)), none, none, none, some (.inl (vS x)), some (.inr (fun v W => OneS (vS x) v W)), some (.inr (fun v W => OwnS wr.heap.size ((ls.take nn).map vS ++ [vS x]) v W)), none, none, none]) ?_
          simp only [List.take, List.drop]
          refine kAll_tn _ (fun v W W' hk h => h.ks hk) (fun W hW hF => kStep_of fun K Q hK => ?_) (fun u0 K hK => ?_)
          · have hsz : wr.heap.size ≤ W.heap.size := hW.size
            go_simp
            exact hK _ _ (KS.of_keep0 ((Keep.refl _ _).alloc _)) ⟨_, rfl, Blk.new _ _ _, hsz⟩
          go_simp
          generalize hZ : (Act.mk _ _) = Z
          refine hK Z ?_
          subst hZ
          clear hK K
          refine kAll_p (fun K hK => ?_)
          go_simp
          generalize hZ : (Act.mk _ _) = Z
          refine hK Z ?_
          subst hZ
          clear hK K
          refine kAll_p (fun K hK => ?_)
          go_simp
          generalize hZ : (Act.mk _ _) = Z
          refine hK Z ?_
          subst hZ
          clear hK K
          refine kAll_p (fun K hK => ?_)
          go_simp
          generalize hZ : (Act.mk _ _) = Z
          refine hK Z ?_
          subst hZ
          clear hK K
          refine kAll_tn _ (fun v W W' hk h => h.ks (Nat.le_refl _) (.inl HTl.out) hk) (fun W hW hF => kStep_of fun K Q hK => ?_) (fun u1 K hK => ?_)
          · obtain ⟨g1, rfl, hg1, hB1⟩ := (show EmpS wr.heap.size u0 W from kHas_at hF 0 rfl (by kernel_rfl))
            have hsz : wr.heap.size ≤ W.heap.size := hW.size
            have hRd := HRd.out.keep0 (keepDS hW)
            obtain ⟨v', w', q1, q2, q3⟩ := run_append_empS (P := Tryz.prog) 29 29 i0 _ Tryz.underlying29 HI0.out HZ0.out HZ1.out HZ2.out rfl g1 (d := _) hRd (by omega) (by omega)
            refine wp_append_runS _ _ _ rfl rfl rfl q1 ?_
            exact hK _ _ (KS.of_keep0 q3) (q2.up hsz)
          go_simp
          generalize hZ : (Act.mk _ _) = Z
          refine hK Z ?_
          subst hZ
          clear hK K
          refine kAll_p (fun K hK => ?_)
          go_simp
          generalize hZ : (Act.mk _ _) = Z
          refine hK Z ?_
          subst hZ
          clear hK K
          refine kAll_p (fun K hK => ?_)
          go_simp
          generalize hZ : (Act.mk _ _) = Z
          refine hK Z ?_
          subst hZ
          clear hK K
          refine kAll_p (fun K hK => ?_)
          go_simp
          generalize hZ : (Act.mk _ _) = Z
          refine hK Z ?_
          subst hZ
          clear hK K
          refine kAll_dn _ (fun W hW hF => kStep_of fun K Q hK => ?_) (fun K hK => ?_)
          · have c0 := hW.cell (show World.cell? (World.drew _) ⟨gb, off + k, none⟩ = some (vS x) from HC.out) (World.block_lt_of_cell? _ _ HC.out)
            unfold vS at c0
            go_simp
            exact hK _ _ (KS.refl _) rfl
          go_simp
          generalize hZ : (Act.mk _ _) = Z
          refine hK Z ?_
          subst hZ
          clear hK K
          refine kAll_tn _ (fun v W W' hk h => h.ks hk (by omega)) (fun W hW hF => kStep_of fun K Q hK => ?_) (fun u2 K hK => ?_)
          · unfold vS
            go_simp
            exact hK _ _ (KS.of_keep0 ((Keep.refl _ _).alloc _)) ⟨_, rfl, Blk.new _ _ _⟩
          go_simp
          generalize hZ : (Act.mk _ _) = Z
          refine hK Z ?_
          subst hZ
          clear hK K
          refine kAll_tn _ (fun v W W' hk h => h.ks (Nat.le_refl _) (.inr ⟨_, rfl, HTl.out⟩) hk) (fun W hW hF => kStep_of fun K Q hK => ?_) (fun u3 K hK => ?_)
          · have h1 := (show OwnS wr.heap.size ((ls.take nn).map vS) u1 W from kHas_at hF 1 rfl (by kernel_rfl))
            have h2 := (show OneS (vS x) u2 W from kHas_at hF 0 rfl (by kernel_rfl))
            have hsz : wr.heap.size ≤ W.heap.size := hW.size
            obtain ⟨v', w', q1, q2, q3⟩ := run_append_ks (P := Tryz.prog) 29 29 i0 _ Tryz.underlying29 HI0.out HZ0.out HZ1.out HZ2.out rfl rfl h1 h2 hsz (by rw [HTl.out]; omega)
            rw [HTl.out] at q3
            refine wp_append_runS _ _ _ rfl rfl rfl q1 ?_
            exact hK _ _ q3 q2
          go_simp
          generalize hZ : (Act.mk _ _) = Z
          refine hK Z ?_
          subst hZ
          clear hK K
          refine kAll_p (fun K hK => ?_)
          go_simp
          generalize hZ : (Act.mk _ _) = Z
          refine hK Z ?_
          subst hZ
          clear hK K
          refine kAll_p (fun K hK => ?_)
          go_simp
          generalize hZ : (Act.mk _ _) = Z
          refine hK Z ?_
          subst hZ
          clear hK K
          refine kAll_p (fun K hK => ?_)
          go_simp
          generalize hZ : (Act.mk _ _) = Z
          refine hK Z ?_
          subst hZ
          clear hK K
          refine kAll_nil (fun W hW hF => ?_)
          obtain ⟨g8, c8, e8, hB8, hs8⟩ := (show OwnS wr.heap.size ((ls.take nn).map vS ++ [vS x]) u3 W from hF.1).slK
          have e9 : ((ls.take nn).map vS ++ [vS x]).length = nn + 1 := by rw [List.length_append, HTl.out]; rfl
          rw [e9] at e8 hs8
          subst e8
          have HS8 := Lib.hid hs8
          have HB8 := Lib.hid hB8
          have HK8 := Lib.hid (keepDS hW)
          have HD8 := Lib.hid (HDq.out.keep0 HK8.out)
          clear hF hs8 hW hB8
          go_wp2_with (at_builtin; refine wpList_append_slK rfl _ _ _ rfl i0 _ 16 Tryz.underlying29 HI0.out HZ0.out HZ1.out HZ2.out rfl (by omega) HS8.out rfl rfl HD8.out (fun u hu => by obtain ⟨y, _, rfl⟩ := List.mem_map.1 (List.mem_of_mem_drop hu); rfl) (by unfold maxLen; omega) (by omega) ?_; intro row2 A3 c5 w4 hs4 hr4
                       have HS4 := Lib.hid hs4
                       have HGr : Hid (Keep (fun _ => False) wr w4) := Lib.hid (by
                         rcases hr4 with ⟨_, _, _, _, rfl⟩ | hr4
                         · exact HK8.out
                         · exact hr4.keep0 HK8.out (fun g hg => by injection hg with hg; have := HB8.out; omega))
                       clear hs4 hr4)
          have HK4 := Lib.hid (keep0_trans _ _ _ HK2.out HGr.out)
          refine (together_any (tw ls k nn) A3 _ c5 _ (by rw [HTp.out x HGd.out]; exact HS4.out.rd) (by omega) (fun y hy => Nat.le_trans (HTm.out y hy) (by decide))).mono ?_
          rintro e W3 ⟨rfl, hk3⟩
          have HK3 := Lib.hid (keep0_trans _ _ _ HK4.out hk3)
          clear hk3
          have hlenJ : (Lib.join (tw ls k nn) [10]).length ≤ 40000000 := by
            have h1 := join_len [10] (tw ls k nn) (k := 3000) HTm.out
            rw [HTn.out] at h1
            exact Nat.le_trans h1 (by simp only [List.length_cons, List.length_nil]; omega)
          obtain ⟨J, hJ⟩ : ∃ J, Lib.join (tw ls k nn) [10] = J := ⟨_, rfl⟩
          rw [hJ] at HPar hlenJ ⊢
          clear hJ
          rcases kb with _ | _
          all_goals
            go_wp2_with fail
            refine (parse_is HPar.out _ (HE.out.keep0 HK3.out) hlenJ).mono ?_
            rintro e W5 ⟨row, A5, cap5, rfl, hs, hr, hk⟩
            have HK5 := Lib.hid (keep0_trans _ _ _ HK3.out hk)
            clear hs hr hk
            go_wp2
            go_ret
            exact ⟨rfl, below_of HK5.out⟩
      case inl =>
        rcases Nat.eq_or_lt_of_le hcap3 with hcq | hcq
        case inl =>
          have HDq : Hid (RdK wr 1 (some ⟨gb, off, none⟩) 0 ((ls.map vS).drop nn)) := Lib.hid (by have := HDr.out.1 hcq.symm; rwa [show n - nn = 0 by omega] at this)
          subst hcq
          go_wp2_with fail
          refine wp_region_krip (KS wr.heap.size nn (vS x)) KS.refl KS.trans 14 (by kernel_rfl) (by kernel_rfl) (Ts := [some (.inr (fun v W => EmpS wr.heap.size v W)), none, none, none, some (.inr (fun v W => OwnS wr.heap.size ((ls.take nn).map vS) v W)), none, none, none, some (.inl (vS x)), some (.inr (fun v W => OneS (vS x) v W)), some (.inr (fun v W => OwnS wr.heap.size ((ls.take nn).map vS ++ [vS x]) v W)), none, none, none]) ?_
          simp only [List.take, List.drop]
          refine kAll_tn _ (fun v W W' hk h => h.ks hk) (fun W hW hF => kStep_of fun K Q hK => ?_) (fun u0 K hK => ?_)
          · have hsz : wr.heap.size ≤ W.heap.size := hW.size
            go_simp
            exact hK _ _ (KS.of_keep0 ((Keep.refl _ _).alloc _)) ⟨_, rfl, Blk.new _ _ _, hsz⟩
          go_simp
          generalize hZ : (Act.mk _ _) = Z
          refine hK Z ?_
          subst hZ
          clear hK K
          refine kAll_p (fun K hK => ?_)
          go_simp
          generalize hZ : (Act.mk _ _) = Z
          refine hK Z ?_
          subst hZ
          clear hK K
          refine kAll_p (fun K hK => ?_)
          go_simp
          generalize hZ : (Act.mk _ _) = Z
          refine hK Z ?_
          subst hZ
          clear hK K
          refine kAll_p (fun K hK => ?_)
          go_simp
          generalize hZ : (Act.mk _ _) = Z
          refine hK Z ?_
          subst hZ
          clear hK K
          refine kAll_tn _ (fun v W W' hk h => h.ks (Nat.le_refl _) (.inl HTl.out) hk) (fun W hW hF => kStep_of fun K Q hK => ?_) (fun u1 K hK => ?_)
          · obtain ⟨g1, rfl, hg1, hB1⟩ := (show EmpS wr.heap.size u0 W from kHas_at hF 0 rfl (by kernel_rfl))
            have hsz : wr.heap.size ≤ W.heap.size := hW.size
            have hRd := HRd.out.keep0 (keepDS hW)
            obtain ⟨v', w', q1, q2, q3⟩ := run_append_empS (P := Tryz.prog) 29 29 i0 _ Tryz.underlying29 HI0.out HZ0.out HZ1.out HZ2.out rfl g1 (d := _) hRd (by omega) (by omega)
            refine wp_append_runS _ _ _ rfl rfl rfl q1 ?_
            exact hK _ _ (KS.of_keep0 q3) (q2.up hsz)
          go_simp
          generalize hZ : (Act.mk _ _) = Z
          refine hK Z ?_
          subst hZ
          clear hK K
          refine kAll_p (fun K hK => ?_)
          go_simp
          generalize hZ : (Act.mk _ _) = Z
          refine hK Z ?_
          subst hZ
          clear hK K
          refine kAll_p (fun K hK => ?_)
          go_simp
          generalize hZ : (Act.mk _ _) = Z
          refine hK Z ?_
          subst hZ
          clear hK K
          refine kAll_p (fun K hK => ?_)
          go_simp
          generalize hZ : (Act.mk _ _) = Z
          refine hK Z ?_
          subst hZ
          clear hK K
          refine kAll_dn _ (fun W hW hF => kStep_of fun K Q hK => ?_) (fun K hK => ?_)
          · have c0 := hW.cell (show World.cell? (World.drew _) ⟨gb, off + k, none⟩ = some (vS x) from HC.out) (World.block_lt_of_cell? _ _ HC.out)
            unfold vS at c0
            go_simp
            exact hK _ _ (KS.refl _) rfl
          go_simp
          generalize hZ : (Act.mk _ _) = Z
          refine hK Z ?_
          subst hZ
          clear hK K
          refine kAll_tn _ (fun v W W' hk h => h.ks hk (by omega)) (fun W hW hF => kStep_of fun K Q hK => ?_) (fun u2 K hK => ?_)
          · unfold vS
            go_simp
            exact hK _ _ (KS.of_keep0 ((Keep.refl _ _).alloc _)) ⟨_, rfl, Blk.new _ _ _⟩
          go_simp
          generalize hZ : (Act.mk _ _) = Z
          refine hK Z ?_
          subst hZ
          clear hK K
          refine kAll_tn _ (fun v W W' hk h => h.ks (Nat.le_refl _) (.inr ⟨_, rfl, HTl.out⟩) hk) (fun W hW hF => kStep_of fun K Q hK => ?_) (fun u3 K hK => ?_)
          · have h1 := (show OwnS wr.heap.size ((ls.take nn).map vS) u1 W from kHas_at hF 1 rfl (by kernel_rfl))
            have h2 := (show OneS (vS x) u2 W from kHas_at hF 0 rfl (by kernel_rfl))
            have hsz : wr.heap.size ≤ W.heap.size := hW.size
            obtain ⟨v', w', q1, q2, q3⟩ := run_append_ks (P := Tryz.prog) 29 29 i0 _ Tryz.underlying29 HI0.out HZ0.out HZ1.out HZ2.out rfl rfl h1 h2 hsz (by rw [HTl.out]; omega)
            rw [HTl.out] at q3
            refine wp_append_runS _ _ _ rfl rfl rfl q1 ?_
            exact hK _ _ q3 q2
          go_simp
          generalize hZ : (Act.mk _ _) = Z
          refine hK Z ?_
          subst hZ
          clear hK K
          refine kAll_p (fun K hK => ?_)
          go_simp
          generalize hZ : (Act.mk _ _) = Z
          refine hK Z ?_
          subst hZ
          clear hK K
          refine kAll_p (fun K hK => ?_)
          go_simp
          generalize hZ : (Act.mk _ _) = Z
          refine hK Z ?_
          subst hZ
          clear hK K
          refine kAll_p (fun K hK => ?_)
          go_simp
          generalize hZ : (Act.mk _ _) = Z
          refine hK Z ?_
          subst hZ
          clear hK K
          refine kAll_nil (fun W hW hF => ?_)
          obtain ⟨g8, c8, e8, hB8, hs8⟩ := (show OwnS wr.heap.size ((ls.take nn).map vS ++ [vS x]) u3 W from hF.1).slK
          have e9 : ((ls.take nn).map vS ++ [vS x]).length = nn + 1 := by rw [List.length_append, HTl.out]; rfl
          rw [e9] at e8 hs8
          subst e8
          have HS8 := Lib.hid hs8
          have HB8 := Lib.hid hB8
          have HK8 := Lib.hid (keepDS hW)
          have HD8 := Lib.hid (HDq.out.keep0 HK8.out)
          clear hF hs8 hW hB8
          go_wp2_with (at_builtin; refine wpList_append_slK rfl _ _ _ rfl i0 _ 16 Tryz.underlying29 HI0.out HZ0.out HZ1.out HZ2.out rfl (by omega) HS8.out rfl rfl HD8.out (fun u hu => by obtain ⟨y, _, rfl⟩ := List.mem_map.1 (List.mem_of_mem_drop hu); rfl) (by unfold maxLen; omega) (by omega) ?_; intro row2 A3 c5 w4 hs4 hr4
                       have HS4 := Lib.hid hs4
                       have HGr : Hid (Keep (fun _ => False) wr w4) := Lib.hid (by
                         rcases hr4 with ⟨_, _, _, _, rfl⟩ | hr4
                         · exact HK8.out
                         · exact hr4.keep0 HK8.out (fun g hg => by injection hg with hg; have := HB8.out; omega))
                       clear hs4 hr4)
          have HK4 := Lib.hid (keep0_trans _ _ _ HK2.out HGr.out)
          refine (together_any (tw ls k nn) A3 _ c5 _ (by rw [HTp.out x HGd.out]; exact HS4.out.rd) (by omega) (fun y hy => Nat.le_trans (HTm.out y hy) (by decide))).mono ?_
          rintro e W3 ⟨rfl, hk3⟩
          have HK3 := Lib.hid (keep0_trans _ _ _ HK4.out hk3)
          clear hk3
          have hlenJ : (Lib.join (tw ls k nn) [10]).length ≤ 40000000 := by
            have h1 := join_len [10] (tw ls k nn) (k := 3000) HTm.out
            rw [HTn.out] at h1
            exact Nat.le_trans h1 (by simp only [List.length_cons, List.length_nil]; omega)
          obtain ⟨J, hJ⟩ : ∃ J, Lib.join (tw ls k nn) [10] = J := ⟨_, rfl⟩
          rw [hJ] at HPar hlenJ ⊢
          clear hJ
          rcases kb with _ | _
          all_goals
            go_wp2_with fail
            refine (parse_is HPar.out _ (HE.out.keep0 HK3.out) hlenJ).mono ?_
            rintro e W5 ⟨row, A5, cap5, rfl, hs, hr, hk⟩
            have HK5 := Lib.hid (keep0_trans _ _ _ HK3.out hk)
            clear hs hr hk
            go_wp2
            go_ret
            exact ⟨rfl, below_of HK5.out⟩
        case inr =>
          have HDq := Lib.hid (HDr.out.2 (by omega))
          have hcq1 : ¬ cap = nn := by omega
          have hcq2 : ¬ nn = cap := by omega
          go_wp2_with fail
          refine wp_region_krip (KS wr.heap.size nn (vS x)) KS.refl KS.trans 14 (by kernel_rfl) (by kernel_rfl) (Ts := [some (.inr (fun v W => EmpS wr.heap.size v W)), none, none, none, some (.inr (fun v W => OwnS wr.heap.size ((ls.take nn).map vS) v W)), none, none, none, some (.inl (vS x)), some (.inr (fun v W => OneS (vS x) v W)), some (.inr (fun v W => OwnS wr.heap.size ((ls.take nn).map vS ++ [vS x]) v W)), none, none, none]) ?_
          simp only [List.take, List.drop]
          refine kAll_tn _ (fun v W W' hk h => h.ks hk) (fun W hW hF => kStep_of fun K Q hK => ?_) (fun u0 K hK => ?_)
          · have hsz : wr.heap.size ≤ W.heap.size := hW.size
            go_simp
            exact hK _ _ (KS.of_keep0 ((Keep.refl _ _).alloc _)) ⟨_, rfl, Blk.new _ _ _, hsz⟩
          go_simp
          generalize hZ : (Act.mk _ _) = Z
          refine hK Z ?_
          subst hZ
          clear hK K
          refine kAll_p (fun K hK => ?_)
          go_simp
          generalize hZ : (Act.mk _ _) = Z
          refine hK Z ?_
          subst hZ
          clear hK K
          refine kAll_p (fun K hK => ?_)
          go_simp
          generalize hZ : (Act.mk _ _) = Z
          refine hK Z ?_
          subst hZ
          clear hK K
          refine kAll_p (fun K hK => ?_)
          go_simp
          generalize hZ : (Act.mk _ _) = Z
          refine hK Z ?_
          subst hZ
          clear hK K
          refine kAll_tn _ (fun v W W' hk h => h.ks (Nat.le_refl _) (.inl HTl.out) hk) (fun W hW hF => kStep_of fun K Q hK => ?_) (fun u1 K hK => ?_)
          · obtain ⟨g1, rfl, hg1, hB1⟩ := (show EmpS wr.heap.size u0 W from kHas_at hF 0 rfl (by kernel_rfl))
            have hsz : wr.heap.size ≤ W.heap.size := hW.size
            have hRd := HRd.out.keep0 (keepDS hW)
            obtain ⟨v', w', q1, q2, q3⟩ := run_append_empS (P := Tryz.prog) 29 29 i0 _ Tryz.underlying29 HI0.out HZ0.out HZ1.out HZ2.out rfl g1 (d := _) hRd (by omega) (by omega)
            refine wp_append_runS _ _ _ rfl rfl rfl q1 ?_
            exact hK _ _ (KS.of_keep0 q3) (q2.up hsz)
          go_simp
          generalize hZ : (Act.mk _ _) = Z
          refine hK Z ?_
          subst hZ
          clear hK K
          refine kAll_p (fun K hK => ?_)
          go_simp
          generalize hZ : (Act.mk _ _) = Z
          refine hK Z ?_
          subst hZ
          clear hK K
          refine kAll_p (fun K hK => ?_)
          go_simp
          generalize hZ : (Act.mk _ _) = Z
          refine hK Z ?_
          subst hZ
          clear hK K
          refine kAll_p (fun K hK => ?_)
          go_simp
          generalize hZ : (Act.mk _ _) = Z
          refine hK Z ?_
          subst hZ
          clear hK K
          refine kAll_dn _ (fun W hW hF => kStep_of fun K Q hK => ?_) (fun K hK => ?_)
          · have c0 := hW.cell (show World.cell? (World.drew _) ⟨gb, off + k, none⟩ = some (vS x) from HC.out) (World.block_lt_of_cell? _ _ HC.out)
            unfold vS at c0
            go_simp
            exact hK _ _ (KS.refl _) rfl
          go_simp
          generalize hZ : (Act.mk _ _) = Z
          refine hK Z ?_
          subst hZ
          clear hK K
          refine kAll_tn _ (fun v W W' hk h => h.ks hk (by omega)) (fun W hW hF => kStep_of fun K Q hK => ?_) (fun u2 K hK => ?_)
          · unfold vS
            go_simp
            exact hK _ _ (KS.of_keep0 ((Keep.refl _ _).alloc _)) ⟨_, rfl, Blk.new _ _ _⟩
          go_simp
          generalize hZ : (Act.mk _ _) = Z
          refine hK Z ?_
          subst hZ
          clear hK K
          refine kAll_tn _ (fun v W W' hk h => h.ks (Nat.le_refl _) (.inr ⟨_, rfl, HTl.out⟩) hk) (fun W hW hF => kStep_of fun K Q hK => ?_) (fun u3 K hK => ?_)
          · have h1 := (show OwnS wr.heap.size ((ls.take nn).map vS) u1 W from kHas_at hF 1 rfl (by kernel_rfl))
            have h2 := (show OneS (vS x) u2 W from kHas_at hF 0 rfl (by kernel_rfl))
            have hsz : wr.heap.size ≤ W.heap.size := hW.size
            obtain ⟨v', w', q1, q2, q3⟩ := run_append_ks (P := Tryz.prog) 29 29 i0 _ Tryz.underlying29 HI0.out HZ0.out HZ1.out HZ2.out rfl rfl h1 h2 hsz (by rw [HTl.out]; omega)
            rw [HTl.out] at q3
            refine wp_append_runS _ _ _ rfl rfl rfl q1 ?_
            exact hK _ _ q3 q2
          go_simp
          generalize hZ : (Act.mk _ _) = Z
          refine hK Z ?_
          subst hZ
          clear hK K
          refine kAll_p (fun K hK => ?_)
          go_simp
          generalize hZ : (Act.mk _ _) = Z
          refine hK Z ?_
          subst hZ
          clear hK K
          refine kAll_p (fun K hK => ?_)
          go_simp
          generalize hZ : (Act.mk _ _) = Z
          refine hK Z ?_
          subst hZ
          clear hK K
          refine kAll_p (fun K hK => ?_)
          go_simp
          generalize hZ : (Act.mk _ _) = Z
          refine hK Z ?_
          subst hZ
          clear hK K
          refine kAll_nil (fun W hW hF => ?_)
          obtain ⟨g8, c8, e8, hB8, hs8⟩ := (show OwnS wr.heap.size ((ls.take nn).map vS ++ [vS x]) u3 W from hF.1).slK
          have e9 : ((ls.take nn).map vS ++ [vS x]).length = nn + 1 := by rw [List.length_append, HTl.out]; rfl
          rw [e9] at e8 hs8
          subst e8
          have HS8 := Lib.hid hs8
          have HB8 := Lib.hid hB8
          have HK8 := Lib.hid (keepDS hW)
          have HD8 := Lib.hid (HDq.out.keep0 HK8.out)
          clear hF hs8 hW hB8
          go_wp2_with (at_builtin; refine wpList_append_slK rfl _ _ _ rfl i0 _ 16 Tryz.underlying29 HI0.out HZ0.out HZ1.out HZ2.out rfl (by omega) HS8.out rfl rfl HD8.out (fun u hu => by obtain ⟨y, _, rfl⟩ := List.mem_map.1 (List.mem_of_mem_drop hu); rfl) (by unfold maxLen; omega) (by omega) ?_; intro row2 A3 c5 w4 hs4 hr4
                       have HS4 := Lib.hid hs4
                       have HGr : Hid (Keep (fun _ => False) wr w4) := Lib.hid (by
                         rcases hr4 with ⟨_, _, _, _, rfl⟩ | hr4
                         · exact HK8.out
                         · exact hr4.keep0 HK8.out (fun g hg => by injection hg with hg; have := HB8.out; omega))
                       clear hs4 hr4)
          have HK4 := Lib.hid (keep0_trans _ _ _ HK2.out HGr.out)
          refine (together_any (tw ls k nn) A3 _ c5 _ (by rw [HTp.out x HGd.out]; exact HS4.out.rd) (by omega) (fun y hy => Nat.le_trans (HTm.out y hy) (by decide))).mono ?_
          rintro e W3 ⟨rfl, hk3⟩
          have HK3 := Lib.hid (keep0_trans _ _ _ HK4.out hk3)
          clear hk3
          have hlenJ : (Lib.join (tw ls k nn) [10]).length ≤ 40000000 := by
            have h1 := join_len [10] (tw ls k nn) (k := 3000) HTm.out
            rw [HTn.out] at h1
            exact Nat.le_trans h1 (by simp only [List.length_cons, List.length_nil]; omega)
          obtain ⟨J, hJ⟩ : ∃ J, Lib.join (tw ls k nn) [10] = J := ⟨_, rfl⟩
          rw [hJ] at HPar hlenJ ⊢
          clear hJ
          rcases kb with _ | _
          all_goals
            go_wp2_with fail
            refine (parse_is HPar.out _ (HE.out.keep0 HK3.out) hlenJ).mono ?_
            rintro e W5 ⟨row, A5, cap5, rfl, hs, hr, hk⟩
            have HK5 := Lib.hid (keep0_trans _ _ _ HK3.out hk)
            clear hs hr hk
            go_wp2
            go_ret
            exact ⟨rfl, below_of HK5.out⟩
end Go.Proofs.YtjgkalcldekmpaaGreatDoor
