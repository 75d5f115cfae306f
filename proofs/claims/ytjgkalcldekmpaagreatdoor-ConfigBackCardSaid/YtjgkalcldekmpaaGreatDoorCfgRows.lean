/-
  ConfigRows. Written by gen_rows.py.
-/
import Derived.Test.YtjgkalcldekmpaaGreatDoorCfgW
import Derived.Test.YtjgkalcldekmpaaGreatDoorCfgFirst
namespace Go.Proofs.YtjgkalcldekmpaaGreatDoor
open Go.RowKit Go Go.Shelf
set_option maxRecDepth 100000
attribute [local go_sem] bs_toList bs_size bs_zero bs_get

theorem wpList_load_rowG {P : Program} {ops : Array Oper} {rest : List Oper} {o : Oper} {a : Act} {w : World} {Q : Exit → Act → World → Prop} (hw : Region.wanted o (yielded ops a.tmps) = true) (ty : TypeId) (x : Operand) (ho : o.op = .load ty x)
    (g : Nat) (hx : a.eval x = .pointer (some ⟨g, 0, none⟩)) (t : TypeId) (cs : Array Value) (fr : Nat × Nat) (d : TypeDesc) (hg : w.heap[g]? = some (.cells cs t fr))
    (hu : P.underlying ty = some d) (hd : (match d with | .struct _ | .array _ _ => true | _ => false) = true) (hi : (P.info? ty).map (·.size) = some cs.size)
    (h : wpList P ops Q rest (a.put o.dst (.agg cs)) w) : wpList P ops Q (o :: rest) a w := by
  unfold wpList
  rw [if_pos hw]
  exact .inl (wp_load_row ty x ho g hx t cs fr d hg hu hd hi h)
theorem tri_eq (r x : Bs) : (tri r x).map vS = [.string (bs (32 :: 9 :: (x ++ 32 :: 32 :: 35 :: r))), .string (bs (35 :: 32 :: r)), .string { data := #[] }] := by
  unfold tri
  rw [List.map_cons, List.map_cons, List.map_cons, List.map_nil, show ([32, 9] : Bs) ++ x ++ [32, 32, 35] ++ r = 32 :: 9 :: (x ++ 32 :: 32 :: 35 :: r) by simp]
  rfl
theorem parse_zero {s : Bs} {c : Cfg} {l : Int} (h : parseM s = (c, l, 0)) : l = 0 ∧ ∃ st, pfold (nl s) = .ok st ∧ mayM st.1 = true ∧ st.1 = c := by
  cases hf : pfold (nl s) with
  | error e =>
    obtain ⟨k, _, _, e2, _⟩ := wrong_at (ls := spl 10 s) hf
    unfold parseM at h
    rw [hf] at h
    have h3 : e.2 = 0 := congrArg (fun x => x.2.2) h
    omega
  | ok st =>
    rw [parseM_ok hf] at h
    by_cases hm : mayM st.1 = true
    · rw [if_pos hm] at h
      injection h with h1 h2; injection h2 with h2 _
      exact ⟨h2.symm, st, rfl, hm, h1⟩
    · rw [if_neg hm] at h
      have h3 : (1 : Int) = 0 := congrArg (fun x => x.2.2) h
      omega
set_option maxHeartbeats 8000000 in
theorem walkConfigRows (s0 : ByteArray) (_w0 : s0.size ≤ maxLen) (a1 : Int) (_w1 : (Lit.int .i64 a1).wf = true) (s2 : ByteArray) (_w2 : s2.size ≤ maxLen) {w : World} (hE : Env w) :
    Calls Tryz.prog 3 #[.string s0, .int .i64 a1, .string s2] w fun e w' => e = .returned (.bool true) ∧ Below w.heap.size w w' := by
  obtain ⟨s, rfl⟩ : ∃ s, s0 = bs s := ⟨s0.data.toList, (bs_of s0).symm⟩
  obtain ⟨r, rfl⟩ : ∃ s, s2 = bs s := ⟨s2.data.toList, (bs_of s2).symm⟩
  have HE := Lib.hid hE
  clear hE _w0 _w1 _w2
  obtain ⟨i0, hi, hz0, hz1, hz2⟩ := info_parts infoStr
  have HI0 := Lib.hid hi
  have HZ0 := Lib.hid hz0
  have HZ1 := Lib.hid hz1
  have HZ2 := Lib.hid hz2
  clear hi hz0 hz1 hz2
  go_enter Tryz.func3, Tryz.ntmps3
  by_cases h1 : 3000 < s.length
  · have q1 : (3000 : Int) < (s.length : Int) := by omega
    go_wp2_with fail
    refine (awake_any w HE.out).mono ?_
    rintro e W1 ⟨rfl, hk⟩
    have HK := Lib.hid hk
    clear hk
    go_wp2
    go_ret
    exact ⟨rfl, below_of HK.out⟩
  have q1 : ¬ (3000 : Int) < (s.length : Int) := by omega
  by_cases h2 : 500 < r.length
  · have q2 : (500 : Int) < (r.length : Int) := by omega
    go_wp2_with fail
    refine (awake_any w HE.out).mono ?_
    rintro e W1 ⟨rfl, hk⟩
    have HK := Lib.hid hk
    clear hk
    go_wp2
    go_ret
    exact ⟨rfl, below_of HK.out⟩
  have q2 : ¬ (500 : Int) < (r.length : Int) := by omega
  go_wp2_with fail
  refine (awake_any w HE.out).mono ?_
  rintro e W0 ⟨rfl, hk⟩
  have HK0 := Lib.hid hk
  clear hk
  go_wp2
  go_loopw [7] (fun j wr => ∃ i : Nat, i ≤ r.length ∧ j = .int .i64 (i : Int) ∧ wr = W0 ∧ Hid (∀ x ∈ r.take i, ¬ x = 10)) (fun j _ => r.length - (intOf j).toNat)
  case atStart => exact ⟨0, Nat.zero_le _, rfl, rfl, Lib.hid (by simp)⟩
  case round =>
    obtain ⟨i, hil, rfl, rfl, HN⟩ := hrel
    have e2 : IntKind.i64.wrap ((i : Int) + 1) = (i : Int) + 1 := IntWalk.i64_in _ (by omega)
    by_cases hlt : i < r.length
    · have p1 : (i : Int) < (r.length : Int) := by omega
      have p2 : (0 : Int) ≤ (i : Int) := by omega
      have htk : r.take (i + 1) = r.take i ++ [r[i]] := by rw [List.take_add_one, List.getElem?_eq_getElem hlt]; rfl
      have HTk := Lib.hid htk
      clear htk
      by_cases hb : r[i] = 10
      · have p3 : ((r[i]).toNat : Int) = 10 := by rw [hb]; rfl
        go_wp2
        go_ret
        exact ⟨rfl, below_of HK0.out⟩
      · have p3 : ¬ ((r[i]).toNat : Int) = 10 := fun e => hb (UInt8.toNat_inj.1 (by show _ = 10; omega))
        have HB := Lib.hid hb
        clear hb
        go_wp2
        go_roundw
        case rel => exact ⟨i + 1, by omega, by go_num, trivial, Lib.hid (by
          rw [HTk.out]
          intro y hy
          rcases List.mem_append.1 hy with h | h
          · exact HN.out y h
          · rw [List.mem_singleton.1 h]; exact HB.out)⟩
        case measure => simp [intOf]; omega
    · obtain rfl : i = r.length := by omega
      have hno := HN.out
      rw [List.take_length] at hno
      have HNo := Lib.hid (contains_false.2 hno)
      clear hno HN
      obtain ⟨⟨c, l1, er⟩, hp⟩ : ∃ x, parseM s = x := ⟨_, rfl⟩
      have HP := Lib.hid hp
      have HWf := Lib.hid (show WfC c by have := parse_wf s; rwa [hp] at this)
      clear hp
      by_cases her : er = 0
      case neg =>
        go_wp2_with fail
        refine (parse_is HP.out _ (HE.out.keep0 HK0.out) (by omega)).mono ?_
        rintro e W1 ⟨row, A1, cap1, rfl, hs, hr, hk⟩
        have HR1 := Lib.hid hs.rd
        have HKw1 := Lib.hid (keep0_trans _ _ _ HK0.out hk)
        clear hs hr hk
        go_wp2_with (first | (refine wpList_store_row rfl 25 _ _ rfl W1.heap.size (cfgA (.slice A1 c.seeds.length cap1) c.v) rfl rfl 25 _ (Blk.new _ _ _) infoCfg rfl (cfgA_one _ _ _ _) ?_; obtain ⟨hbv, hkv⟩ := row_new (t := 25) W1 zc (cfgA (.slice A1 c.seeds.length cap1) c.v); unfold zc at hbv hkv; have HBn := Lib.hid hbv; have HKn := Lib.hid hkv; clear hbv hkv; generalize (W1.alloc (.cells #[.slice none 0 0, .int .i64 0, .int .i64 0, .int .i64 0, .int .i64 0, .int .i64 0, .int .i64 0, .int .i64 0, .int .u8 0, .int .i64 0, .bool false, .bool false, .int .i64 0, .int .i64 0, .int .i64 0, .int .i64 0, .int .i64 0] 25)).setRow W1.heap.size (cfgA (.slice A1 c.seeds.length cap1) c.v) = V1 at *) | fail)
        have HKV1 := Lib.hid (keep0_trans _ _ _ HKw1.out HKn.out)
        have HRV1 := Lib.hid (HR1.out.keep0 HKn.out)
        have HB1 := Lib.hid HBn.out
        clear HBn HKn HR1 HKw1
        clear HRV1 HB1
        go_ret
        exact ⟨rfl, below_of HKV1.out⟩
      subst her
      obtain ⟨rfl, st, hst, hm, hc⟩ := parse_zero HP.out
      subst hc
      have hpos : 0 < (spl 10 s).length := List.length_pos_iff.2 (spl_ne 10 s)
      have hcn := spl_count 10 s
      have HLm := Lib.hid (fun x hx => Nat.le_trans (spl_len 10 s x hx) (by omega : s.length ≤ 3000))
      have HRl := Lib.hid (fun k (hk : k < (spl 10 s).length) => rows_law (r := r) hst hm (by omega) (by omega) HNo.out hk)
      have HSpm := Lib.hid (fun x hx => spl_mem (d := 10) s x hx)
      clear hst hm
      obtain ⟨ls, hls⟩ : ∃ ls, spl 10 s = ls := ⟨_, rfl⟩
      have HLs := Lib.hid hls
      rw [hls] at hpos hcn HLm HRl HSpm
      clear hls
      obtain ⟨n, hn⟩ : ∃ n, ls.length = n := ⟨_, rfl⟩
      have HNn := Lib.hid hn
      rw [hn] at hpos hcn HRl
      obtain ⟨g, hg, hge⟩ := mod_u64 a1 n (by omega) (by omega)
      have hgn : g < n := by omega
      have p4 : IntKind.u64.wrap (n : Int) = (n : Int) := IntWalk.u64_in _ (by omega)
      have p5 : ¬ (n : Int) = 0 := by omega
      go_wp2_with fail
      refine (parse_is HP.out _ (HE.out.keep0 HK0.out) (by omega)).mono ?_
      rintro e W1 ⟨row, A1, cap1, rfl, hs, hr, hk⟩
      have HR1 := Lib.hid hs.rd
      have HKw1 := Lib.hid (keep0_trans _ _ _ HK0.out hk)
      clear hs hr hk
      go_wp2_with (first | (refine wpList_store_row rfl 25 _ _ rfl W1.heap.size (cfgA (.slice A1 st.1.seeds.length cap1) st.1.v) rfl rfl 25 _ (Blk.new _ _ _) infoCfg rfl (cfgA_one _ _ _ _) ?_; obtain ⟨hbv, hkv⟩ := row_new (t := 25) W1 zc (cfgA (.slice A1 st.1.seeds.length cap1) st.1.v); unfold zc at hbv hkv; have HBn := Lib.hid hbv; have HKn := Lib.hid hkv; clear hbv hkv; generalize (W1.alloc (.cells #[.slice none 0 0, .int .i64 0, .int .i64 0, .int .i64 0, .int .i64 0, .int .i64 0, .int .i64 0, .int .i64 0, .int .u8 0, .int .i64 0, .bool false, .bool false, .int .i64 0, .int .i64 0, .int .i64 0, .int .i64 0, .int .i64 0] 25)).setRow W1.heap.size (cfgA (.slice A1 st.1.seeds.length cap1) st.1.v) = V1 at *) | fail)
      have HKV1 := Lib.hid (keep0_trans _ _ _ HKw1.out HKn.out)
      have HRV1 := Lib.hid (HR1.out.keep0 HKn.out)
      have HB1 := Lib.hid HBn.out
      clear HBn HKn HR1 HKw1
      refine (lawLines_any s _ (by omega)).mono ?_
      rintro e W2 ⟨row, A, cap, rfl, hs, _, hk2⟩
      rw [HLs.out] at hs ⊢
      rw [hn] at hs ⊢
      obtain ⟨gb, off, v0, rfl, _, _⟩ := hs.rd.2 0 (by omega)
      have HSl := Lib.hid hs.rd
      have HK2 := Lib.hid (keep0_trans _ _ _ HKV1.out hk2)
      have HB2 := Lib.hid (HB1.out.keep hk2 (fun h => h))
      have HR2 := Lib.hid (HRV1.out.keep0 hk2)
      clear hs hk2 HRV1 HB1 hn
      go_wp2
      go_loopw [13, 14] (fun t j wr => ∃ (i : Nat) (row : Option Nat) (B : Option Addr) (c : Nat), i ≤ n ∧ j = .int .i64 (i : Int) ∧ t = .slice B (i * 3) c ∧ Hid (SlK wr 9 1 row B (i * 3) c ((turned r ls g i).map vS)) ∧ Hid (∀ x, row = some x → W2.heap.size ≤ x) ∧ Hid (Keep (fun _ => False) W2 wr)) (fun _ j _ => n - (intOf j).toNat)
      case atStart => exact ⟨0, none, none, 0, Nat.zero_le _, rfl, rfl, Lib.hid (SlK.nil_ _ _ _), Lib.hid (fun g e => by cases e), Lib.hid (Keep.refl _ _)⟩
      case round =>
        obtain ⟨i, row3, B, c3, hin, rfl, rfl, HTl, HRo, HKk⟩ := hrel
        have e3 : IntKind.i64.wrap ((i : Int) + 1) = (i : Int) + 1 := IntWalk.i64_in _ (by omega)
        by_cases hlt : i < n
        · have q3 : (i : Int) < (n : Int) := by omega
          have e4 : IntKind.i64.wrap ((i : Int) + (g : Int)) = (i : Int) + (g : Int) := IntWalk.i64_in _ (by omega)
          obtain ⟨p, hp⟩ : ∃ p, (i + g) % n = p := ⟨_, rfl⟩
          have hpn : p < n := by rw [← hp]; exact Nat.mod_lt _ hpos
          have e5 : ((i : Int) + (g : Int)).tmod (n : Int) = (p : Int) := by rw [← hp, Int.tmod_eq_emod_of_nonneg (by omega), ← Int.natCast_add, ← Int.natCast_emod]
          have e6 : IntKind.i64.wrap (p : Int) = (p : Int) := IntWalk.i64_in _ (by omega)
          have q4 : (p : Int) < (n : Int) := by omega
          have q5 : (0 : Int) ≤ (p : Int) := by omega
          have HTs := Lib.hid (turned_succ r ls g i)
          rw [HNn.out, hp] at HTs
          obtain ⟨gb', off', v1, hA, h1x, h2x⟩ := (HSl.out.keep0 HKk.out).2 p (by omega)
          injection hA with hA; injection hA with hA1 hA2; subst hA1 hA2
          have hpl : p < ls.length := by rw [HNn.out]; exact hpn
          rw [List.getElem?_map, List.getElem?_eq_getElem hpl] at h1x
          simp only [Option.map_some, Option.some.injEq] at h1x
          subst h1x
          have hgd : ls.getD p [] = ls[p] := by simp [List.getD, List.getElem?_eq_getElem hpl]
          rw [hgd] at HTs
          have hxl := HLm.out _ (List.getElem_mem hpl)
          clear hgd hp
          generalize ls[p] = x at h2x HTs hxl
          have c1 : ¬ 9223372036854775807 < 2 + x.length := by omega
          have c2 : ¬ 9223372036854775807 < 2 + x.length + 3 := by omega
          have c4 : ¬ 9223372036854775807 < 2 + x.length + 3 + r.length := by omega
          have c5 : ¬ 9223372036854775807 < 2 + r.length := by omega
          have hc1 : ({ data := #[32, 9] } : ByteArray) ++ bs x ++ ({ data := #[32, 32, 35] } : ByteArray) ++ bs r = bs (32 :: 9 :: (x ++ 32 :: 32 :: 35 :: r)) := by rw [show 32 :: 9 :: (x ++ 32 :: 32 :: 35 :: r) = [32, 9] ++ x ++ [32, 32, 35] ++ r by simp, ← bs_cat, ← bs_cat, ← bs_cat]; rfl
          have hc2 : ({ data := #[35, 32] } : ByteArray) ++ bs r = bs (35 :: 32 :: r) := by rw [show 35 :: 32 :: r = [35, 32] ++ r by simp, ← bs_cat]; rfl
          go_wp2_with (at_builtin; refine wpList_append_slK rfl _ _ _ rfl i0 _ 16 Tryz.underlying29 HI0.out HZ0.out HZ1.out HZ2.out rfl (by omega) (HTl.out.keep ((Keep.refl (fun _ => False) _).alloc _) (fun _ _ h => h)) rfl rfl (RdK.of_blk (Blk.new _ _ _) 3 1 rfl) (fun u hu => by simp at hu; rcases hu with rfl | rfl | rfl <;> rfl) (by unfold maxLen; omega) (by omega) ?_; intro row2 A3 c5 w4 hs4 hr4
                       have hgr := hr4.resolve_left (fun h => by have := h.1; omega)
                       have HS4 := Lib.hid hs4
                       have HGr := Lib.hid hgr
                       clear hs4 hr4 hgr)
          have hkb := HKk.out.alloc (.cells #[.string (bs (32 :: 9 :: (x ++ 32 :: 32 :: 35 :: r))), .string (bs (35 :: 32 :: r)), .string { data := #[] }] 9)
          have HKn := Lib.hid (HGr.out.keep0 hkb HRo.out)
          have HRn := Lib.hid (HGr.out.own hkb.size HRo.out)
          clear hkb
          go_roundw
          case rel => exact ⟨i + 1, row2, A3, c5, by omega, by go_num, by rw [show (i + 1) * 3 = i * 3 + 3 by omega], Lib.hid (by rw [HTs.out, List.map_append, show (i + 1) * 3 = i * 3 + 3 by omega, tri_eq]; exact HS4.out), HRn, HKn⟩
          case measure => simp [intOf]; omega
        · obtain rfl : i = n := by omega
          have hpR := HRl.out g hgn
          have hTm : ∀ y ∈ turned r ls g i, y.length ≤ 1000000 := fun y hy => by
            obtain ⟨l, hl1, hl2⟩ := turned_mem (by rw [HNn.out]; exact hpos) hy
            have := HLm.out l hl1
            unfold tri at hl2
            simp only [List.mem_cons, List.not_mem_nil, or_false] at hl2
            rcases hl2 with rfl | rfl | rfl
            · simp; omega
            · simp; omega
            · simp
          have hlenJ : (Lib.join (turned r ls g i) [10]).length ≤ 40000000 := by
            have h1 := join_len [10] (turned r ls g i) (k := 3600) (fun y hy => by
              obtain ⟨l, hl1, hl2⟩ := turned_mem (by rw [HNn.out]; exact hpos) hy
              have := HLm.out l hl1
              unfold tri at hl2
              simp only [List.mem_cons, List.not_mem_nil, or_false] at hl2
              rcases hl2 with rfl | rfl | rfl
              · simp; omega
              · simp; omega
              · simp)
            have h2 := HTl.out.rd.1
            rw [List.length_map] at h2
            rw [h2] at h1
            exact Nat.le_trans h1 (by simp only [List.length_cons, List.length_nil]; omega)
          have HPR := Lib.hid hpR
          go_wp2_with fail
          refine (together_any (turned r ls g i) B (i * 3) c3 _ HTl.out.rd (by omega) hTm).mono ?_
          rintro e W3 ⟨rfl, hk3⟩
          have HK3 := Lib.hid (keep0_trans _ _ _ HKk.out hk3)
          clear hk3 hpR hTm
          obtain ⟨J, hJ⟩ : ∃ J, Lib.join (turned r ls g i) [10] = J := ⟨_, rfl⟩
          rw [hJ] at HPR hlenJ ⊢
          clear hJ
          go_wp2_with fail
          refine (parse_is HPR.out _ (HE.out.keep0 (keep0_trans _ _ _ HK2.out HK3.out)) hlenJ).mono ?_
          rintro e W4 ⟨row, A4, cap4, rfl, hs, hr, hk⟩
          have hk4x := Lib.hid hk
          have HR4 := Lib.hid hs.rd
          have HKw4 := Lib.hid (keep0_trans _ _ _ (keep0_trans _ _ _ HK2.out HK3.out) hk)
          clear hs hr hk
          go_wp2_with (first | (refine wpList_store_row rfl 25 _ _ rfl W4.heap.size (cfgA (.slice A4 st.1.seeds.length cap4) st.1.v) rfl rfl 25 _ (Blk.new _ _ _) infoCfg rfl (cfgA_one _ _ _ _) ?_; obtain ⟨hbv, hkv⟩ := row_new (t := 25) W4 zc (cfgA (.slice A4 st.1.seeds.length cap4) st.1.v); unfold zc at hbv hkv; have HBn := Lib.hid hbv; have HKn := Lib.hid hkv; clear hbv hkv; generalize (W4.alloc (.cells #[.slice none 0 0, .int .i64 0, .int .i64 0, .int .i64 0, .int .i64 0, .int .i64 0, .int .i64 0, .int .i64 0, .int .u8 0, .int .i64 0, .bool false, .bool false, .int .i64 0, .int .i64 0, .int .i64 0, .int .i64 0, .int .i64 0] 25)).setRow W4.heap.size (cfgA (.slice A4 st.1.seeds.length cap4) st.1.v) = V4 at *; have hkx := Lib.hid (keep0_trans _ _ _ (keep0_trans _ _ _ HK3.out hk4x.out) HKn.out); have HBa := Lib.hid (HB2.out.keep hkx.out (fun h => h)); have HRa := Lib.hid (HR2.out.keep0 hkx.out)) | (first | (refine wpList_load_rowG rfl 25 _ rfl W1.heap.size rfl 25 _ (0, 0) _ HBa.out Tryz.underlying25 rfl infoCfg ?_) | (refine wpList_load_rowG rfl 25 _ rfl W4.heap.size rfl 25 _ (0, 0) _ HBn.out Tryz.underlying25 rfl infoCfg ?_)))
          have HKV4 := Lib.hid (keep0_trans _ _ _ HKw4.out HKn.out)
          have HRV4 := Lib.hid (HR4.out.keep0 HKn.out)
          have HB4 := Lib.hid HBn.out
          clear HBn HKn HR4 HKw4
          refine (same_any st.1 st.1 A1 A4 cap1 cap4 HWf.out HWf.out _ (HE.out.keep0 HKV4.out) HRa.out HRV4.out).mono ?_
          rintro e W5 ⟨rfl, hk⟩
          have HK5 := Lib.hid (keep0_trans _ _ _ HKV4.out hk)
          clear hk
          rw [sameM_refl]
          go_wp2
          go_ret
          exact ⟨rfl, below_of HK5.out⟩
end Go.Proofs.YtjgkalcldekmpaaGreatDoor
