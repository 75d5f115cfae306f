/-
  coveyref26: Parse. Written by gen_rf.py.
-/
import Derived.Test.YtjgkalcldekmpaaGreatDoorCfgRB
import Derived.Test.YtjgkalcldekmpaaGreatDoorCfgRC
namespace Go.Proofs.YtjgkalcldekmpaaGreatDoor
open Go.RowKit Go Go.Shelf
set_option maxRecDepth 100000
attribute [local go_sem] bs_toList bs_size bs_zero

theorem results_row_tmp2 {P : Program} {fn : Func} {p t u : Tmp} {ty : TypeId} (h : fn.results = #[.cell p ty, .tmp t, .tmp u]) (tmps : Array Value) (w : World) (g : Nat) (tt : TypeId) (cs : Array Value) (fr : Nat × Nat) (d : TypeDesc)
    (hp : tmps.getD p undef = .pointer (some ⟨g, 0, none⟩)) (hg : w.heap[g]? = some (.cells cs tt fr))
    (hu : P.underlying ty = some d) (hd : (match d with | .struct _ | .array _ _ => true | _ => false) = true) (hi : (P.info? ty).map (·.size) = some cs.size) :
    (results fn tmps).run P w = .ok (.tuple #[.agg cs, tmps.getD t undef, tmps.getD u undef]) w := by
  have hp' : tmps[p]?.getD undef = .pointer (some ⟨g, 0, none⟩) := by simpa using hp
  simp [results, h, hp', asAddr, run_loadVar_row w g tt ty cs fr d hg hu hd hi]
def moreN (m : Bool) (l : Bs) : List Bs := if m then spl 10 l else []
def KeysIn (ks : List Bs) (T : List Nat) : Prop := (∀ x ∈ ks, keyN x ≠ 17) ∧ ∀ i, i ∈ T ↔ ∃ x ∈ ks, keyN x = i
theorem keyN_inj {x y : Bs} (hx : keyN x ≠ 17) (h : keyN x = keyN y) : x = y := by
  have get : ∀ {z : Bs}, keyN z ≠ 17 → ∃ hl : KN.idxOf z < KN.length, KN[KN.idxOf z] = z := fun {z} hz => by
    have hl : KN.idxOf z < KN.length := by have := keyN_le z; unfold keyN at this hz; show _ < 17; omega
    exact ⟨hl, List.getElem_idxOf hl⟩
  obtain ⟨h1, e1⟩ := get hx
  obtain ⟨h2, e2⟩ := get (h ▸ hx)
  unfold keyN at h
  rw [← e1, ← e2]
  simp only [h]
theorem keys_in {ks : List Bs} {T : List Nat} (h : KeysIn ks T) {key : Bs} (_hk : keyN key ≠ 17) : keyN key ∈ T ↔ key ∈ ks := by
  rw [h.2]
  constructor
  · rintro ⟨x, hx, e⟩
    rw [← keyN_inj (h.1 x hx) e]; exact hx
  · exact fun hx => ⟨key, hx, rfl⟩
theorem keys_snoc {ks : List Bs} {T : List Nat} (h : KeysIn ks T) {key : Bs} (hk : keyN key ≠ 17) : KeysIn (ks ++ [key]) (keyN key :: T) :=
  ⟨fun x hx => by
    rcases List.mem_append.1 hx with hx | hx
    · exact h.1 x hx
    · rw [List.mem_singleton.1 hx]; exact hk, fun i => by
    rw [List.mem_cons, h.2]
    constructor
    · rintro (rfl | ⟨x, hx, e⟩)
      · exact ⟨key, by simp, rfl⟩
      · exact ⟨x, by simp [hx], e⟩
    · rintro ⟨x, hx, e⟩
      rcases List.mem_append.1 hx with hx | hx
      · exact .inr ⟨x, hx, e⟩
      · rw [List.mem_singleton.1 hx] at e; exact .inl e.symm⟩
theorem core_nil (st : PSt) : core st [] = .ok st := if_pos rfl
theorem core_bare {st : PSt} {L a v : Bs} (h0 : L ≠ []) (h : cutM 61 L = (a, v, false)) : core st L = .error 4 := by
  unfold core
  rw [if_neg h0, h, if_pos (.inl rfl)]
theorem core_eq {st : PSt} {L a v : Bs} (h0 : L ≠ []) (h : cutM 61 L = (a, v, true)) : core st L = if keyN (trimM a) = 17 then .error 4 else match setM (keyN (trimM a)) st.1 (trimM v) with
    | none => .error 4
    | some c => if keyN (trimM a) ∈ st.2 then .error 6 else .ok (c, keyN (trimM a) :: st.2) := by
  unfold core
  rw [if_neg h0, h]
  by_cases hk : keyN (trimM a) = 17
  · rw [if_pos hk]
    exact if_pos (Or.inr hk)
  · rw [if_neg hk]
    exact if_neg (fun q => by
      rcases q with q | q
      · simp at q
      · exact hk q)
theorem core_line {st : PSt} {L a v : Bs} (h0 : L ≠ []) (h : cutM 61 L = (a, v, true)) : (lineR (trimM a) st.1 (trimM v) = none → core st L = .error 4) ∧
    ∀ c, lineR (trimM a) st.1 (trimM v) = some c → keyN (trimM a) ≠ 17 ∧ (keyN (trimM a) ∈ st.2 → core st L = .error 6) ∧ (keyN (trimM a) ∉ st.2 → core st L = .ok (c, keyN (trimM a) :: st.2)) := by
  rw [core_eq h0 h]
  unfold lineR
  by_cases hk : keyN (trimM a) = 17
  · rw [if_pos hk, if_pos hk]
    exact ⟨fun _ => rfl, fun c hc => (by cases hc)⟩
  · rw [if_neg hk, if_neg hk]
    refine ⟨fun hn => by rw [hn], fun c hc => ⟨hk, fun hm => ?_, fun hm => ?_⟩⟩
    · rw [hc]; exact if_pos hm
    · rw [hc]; exact if_neg hm
theorem step_next {s : Bs} {k : Nat} {st : PSt} {l0 : Bs} (hs : s.length ≤ 100000) (hk : k < (spl 10 s).length) (hl : (spl 10 s).getD k [] = l0) (h : pfold ((nl s).take k) = .ok st) :
    pfold ((nl s).take (k + 1)) = num1 ((k : Int) + 1) (core st (lineM l0)) ∧ pstep st (mkL ((k : Int) + 1) (lineM l0)) = num1 ((k : Int) + 1) (core st (lineM l0)) := by
  have hll : (lineM l0).length ≤ 40000000 := by
    have h1 := lineM_len l0
    have h2 : l0.length ≤ s.length := by rw [← hl]; simp only [List.getD, List.getElem?_eq_getElem hk, Option.getD_some]; exact spl_len 10 s _ (List.getElem_mem hk)
    omega
  have e : pstep st (mkL ((k : Int) + 1) (lineM l0)) = num1 ((k : Int) + 1) (core st (lineM l0)) := by rw [pstep_core, mkL_val hll]
  refine ⟨?_, e⟩
  rw [nl_next s hk, pfold_snoc, h, hl]
  exact e
theorem parse_stop {s : Bs} {k : Nat} {a e : Int} (h : pfold ((nl s).take k) = .error (a, e)) : parseM s = (zeroCfg, a, e) := by
  have : pfold (nl s) = .error (a, e) := by
    have := pfold_err (ys := (nl s).drop k) h
    rwa [List.take_append_drop] at this
  unfold parseM
  rw [this]
theorem slk_at {w : World} {e : TypeId} {k g : Nat} {A : Option Addr} {n c : Nat} {xs : List Value} (h : SlK w e k (some g) A n c xs) : ∃ cur, Blk w g e cur := by
  rcases h.2.2.2 with ⟨q, _⟩ | ⟨g', off, cur, q, _, hb, _⟩
  · cases q
  · injection q with q; subst q; exact ⟨cur, hb⟩
theorem oc_row {w : World} {b : Nat} {row : Option Nat} {c : Cfg} (h : OC w b row c) : ∀ g, row = some g → ∃ cur, Blk w g 3 cur := fun g e => by
  obtain ⟨A, cap, _, hs, _⟩ := h
  subst e
  exact slk_at hs
theorem blk_ty {w : World} {g g' : Nat} {t t' : TypeId} {cs cs' : Array Value} (h : Blk w g t cs) (h' : Blk w g' t' cs') (hne : t ≠ t') : g ≠ g' := fun e => by
  subst e
  exact Blk.ne_ h h' hne rfl
set_option maxHeartbeats 16000000 in
theorem rparse_any (s : Bs) (hs : s.length ≤ 100000) (w : World) (h9 : 9 ≤ w.heap.size) :
    Calls Tryz.prog 19 #[.string (bs s)] w fun e w' => ∃ (row : Option Nat) (A : Option Addr) (cap : Nat), e = .returned (.tuple #[.agg (cfgA (.slice A (parseM s).1.seeds.length cap) (parseM s).1.v), .int .i64 (parseM s).2.1, .int .i64 (parseM s).2.2]) ∧
      SlK w' 3 1 row A (parseM s).1.seeds.length cap ((parseM s).1.seeds.map (Value.int .i64)) ∧ (∀ g, row = some g → w.heap.size ≤ g) ∧ Keep (fun _ => False) w w' := by
  obtain ⟨i0, hi, hz0, hz1, hz2⟩ := info_parts infoStr
  have HI0 := Lib.hid hi
  have HZ0 := Lib.hid hz0
  have HZ1 := Lib.hid hz1
  have HZ2 := Lib.hid hz2
  have hcn := spl_count 10 s
  clear hi hz0 hz1 hz2
  have hkA : Keep (fun _ => False) w ((w.alloc (.cells zc 25)).alloc (.cells zc 25)) := ((Keep.refl _ w).alloc _).alloc _
  have hRA : Blk ((w.alloc (.cells zc 25)).alloc (.cells zc 25)) w.heap.size 25 zc := (Blk.new w 25 zc).alloc _
  have hCA : Blk ((w.alloc (.cells zc 25)).alloc (.cells zc 25)) (w.heap.size + 1) 25 zc := Blk.new_ (by simp) _ _
  have hsA : ((w.alloc (.cells zc 25)).alloc (.cells zc 25)).heap.size = w.heap.size + 2 := by simp
  go_enter Tryz.func19, Tryz.ntmps19
  have HKA := Lib.hid hkA
  have HRA := Lib.hid hRA
  have HCA := Lib.hid hCA
  have HSA := Lib.hid hsA
  clear hkA hRA hCA hsA
  go_upto_region 6 with fail
  generalize hW0 : (w.alloc (.cells #[.slice none 0 0, .int .i64 0, .int .i64 0, .int .i64 0, .int .i64 0, .int .i64 0, .int .i64 0, .int .i64 0, .int .u8 0, .int .i64 0, .bool false, .bool false, .int .i64 0, .int .i64 0, .int .i64 0, .int .i64 0, .int .i64 0] 25)).alloc (.cells #[.slice none 0 0, .int .i64 0, .int .i64 0, .int .i64 0, .int .i64 0, .int .i64 0, .int .i64 0, .int .i64 0, .int .u8 0, .int .i64 0, .bool false, .bool false, .int .i64 0, .int .i64 0, .int .i64 0, .int .i64 0, .int .i64 0] 25) = W0
  have hW0b : (w.alloc (.cells zc 25)).alloc (.cells zc 25) = W0 := hW0
  rw [hW0b] at HKA HRA HCA HSA
  clear hW0 hW0b
  obtain ⟨R, hR⟩ : ∃ R, w.heap.size = R := ⟨_, rfl⟩
  have HRw := Lib.hid hR
  rw [hR] at HRA HCA HSA h9 ⊢
  clear hR
  have HOC0 : Hid (OC W0 (R + 1) none zeroCfg) := Lib.hid ⟨none, 0, HCA.out, SlK.nil_ _ _ _, by omega, fun g e => by cases e⟩
  go_loopw [6, 7, 8, 9] (fun hd rs mo at_ wr => ∃ (k : Nat) (rest : Bs) (mr : Bool) (st : PSt) (ks : List Bs) (rowC rowH : Option Nat) (AH : Option Addr) (cH : Nat), hd = .slice AH ks.length cH ∧ rs = .string (bs rest) ∧ mo = .bool mr ∧ at_ = .int .i64 ((k : Int) + 1) ∧ rest.length ≤ s.length ∧ ks.length ≤ k ∧ k ≤ (spl 10 s).length ∧ Hid ((spl 10 s).drop k = moreN mr rest) ∧ Hid (pfold ((nl s).take k) = .ok st) ∧ Hid (PInv st) ∧ Hid (OC wr (R + 1) rowC st.1) ∧ Hid (∀ g, rowC = some g → R + 2 ≤ g) ∧ Hid (SlK wr 9 1 rowH AH ks.length cH (ks.map vS)) ∧ Hid (∀ g, rowH = some g → R + 2 ≤ g) ∧ Hid (KeysIn ks st.2) ∧ Hid (Blk wr R 25 zc) ∧ Hid (Keep (fun _ => False) w wr)) (fun _ rs mo _ _ => sLen rs + bLen mo)
  case atStart => exact ⟨0, s, true, (zeroCfg, []), [], none, none, none, 0, rfl, rfl, rfl, rfl, Nat.le_refl _, Nat.le_refl _, Nat.zero_le _, Lib.hid rfl, Lib.hid (by rw [List.take_zero]; rfl), Lib.hid pinv_zero, HOC0, Lib.hid (fun g e => by cases e), Lib.hid (SlK.nil_ _ _ _), Lib.hid (fun g e => by cases e), Lib.hid ⟨fun x hx => (by cases hx), fun i => ⟨fun h => (by cases h), fun ⟨x, hx, _⟩ => (by cases hx)⟩⟩, HRA, HKA⟩
  case round =>
    obtain ⟨k, rest, mr, st, ks, rowC, rowH, AH, cH, rfl, rfl, rfl, rfl, hrl, hkk, hkl, HDr, HPf, HPi, HOC, HRC, HSl, HRH, HKi, HRb, HKw⟩ := hrel
    rcases mr with _ | _
    case false =>
      have HPm := Lib.hid (parseM_ok (s := s) (st := st) (by
        have h1 := HDr.out
        rw [show moreN false rest = [] from rfl] at h1
        have h2 := congrArg List.length h1
        rw [List.length_drop, List.length_nil] at h2
        have h3 := HPf.out
        rwa [List.take_of_length_le (by rw [nl_len]; omega)] at h3))
      obtain ⟨A, cap, hb, hsl, hn9⟩ := HOC.out
      have HB := Lib.hid hb
      have HSc := Lib.hid hsl
      have hpl := HPi.out.len
      clear hb hsl hn9
      go_wp2_with (refine wpList_load_row rfl 25 _ rfl (R + 1) rfl 25 _ (0, 0) _ HB.out Tryz.underlying25 rfl infoCfg ?_)
      refine (rmay_any st.1 A cap wr HSc.out.rd (by omega)).mono ?_
      rintro e W2 ⟨rfl, hk2⟩
      have HB2 := Lib.hid (HB.out.keep hk2 (fun h => h))
      have HR2 := Lib.hid (HRb.out.keep hk2 (fun h => h))
      have HSc2 := Lib.hid (HSc.out.keep hk2 (fun _ _ h => h))
      have HK2 := Lib.hid (keep0_trans _ _ _ HKw.out hk2)
      clear hk2
      rcases Bool.eq_false_or_eq_true (mayM st.1) with hm | hm
      case inr =>
        have HPe := Lib.hid (HPm.out.trans (if_neg (by rw [hm]; decide)))
        rw [hm]
        clear hm
        go_wp2_with (refine wpList_store_row rfl 25 _ _ rfl R zc rfl rfl 25 _ HR2.out infoCfg rfl (by kernel_rfl) ?_)
        (try simp only [Exit.inBlock, Exit.then])
        refine bodyPost_ret (results_row_tmp2 rfl _ _ R 25 zc (0, 0) _ rfl (HR2.out.setRow_ zc) Tryz.underlying25 rfl infoCfg) rfl ?_
        exact ⟨none, none, 0, by rw [HPe.out]; rfl, by rw [HPe.out]; exact SlK.nil_ _ _ _, fun g e => (by cases e), HK2.out.trans ((Keep.setRow_ _ _ _).mono fun g _ e => .inr (by have := HRw.out; omega))⟩
      case inl =>
        have HPe := Lib.hid (HPm.out.trans (if_pos hm))
        rw [hm]
        clear hm
        go_wp2_with (first | (refine wpList_load_row rfl 25 _ rfl (R + 1) rfl 25 _ (0, 0) _ HB2.out Tryz.underlying25 rfl infoCfg ?_) | (refine wpList_store_row rfl 25 _ _ rfl R (cfgA (.slice A st.1.seeds.length cap) st.1.v) rfl rfl 25 _ HR2.out infoCfg (by rw [cfgA_size]; rfl) (cfgA_one _ _ _ _) ?_))
        (try simp only [Exit.inBlock, Exit.then])
        refine bodyPost_ret (results_row_tmp2 rfl _ _ R 25 (cfgA (.slice A st.1.seeds.length cap) st.1.v) (0, 0) _ rfl (HR2.out.setRow_ _) Tryz.underlying25 rfl infoCfg) rfl ?_
        have hrc := HRC.out
        have hsa := HSA.out
        exact ⟨rowC, A, cap, by rw [HPe.out]; rfl, by rw [HPe.out]; exact HSc2.out.keep (Keep.setRow_ _ _ _) (fun g e q => by have := hrc g e; omega), fun g e => by have := hrc g e; have := HRw.out; omega, HK2.out.trans ((Keep.setRow_ _ _ _).mono fun g _ e => .inr (by have := HRw.out; omega))⟩
    have hkl2 : k < (spl 10 s).length := by
      rcases Nat.lt_or_ge k (spl 10 s).length with h | h
      · exact h
      · have h1 := HDr.out
        rw [List.drop_eq_nil_of_le h] at h1
        exact absurd h1.symm (spl_ne 10 rest)
    go_wp2_with fail
    refine (rcut_any rest 10 10 rfl (by omega) _).mono ?_
    rintro e W1 ⟨rfl, hk1⟩
    have HK1 := Lib.hid hk1
    have hcs := cut_spl 10 rest
    clear hk1
    generalize cutM 10 rest = ct at hcs ⊢
    obtain ⟨l0, r2, m2⟩ := ct
    obtain ⟨hs1, hs2, hs3, hs4⟩ := hcs
    have hd := HDr.out
    rw [show moreN true rest = spl 10 rest from rfl, hs1] at hd
    have HD2 := Lib.hid (show (spl 10 s).drop (k + 1) = moreN m2 r2 by rw [← List.drop_drop, hd]; rfl)
    have hget : (spl 10 s).getD k [] = l0 := by
      rw [List.getD, ← List.head?_drop, hd]; rfl
    obtain ⟨hst1, hst2⟩ := step_next hs hkl2 hget HPf.out
    have HSt1 := Lib.hid hst1
    have HSt2 := Lib.hid hst2
    have HS3 := Lib.hid hs3
    have HS4 := Lib.hid hs4
    have hr2 : r2.length ≤ s.length := by
      rcases Bool.eq_false_or_eq_true m2 with e | e
      · have := hs3 e; simp only at this; omega
      · have := hs4 e; simp only at this; rw [this]; exact Nat.zero_le _
    simp only at hs2
    clear hs1 hs3 hs4 hd hget hst1 hst2
    go_wp2_with fail
    refine (rcut_any l0 35 35 rfl (by omega) _).mono ?_
    rintro e W2 ⟨rfl, hk2⟩
    have HK2 := Lib.hid (keep0_trans _ _ _ HK1.out hk2)
    have hl1 := (cut_spl 35 l0).2.1
    clear hk2 HK1
    go_wp2_with fail
    refine (rtrim_any (cutM 35 l0).1 (by omega) _).mono ?_
    rintro e W3 ⟨rfl, hk3⟩
    have HK3 := Lib.hid (keep0_trans _ _ _ HK2.out hk3)
    have hLl : (trimM (cutM 35 l0).1).length ≤ 100000 := Nat.le_trans (trim_len _ _) (by omega)
    clear hk3 HK2
    obtain ⟨L, hL⟩ : ∃ L, trimM (cutM 35 l0).1 = L := ⟨_, rfl⟩
    have HL := Lib.hid (show lineM l0 = L from hL)
    rw [hL] at hLl ⊢
    rw [HL.out] at HSt1 HSt2
    clear hL
    have e2 : IntKind.i64.wrap ((k : Int) + 1 + 1) = (k : Int) + 1 + 1 := IntWalk.i64_in _ (by omega)
    have hms : sLen (.string (bs r2)) + bLen (.bool m2) < sLen (.string (bs rest)) + bLen (.bool true) := by
      simp only [sLen, bs_size]
      rcases Bool.eq_false_or_eq_true m2 with e | e
      · have := HS3.out e; subst e; simp [bLen]; omega
      · have := HS4.out e; subst e this; simp [bLen]
    have HMs := Lib.hid hms
    clear hms
    rcases Decidable.em (L = []) with hLe | hLe
    · have HP2 := Lib.hid (show pfold ((nl s).take (k + 1)) = .ok st by rw [HSt1.out, hLe, core_nil]; rfl)
      subst hLe
      go_wp2
      go_roundw
      case rel => exact ⟨k + 1, r2, m2, st, ks, rowC, rowH, AH, cH, rfl, rfl, rfl, by go_num, hr2, by omega, by omega, HD2, HP2, HPi, Lib.hid (HOC.out.keep0 HK3.out), HRC, Lib.hid (HSl.out.keep HK3.out (fun _ _ h => h)), HRH, HKi, Lib.hid (HRb.out.keep HK3.out (fun h => h)), Lib.hid (keep0_trans _ _ _ HKw.out HK3.out)⟩
      case measure => exact HMs.out
    have y1 : (L == []) = false := beq_eq_false_iff_ne.2 hLe
    have HLe := Lib.hid hLe
    clear hLe
    go_wp2_with fail
    refine (rcut_any L 61 61 rfl (by omega) _).mono ?_
    rintro e W4 ⟨rfl, hk4⟩
    have HK4 := Lib.hid (keep0_trans _ _ _ HK3.out hk4)
    have hc2 := cut_spl 61 L
    obtain ⟨ct2, hct2⟩ : ∃ x, cutM 61 L = x := ⟨_, rfl⟩
    rw [hct2] at hc2 ⊢
    obtain ⟨a, v, is⟩ := ct2
    have ha := hc2.2.1
    have hv : v.length ≤ 100000 := by
      rcases Bool.eq_false_or_eq_true is with e | e
      · have := hc2.2.2.1 e; simp only at this; omega
      · have := hc2.2.2.2 e; simp only at this; rw [this]; exact Nat.zero_le _
    simp only at ha
    have HCt := Lib.hid hct2
    clear hk4 HK3 hc2 hct2
    go_wp2_with fail
    refine (rtrim_any a (by omega) _).mono ?_
    rintro e W5 ⟨rfl, hk5⟩
    have HK5 := Lib.hid (keep0_trans _ _ _ HK4.out hk5)
    clear hk5 HK4
    rcases is with _ | _
    case false =>
      have HPe := Lib.hid (parse_stop (HSt1.out.trans (by rw [core_bare HLe.out HCt.out]; rfl)))
      have HR5 := Lib.hid (HRb.out.keep HK5.out (fun h => h))
      have HKe := Lib.hid (keep0_trans _ _ _ HKw.out HK5.out)
      go_wp2_with (refine wpList_store_row rfl 25 _ _ rfl R zc rfl rfl 25 _ HR5.out infoCfg rfl (by kernel_rfl) ?_)
      (try simp only [Exit.inBlock, Exit.then])
      refine bodyPost_ret (results_row_tmp2 rfl _ _ R 25 zc (0, 0) _ rfl (HR5.out.setRow_ zc) Tryz.underlying25 rfl infoCfg) rfl ?_
      exact ⟨none, none, 0, by rw [HPe.out]; rfl, by rw [HPe.out]; exact SlK.nil_ _ _ _, fun g e => (by cases e), HKe.out.trans ((Keep.setRow_ _ _ _).mono fun g _ e => .inr (by have := HRw.out; omega))⟩
    obtain ⟨hcl1, hcl2⟩ := core_line (st := st) HLe.out HCt.out
    have HC1 := Lib.hid hcl1
    have HC2 := Lib.hid hcl2
    clear hcl1 hcl2
    go_wp2_with fail
    refine (rtrim_any v (by omega) _).mono ?_
    rintro e W6 ⟨rfl, hk6⟩
    have HK6 := Lib.hid (keep0_trans _ _ _ HK5.out hk6)
    have htv : (trimM v).length ≤ 100000 := Nat.le_trans (trim_len _ _) (by omega)
    clear hk6 HK5
    obtain ⟨key, hkey⟩ : ∃ x, trimM a = x := ⟨_, rfl⟩
    obtain ⟨tv, htvv⟩ : ∃ x, trimM v = x := ⟨_, rfl⟩
    rw [hkey, htvv] at HC1 HC2
    rw [htvv] at htv
    rw [hkey, htvv]
    clear hkey htvv
    have hpl := HPi.out.len
    have HOC6 := Lib.hid (HOC.out.keep0 HK6.out)
    go_wp2_with fail
    refine (rline_any (R + 1) rowC st.1 key tv (by omega) (by omega) W6 HOC6.out (Nat.le_trans (by have := HRw.out; omega) (keep0_trans _ _ _ HKw.out HK6.out).size)).mono ?_
    rintro e W7 ⟨rfl, hpost, _, hk7⟩
    have hrc := HRC.out
    have hsa := HSA.out
    have hk67 := HK6.out
    have HR7 := Lib.hid ((HRb.out.keep HK6.out (fun h => h)).keep hk7 (fun q => by rcases q with q | q; omega; have := hrc _ q; omega))
    have HKe := Lib.hid (show Keep (fun _ => False) w W7 from (keep0_trans _ _ _ HKw.out HK6.out).trans (hk7.mono fun g _ q => .inr (by have := HRw.out; rcases q with q | q; omega; have := hrc _ q; omega)))
    have HSl7 := Lib.hid ((HSl.out.keep HK6.out (fun _ _ h => h)).keep hk7 (fun g e q => by
      have hsl6 := HSl.out.keep HK6.out (fun _ _ h => h)
      subst e
      obtain ⟨cur, hb⟩ := slk_at hsl6
      rcases q with q | q
      · obtain ⟨_, _, hbc, _⟩ := HOC6.out
        exact blk_ty hb hbc (by decide) q
      · obtain ⟨cur2, hb2⟩ := oc_row HOC6.out _ q
        exact blk_ty hb hb2 (by decide) rfl))
    have HPost := Lib.hid hpost
    clear hpost hk7 hk67
    cases hln : lineR key st.1 tv with
    | none =>
      have HPe := Lib.hid (parse_stop (HSt1.out.trans (by rw [HC1.out hln]; rfl)))
      clear hln
      rw [Option.isSome_none]
      go_wp2_with (refine wpList_store_row rfl 25 _ _ rfl R zc rfl rfl 25 _ HR7.out infoCfg rfl (by kernel_rfl) ?_)
      (try simp only [Exit.inBlock, Exit.then])
      refine bodyPost_ret (results_row_tmp2 rfl _ _ R 25 zc (0, 0) _ rfl (HR7.out.setRow_ zc) Tryz.underlying25 rfl infoCfg) rfl ?_
      exact ⟨none, none, 0, by rw [HPe.out]; rfl, by rw [HPe.out]; exact SlK.nil_ _ _ _, fun g e => (by cases e), HKe.out.trans ((Keep.setRow_ _ _ _).mono fun g _ e => .inr (by have := HRw.out; omega))⟩
    | some c' =>
      obtain ⟨hk17, hdup, hnew⟩ := HC2.out c' hln
      have HK17 := Lib.hid hk17
      have HDup := Lib.hid hdup
      have HNew := Lib.hid hnew
      obtain ⟨rowC2, hoc2, hrw2⟩ := HPost.out c' hln
      have HOC7 := Lib.hid hoc2
      have HRC2 := Lib.hid (show ∀ g, rowC2 = some g → R + 2 ≤ g from fun g e => by
        rcases hrw2 with q | q
        · exact hrc g (q ▸ e)
        · have h1 := q g e
          obtain ⟨_, _, hbc, _⟩ := HOC6.out
          have h2 := hbc.lt
          omega)
      clear hln hk17 hdup hnew hoc2 hrw2
      rw [Option.isSome_some]
      go_wp2
      go_loopw [14] (fun j wz => ∃ i : Nat, i ≤ ks.length ∧ j = .int .i64 (i : Int) ∧ wz = W7 ∧ Hid (∀ x ∈ ks.take i, ¬ x = key)) (fun j _ => ks.length - (intOf j).toNat)
      case atStart => exact ⟨0, Nat.zero_le _, rfl, rfl, Lib.hid (by simp)⟩
      case round =>
        obtain ⟨i, hil, rfl, rfl, HNk⟩ := hrel
        have e3 : IntKind.i64.wrap ((i : Int) + 1) = (i : Int) + 1 := IntWalk.i64_in _ (by omega)
        by_cases hlt : i < ks.length
        · have q1 : (i : Int) < (ks.length : Int) := by omega
          have q2 : (0 : Int) ≤ (i : Int) := by omega
          obtain ⟨g, off, v0, rfl, h1, h2⟩ := HSl7.out.rd.2 i (by omega)
          rw [List.getElem?_map, List.getElem?_eq_getElem hlt] at h1
          simp only [Option.map_some, Option.some.injEq] at h1
          subst h1
          unfold vS at h2
          by_cases hx : ks[i] = key
          · have y2 : (ks[i] == key) = true := beq_iff_eq.2 hx
            have HPe := Lib.hid (parse_stop (HSt1.out.trans (by rw [HDup.out ((keys_in HKi.out HK17.out).2 (hx ▸ List.getElem_mem hlt))]; rfl)))
            clear hx
            go_wp2_with (refine wpList_store_row rfl 25 _ _ rfl R zc rfl rfl 25 _ HR7.out infoCfg rfl (by kernel_rfl) ?_)
            (try simp only [Exit.inBlock, Exit.then])
            refine bodyPost_ret (results_row_tmp2 rfl _ _ R 25 zc (0, 0) _ rfl (HR7.out.setRow_ zc) Tryz.underlying25 rfl infoCfg) rfl ?_
            exact ⟨none, none, 0, by rw [HPe.out]; rfl, by rw [HPe.out]; exact SlK.nil_ _ _ _, fun g e => (by cases e), HKe.out.trans ((Keep.setRow_ _ _ _).mono fun g _ e => .inr (by have := HRw.out; omega))⟩
          · have y2 : (ks[i] == key) = false := beq_eq_false_iff_ne.2 hx
            have HN2 := Lib.hid (show ∀ x ∈ ks.take (i + 1), ¬ x = key by
              rw [show ks.take (i + 1) = ks.take i ++ [ks[i]] by rw [List.take_add_one, List.getElem?_eq_getElem hlt]; rfl]
              intro y hy
              rcases List.mem_append.1 hy with h | h
              · exact HNk.out y h
              · rw [List.mem_singleton.1 h]; exact hx)
            clear hx
            go_wp2
            go_roundw
            case rel => exact ⟨i + 1, by omega, by go_num, trivial, HN2⟩
            case measure => simp [intOf]; omega
        · have hfin := HNk.out
          rw [List.take_of_length_le (by omega)] at hfin
          have hnot : keyN key ∉ st.2 := fun h => hfin _ ((keys_in HKi.out HK17.out).1 h) rfl
          have hcore := HNew.out hnot
          have HP2 := Lib.hid (show pfold ((nl s).take (k + 1)) = .ok (c', keyN key :: st.2) by rw [HSt1.out, hcore]; rfl)
          have HPi2 := Lib.hid (HPi.out.step (HSt2.out.trans (by rw [hcore]; rfl)))
          have HKi2 := Lib.hid (keys_snoc HKi.out HK17.out)
          have q1 : ¬ (i : Int) < (ks.length : Int) := by omega
          clear hfin hnot hcore hlt
          go_wp2_with (at_builtin; refine wpList_append_slK rfl _ _ _ rfl i0 _ 16 Tryz.underlying29 HI0.out HZ0.out HZ1.out HZ2.out rfl (by omega) (HSl7.out.keep ((Keep.refl (fun _ => False) _).alloc _) (fun _ _ h => h)) rfl rfl (RdK.of_blk (Blk.new _ _ _) 1 1 rfl) (fun u hu => by simp at hu; subst hu; rfl) (by unfold maxLen; omega) (by omega) ?_; intro row2 A3 c5 w4 hs4 hr4
                       have hgr := hr4.resolve_left (fun h => by have := h.1; omega)
                       have HS4b := Lib.hid hs4
                       have HGr := Lib.hid hgr
                       clear hs4 hr4 hgr)
          have hka : Keep (fun _ => False) wr (wr.alloc (.cells #[.string (bs key)] 9)) := (Keep.refl _ _).alloc _
          have hkb := HGr.out.keep
          have hrh := HRH.out
          have HR8 := Lib.hid ((HR7.out.keep hka (fun h => h)).keep hkb (fun q => by have := hrh _ q; omega))
          have hoc8 := HOC7.out.keep0 hka
          have hsl8 := HSl7.out.keep hka (fun _ _ h => h)
          have HOC8 := Lib.hid (hoc8.keep hkb (fun q => by
            obtain ⟨_, _, hbc, _⟩ := hoc8
            subst q
            obtain ⟨cur, hb⟩ := slk_at hsl8
            exact blk_ty hb hbc (by decide) rfl) (fun g e q => by
            obtain ⟨cur2, hb2⟩ := oc_row hoc8 _ e
            subst q
            obtain ⟨cur, hb⟩ := slk_at hsl8
            exact blk_ty hb hb2 (by decide) rfl))
          have HRH2 := Lib.hid (show ∀ g, row2 = some g → R + 2 ≤ g from fun g e => by
            rcases HGr.out with ⟨q, _⟩ | ⟨_, g', q, hg'⟩
            · exact hrh g (q ▸ e)
            · rw [e] at q
              injection q with q
              have h1 := hka.size
              obtain ⟨_, _, hbc, _⟩ := HOC7.out
              have h2 := hbc.lt
              omega)
          have HKw8 := Lib.hid (show Keep (fun _ => False) w w4 from (keep0_trans _ _ _ HKe.out hka).trans (hkb.mono fun g _ q => .inr (by have := hrh _ q; have := HRw.out; omega)))
          clear hka hkb hoc8 hsl8
          go_roundw
          case rel => exact ⟨k + 1, r2, m2, (c', keyN key :: st.2), ks ++ [key], rowC2, row2, A3, c5, by rw [List.length_append]; rfl, rfl, rfl, by go_num, hr2, by rw [List.length_append]; simp only [List.length_cons, List.length_nil]; omega, by omega, HD2, HP2, HPi2, HOC8, HRC2, Lib.hid (by rw [List.length_append, List.map_append]; exact HS4b.out), HRH2, HKi2, HR8, HKw8⟩
          case measure => exact HMs.out
end Go.Proofs.YtjgkalcldekmpaaGreatDoor
