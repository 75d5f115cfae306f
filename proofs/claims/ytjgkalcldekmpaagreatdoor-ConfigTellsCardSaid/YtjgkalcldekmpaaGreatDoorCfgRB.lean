/-
  coveyref26: line. Written by gen_rb.py.
-/
import Derived.Test.YtjgkalcldekmpaaGreatDoorCfgRA
namespace Go.Proofs.YtjgkalcldekmpaaGreatDoor
open Go.RowKit Go Go.Shelf
set_option maxRecDepth 100000
attribute [local go_sem] bs_toList bs_size bs_zero

/-- what a key's line makes of a configuration -/
def lineR (key : Bs) (c : Cfg) (l : Bs) : Option Cfg := if keyN key = 17 then none else setM (keyN key) c l
def RPost (b : Nat) (row : Option Nat) (c : Cfg) (key l : Bs) (w : World) (e : Ending) (w' : World) : Prop :=
  e = .returned (.bool (lineR key c l).isSome) ∧ (∀ c', lineR key c l = some c' → ∃ row', OC w' b row' c' ∧ (row' = row ∨ ∀ g, row' = some g → w.heap.size ≤ g)) ∧
    (∃ cs, Blk w' b 25 cs ∧ cs.size = 17) ∧ Keep (fun g => g = b ∨ row = some g) w w'
def moreL (m : Bool) (l : Bs) : List Bs := if m then spl 44 l else []
def bLen : Value → Nat | .bool true => 1 | _ => 0
theorem cut_spl (d : UInt8) (l : Bs) : spl d l = (cutM d l).1 :: (if (cutM d l).2.2 then spl d (cutM d l).2.1 else []) ∧ (cutM d l).1.length ≤ l.length ∧ ((cutM d l).2.2 = true → (cutM d l).2.1.length + 1 ≤ l.length) ∧ ((cutM d l).2.2 = false → (cutM d l).2.1 = []) := by
  by_cases h : l.contains d = true
  · obtain ⟨i, h1, h2⟩ : ∃ i : Nat, Lib.indexByte l d = i ∧ i < l.length := by
      rcases indexByte_eq l d with ⟨_, q, _⟩ | ⟨i, q1, _, _, _, q2, _⟩
      · rw [q] at h; cases h
      · exact ⟨i, q1, q2⟩
    obtain ⟨e1, e2⟩ := split_take l d i h1
    have hne : ∀ y ∈ l.take i, ¬ y = d := contains_false.1 e2
    have hi : l[i] = d := by
      have := (Lib.indexByte_some h1).1
      rw [List.getElem?_eq_getElem h2] at this
      injection this
    rw [cut_at h2 hne hi]
    refine ⟨?_, ?_, fun _ => ?_, fun h => by cases h⟩
    · conv => lhs; rw [e1]
      rw [spl_hit _ _ e2]; rfl
    · simp only [List.length_take]; omega
    · simp only [List.length_drop]; omega
  · have h := Bool.eq_false_iff.2 h
    rw [cut_none (contains_false.1 h)]
    exact ⟨spl_none h, Nat.le_refl _, fun h => (by cases h), fun _ => rfl⟩
theorem numR_cases (l : Bs) : (numM l = none ∧ numR l = (0, false)) ∨ ∃ n, numM l = some n ∧ numR l = (n, true) := by
  cases h : numM l with
  | none => exact .inl ⟨rfl, numR_no h⟩
  | some n => exact .inr ⟨n, rfl, by unfold numR; rw [h]; rfl⟩
set_option maxHeartbeats 16000000 in
theorem rline_any (b : Nat) (row : Option Nat) (c : Cfg) (key l : Bs) (hl : l.length ≤ 1000000) (hc : c.seeds.length ≤ 400000000) (w : World) (h : OC w b row c) (h9 : 9 ≤ w.heap.size) :
    Calls Tryz.prog 40 #[.pointer (some ⟨b, 0, none⟩), .string (bs key), .string (bs l)] w (RPost b row c key l w) := by
  have HO := Lib.hid h
  have HNine := Lib.hid h9
  obtain ⟨i0, hi, hz0, hz1, hz2⟩ := info_parts infoI
  have HI0 := Lib.hid hi
  have HZ0 := Lib.hid hz0
  have HZ1 := Lib.hid hz1
  have HZ2 := Lib.hid hz2
  clear h h9 hi hz0 hz1 hz2
  go_enter Tryz.func40, Tryz.ntmps40
  by_cases hk0 : key = [115, 101, 101, 100, 115]
  · have y0 : (key == [115, 101, 101, 100, 115]) = true := by rw [hk0]; decide
    have y1 : (key == [119, 97, 116, 99, 104]) = false := by rw [hk0]; decide
    have y2 : (key == [109, 105, 110]) = false := by rw [hk0]; decide
    have y3 : (key == [109, 97, 120]) = false := by rw [hk0]; decide
    have y4 : (key == [119, 105, 110, 100, 111, 119]) = false := by rw [hk0]; decide
    have y5 : (key == [114, 101, 116, 114, 121]) = false := by rw [hk0]; decide
    have y6 : (key == [115, 116, 97, 98, 108, 101]) = false := by rw [hk0]; decide
    have y7 : (key == [117, 110, 115, 116, 97, 98, 108, 101]) = false := by rw [hk0]; decide
    have y8 : (key == [115, 116, 114, 97, 116, 101, 103, 121]) = false := by rw [hk0]; decide
    have y9 : (key == [113, 117, 111, 114, 117, 109]) = false := by rw [hk0]; decide
    have y10 : (key == [97, 108, 111, 110, 101]) = false := by rw [hk0]; decide
    have y11 : (key == [119, 101, 97, 107]) = false := by rw [hk0]; decide
    have y12 : (key == [100, 101, 108, 97, 121]) = false := by rw [hk0]; decide
    have y13 : (key == [116, 101, 114, 109]) = false := by rw [hk0]; decide
    have y14 : (key == [104, 111, 108, 100]) = false := by rw [hk0]; decide
    have y15 : (key == [113, 117, 101, 117, 101]) = false := by rw [hk0]; decide
    have y16 : (key == [101, 118, 101, 110, 116, 115]) = false := by rw [hk0]; decide
    have HL := Lib.hid (show lineR key c l = setM 0 c l by rw [hk0]; rfl)
    clear hk0
    go_wp2
    go_loopw [2, 7] (fun v m wr => ∃ (rest : Bs) (mr : Bool) (done : List Bs) (rk : Option Nat) (s : List Int), v = .string (bs rest) ∧ m = .bool mr ∧ rest.length ≤ l.length ∧ Hid (spl 44 l = done ++ moreL mr rest) ∧ Hid (OC wr b rk ⟨c.seeds ++ s, c.v⟩) ∧ Hid (done.mapM (fun x => numM (trimM x)) = some s) ∧ Hid (rk = row ∨ ∀ g, rk = some g → w.heap.size ≤ g) ∧ Hid (Keep (fun g => g = b ∨ row = some g) w wr)) (fun v m _ => sLen v + bLen m)
    case atStart => exact ⟨l, true, [], row, [], rfl, rfl, Nat.le_refl _, Lib.hid rfl, Lib.hid (by rw [List.append_nil]; exact HO.out), Lib.hid rfl, Lib.hid (.inl rfl), Lib.hid (Keep.refl _ _)⟩
    case round =>
      obtain ⟨rest, mr, done, rk, s, rfl, rfl, hrl, HSp, HOk, HM, HRk, HKk⟩ := hrel
      rcases mr with _ | _
      case false =>
        have HMs := Lib.hid (show setM 0 c l = some ⟨c.seeds ++ s, c.v⟩ by
          rw [setM_seeds]; unfold seedsM
          rw [HSp.out, show moreL false rest = [] from rfl, List.append_nil, HM.out]; rfl)
        go_wp2
        go_ret
        refine ⟨by rw [HL.out, HMs.out]; rfl, fun c' hc => ⟨rk, ?_, HRk.out⟩, HOk.out.cells, HKk.out⟩
        rw [HL.out, HMs.out] at hc
        injection hc with hc
        rw [← hc]
        exact HOk.out
      go_wp2_with fail
      refine (rcut_any rest 44 44 rfl (by omega) _).mono ?_
      rintro e w1 ⟨rfl, hk1⟩
      have hcs := cut_spl 44 rest
      have HK1 := Lib.hid hk1
      generalize cutM 44 rest = ct at hcs ⊢
      obtain ⟨one, r2, m2⟩ := ct
      obtain ⟨hs1, hs2, hs3, hs4⟩ := hcs
      have HS1 := Lib.hid hs1
      have HS4 := Lib.hid hs4
      have HS3 := Lib.hid hs3
      clear hk1 hs1 hs4 hs3
      simp only at hs2
      go_wp2_with fail
      refine (rtrim_any one (by omega) _).mono ?_
      rintro e w2 ⟨rfl, hk2⟩
      have HK2 := Lib.hid (keep0_trans _ _ _ HK1.out hk2)
      clear hk2
      go_wp2_with fail
      refine (rnumber_any (trimM one) (Nat.le_trans (trim_len _ _) (by omega)) _).mono ?_
      rintro e w3 ⟨rfl, hk3⟩
      have HK3 := Lib.hid (keep0_trans _ _ _ HK2.out hk3)
      clear hk3 HK2 HK1
      rcases numR_cases (trimM one) with ⟨hn0, hn1⟩ | ⟨n, hn0, hn1⟩
      · rw [hn1]
        have HMs := Lib.hid (show setM 0 c l = none by
          rw [setM_seeds]; unfold seedsM
          rw [HSp.out, show moreL true rest = spl 44 rest from rfl, HS1.out, List.mapM_append, HM.out, List.mapM_cons, hn0]; rfl)
        clear hn0 hn1
        go_wp2
        go_ret
        exact ⟨by rw [HL.out, HMs.out]; rfl, fun c' hc => (by rw [HL.out, HMs.out] at hc; cases hc), (HOk.out.keep0 HK3.out).cells, HKk.out.trans (HK3.out.mono fun _ _ h => h.elim)⟩
      · rw [hn1]
        have HM2 := Lib.hid (show (done ++ [one]).mapM (fun x => numM (trimM x)) = some (s ++ [n]) by rw [List.mapM_append, HM.out, List.mapM_cons, hn0]; rfl)
        have HSp2 := Lib.hid (show spl 44 l = (done ++ [one]) ++ moreL m2 r2 by
          rw [HSp.out, show moreL true rest = spl 44 rest from rfl, HS1.out, List.append_assoc]; rfl)
        clear hn0 hn1
        have hsl : (s ++ [n]).length ≤ 1000001 := by
          have h1 := mapM_len HM2.out
          have h2 := spl_count 44 l
          rw [HSp2.out, List.length_append] at h2
          omega
        have HO3 := Lib.hid (HOk.out.keep0 HK3.out)
        obtain ⟨A, cap, hb, hs, hn9⟩ := HO3.out
        have HB3 := Lib.hid hb
        have HS3b := Lib.hid hs
        have H9 := Lib.hid hn9
        have c0 := hb.cell 0
        rw [cfgA_get _ _ (by decide)] at c0
        have f0 := hb.frozen 0
        simp only [cfgC, if_true] at c0
        have hlen : (c.seeds ++ s).length ≤ 480000000 := by rw [List.length_append] at hsl ⊢; omega
        have HLe : Hid ((c.seeds ++ s).length ≤ 480000000) := Lib.hid hlen
        have HSk := Lib.hid (HKk.out.trans (HK3.out.mono fun _ _ h => h.elim))
        clear hb hs hn9 HK3
        obtain ⟨sz, hsz⟩ : ∃ sz, (c.seeds ++ s).length = sz := ⟨_, rfl⟩
        have HSz := Lib.hid hsz
        simp only [hsz] at c0
        rw [hsz] at HLe
        have hnr : rk ≠ some b := HS3b.out.row_ne HB3.out (by decide)
        have HNr := Lib.hid hnr
        have hs5 : SlK w3 3 1 rk A sz cap ((c.seeds ++ s).map (Value.int .i64)) := by rw [← HSz.out]; exact HS3b.out
        have HS5 := Lib.hid hs5
        have hb5 : Blk w3 b 25 (cfgA (.slice A sz cap) c.v) := by rw [← HSz.out]; exact HB3.out
        have HB5 := Lib.hid hb5
        clear hsz hlen hnr hs5 hb5
        go_wp2_with (at_builtin; refine wpList_append_slK rfl _ _ _ rfl i0 _ 8 Tryz.underlying23 HI0.out HZ0.out HZ1.out HZ2.out rfl (by omega) (HS5.out.keep ((Keep.refl (fun _ => False) _).alloc _) (fun _ _ h => h)) rfl rfl (RdK.of_blk (Blk.new _ _ _) 1 1 rfl) (one_ints [n]) (by have := HLe.out; unfold maxLen; omega) (by have := HLe.out; omega) ?_; intro row2 A3 c5 w4 hs4 hr4
                     have hgr := hr4.resolve_left (fun h => by have := h.1; omega)
                     have hkA : Keep (fun _ => False) w3 (w3.alloc (.cells #[.int .i64 n] 3)) := (Keep.refl _ _).alloc _
                     have hb4 := (HB5.out.keep hkA (fun h => h)).keep hgr.keep HNr.out
                     have c0' := hb4.cell 0
                     rw [cfgA_get _ _ (by decide)] at c0'
                     simp only [cfgC, if_true] at c0'
                     have f0' := hb4.frozen 0
                     have HB4 := Lib.hid hb4
                     have HS4b := Lib.hid hs4
                     have HGr := Lib.hid hgr
                     have HKA := Lib.hid hkA
                     clear hs4 hr4 hgr hb4 hkA)
        have hne2 : row2 ≠ some b := HS4b.out.row_ne HB4.out (by decide)
        have hk4 := HGr.out.keep
        have hrr : row2 = row ∨ ∀ g, row2 = some g → w.heap.size ≤ g := by
          rcases HGr.out with ⟨e1, _⟩ | ⟨_, g', e1, hg'⟩
          · rw [e1]; exact HRk.out
          · right; intro g hg; rw [e1] at hg; injection hg with hg; have := HSk.out.size; simp at hg'; omega
        have h9 : ∀ g, row2 = some g → 9 ≤ g := by
          rcases HGr.out with ⟨e1, _⟩ | ⟨_, g', e1, hg'⟩
          · rw [e1]; exact H9.out.2
          · intro g hg; rw [e1] at hg; injection hg with hg; have := HSk.out.size; have := HNine.out; simp at hg'; omega
        have hsub : ∀ g, rk = some g → (g = b ∨ row = some g) ∨ w.heap.size ≤ g := fun g hg => by
          rcases HRk.out with e1 | e1
          · exact .inl (.inr (e1 ▸ hg))
          · exact .inr (e1 g hg)
        have hkk : Keep (fun g => g = b) w4 (w4.setCell ⟨b, 0, none⟩ (.slice A3 (sz + 1) c5)) := (Keep.refl (fun g => g = b) w4).setCell (fun _ => rfl) _
        have hOC : OC (w4.setCell ⟨b, 0, none⟩ (.slice A3 (sz + 1) c5)) b row2 ⟨c.seeds ++ (s ++ [n]), c.v⟩ := by
          refine ⟨A3, c5, ?_, ?_, H9.out.1, h9⟩
          · have := HB4.out.set_ 0 (.slice A3 (sz + 1) c5)
            rw [cfgA_set0] at this
            rw [show (c.seeds ++ (s ++ [n])).length = sz + 1 by rw [← List.append_assoc, List.length_append, HSz.out]; rfl]
            exact this
          · rw [show (c.seeds ++ (s ++ [n])).length = sz + 1 by rw [← List.append_assoc, List.length_append, HSz.out]; rfl, ← List.append_assoc, List.map_append]
            exact HS4b.out.keep hkk (fun g hg e => hne2 (e ▸ hg))
        have hKn : Keep (fun g => g = b ∨ row = some g) w (w4.setCell ⟨b, 0, none⟩ (.slice A3 (sz + 1) c5)) :=
          ((HSk.out.trans (HKA.out.mono fun _ _ h => h.elim)).trans (hk4.mono fun g _ hg => (hsub g hg))).trans (hkk.mono fun g _ hg => .inl (.inl hg))
        have HOC := Lib.hid hOC
        have HKn := Lib.hid hKn
        clear hOC hKn hkk hk4 hrr h9 hsub hne2 c0'
        have hr2 : r2.length ≤ l.length := by
          rcases Bool.eq_false_or_eq_true m2 with e | e
          · have := HS3.out e; omega
          · rw [HS4.out e]; exact Nat.zero_le _
        go_roundw
        case rel => exact ⟨r2, m2, done ++ [one], row2, s ++ [n], rfl, rfl, hr2, HSp2, HOC, HM2, Lib.hid (by
      rcases HGr.out with ⟨e1, _⟩ | ⟨_, g', e1, hg'⟩
      · rw [e1]; exact HRk.out
      · right; intro g hg; rw [e1] at hg; injection hg with hg; have := HSk.out.size; simp at hg'; omega), HKn⟩
        case measure =>
          simp only [sLen, bs_size]
          rcases Bool.eq_false_or_eq_true m2 with e | e
          · have := HS3.out e; subst e; simp [bLen]; omega
          · have := HS4.out e; subst e this; simp [bLen]
  by_cases hk8 : key = [115, 116, 114, 97, 116, 101, 103, 121]
  · have y0 : (key == [115, 101, 101, 100, 115]) = false := by rw [hk8]; decide
    have y1 : (key == [119, 97, 116, 99, 104]) = false := by rw [hk8]; decide
    have y2 : (key == [109, 105, 110]) = false := by rw [hk8]; decide
    have y3 : (key == [109, 97, 120]) = false := by rw [hk8]; decide
    have y4 : (key == [119, 105, 110, 100, 111, 119]) = false := by rw [hk8]; decide
    have y5 : (key == [114, 101, 116, 114, 121]) = false := by rw [hk8]; decide
    have y6 : (key == [115, 116, 97, 98, 108, 101]) = false := by rw [hk8]; decide
    have y7 : (key == [117, 110, 115, 116, 97, 98, 108, 101]) = false := by rw [hk8]; decide
    have y8 : (key == [115, 116, 114, 97, 116, 101, 103, 121]) = true := by rw [hk8]; decide
    have y9 : (key == [113, 117, 111, 114, 117, 109]) = false := by rw [hk8]; decide
    have y10 : (key == [97, 108, 111, 110, 101]) = false := by rw [hk8]; decide
    have y11 : (key == [119, 101, 97, 107]) = false := by rw [hk8]; decide
    have y12 : (key == [100, 101, 108, 97, 121]) = false := by rw [hk8]; decide
    have y13 : (key == [116, 101, 114, 109]) = false := by rw [hk8]; decide
    have y14 : (key == [104, 111, 108, 100]) = false := by rw [hk8]; decide
    have y15 : (key == [113, 117, 101, 117, 101]) = false := by rw [hk8]; decide
    have y16 : (key == [101, 118, 101, 110, 116, 115]) = false := by rw [hk8]; decide
    have HL := Lib.hid (show lineR key c l = setM 8 c l by rw [hk8]; rfl)
    clear hk8
    go_wp2
    go_loopw [11] (fun v wr => ∃ k : Nat, 1 ≤ k ∧ k ≤ 5 ∧ v = .int .u8 (k : Int) ∧ Hid (∀ j, 1 ≤ j → j < k → NMS.getD j [] ≠ l) ∧ Hid (Keep (fun _ => False) w wr)) (fun v _ => 5 - (intOf v).toNat)
    case atStart => exact ⟨1, by decide, by decide, rfl, Lib.hid (fun j h1 h2 => by omega), Lib.hid (Keep.refl _ _)⟩
    case round =>
      obtain ⟨k, hk1, hk5, rfl, HNo, HKk⟩ := hrel
      have hsel : k = 1 ∨ k = 2 ∨ k = 3 ∨ k = 4 ∨ k = 5 := by omega
      rcases hsel with rfl | rfl | rfl | rfl | rfl
      · have e2 : IntKind.u8.wrap 2 = 2 := IntWalk.u8_in _ (by decide)
        go_wp2_with fail
        refine (rname_any 1 wr).mono ?_
        rintro e w2 ⟨rfl, hk⟩
        have HK := Lib.hid (keep0_trans _ _ _ HKk.out hk)
        rw [show nameM 1 = [115, 116, 97, 116, 105, 99] from rfl]
        clear hk
        by_cases hl2 : l = [115, 116, 97, 116, 105, 99]
        · have z0 : (([115, 116, 97, 116, 105, 99] : Bs) == l) = true := by rw [hl2]; decide
          have HM := Lib.hid (show setM 8 c l = some ⟨c.seeds, upd c.v 8 1⟩ by rw [hl2]; rfl)
          obtain ⟨⟨v0, c0⟩, f0, hst⟩ := (HO.out.keep0 HK.out).store (i := 8) (by decide) (by decide)
          have hx := hst 1
          rw [show cV 8 1 = .int .u8 1 from rfl] at hx
          have HX := Lib.hid hx
          clear hx hst hl2
          go_wp2
          go_ret
          refine ⟨by rw [HL.out, HM.out]; rfl, fun c' hc => ⟨row, ?_, .inl rfl⟩, HX.out.1.cells, (HK.out.mono fun _ _ h => h.elim).trans (HX.out.2.mono fun g _ hg => .inl (.inl hg))⟩
          rw [HL.out, HM.out] at hc
          injection hc with hc
          rw [← hc]
          exact HX.out.1
        · have z0 : (([115, 116, 97, 116, 105, 99] : Bs) == l) = false := beq_eq_false_iff_ne.2 (fun e => hl2 e.symm)
          have HN2 := Lib.hid (show ∀ j, 1 ≤ j → j < 2 → NMS.getD j [] ≠ l from fun j h1 h2 => by
            by_cases e : j = 1
            · rw [e]; exact fun e2 => hl2 e2.symm
            · exact HNo.out j h1 (by omega))
          clear hl2
          go_wp2
          go_roundw
          case rel => exact ⟨2, by decide, by decide, by go_num, HN2, HK⟩
          case measure => simp [intOf]
      · have e2 : IntKind.u8.wrap 3 = 3 := IntWalk.u8_in _ (by decide)
        go_wp2_with fail
        refine (rname_any 2 wr).mono ?_
        rintro e w2 ⟨rfl, hk⟩
        have HK := Lib.hid (keep0_trans _ _ _ HKk.out hk)
        rw [show nameM 2 = [109, 97, 106, 111, 114, 105, 116, 121] from rfl]
        clear hk
        by_cases hl2 : l = [109, 97, 106, 111, 114, 105, 116, 121]
        · have z0 : (([109, 97, 106, 111, 114, 105, 116, 121] : Bs) == l) = true := by rw [hl2]; decide
          have HM := Lib.hid (show setM 8 c l = some ⟨c.seeds, upd c.v 8 2⟩ by rw [hl2]; rfl)
          obtain ⟨⟨v0, c0⟩, f0, hst⟩ := (HO.out.keep0 HK.out).store (i := 8) (by decide) (by decide)
          have hx := hst 2
          rw [show cV 8 2 = .int .u8 2 from rfl] at hx
          have HX := Lib.hid hx
          clear hx hst hl2
          go_wp2
          go_ret
          refine ⟨by rw [HL.out, HM.out]; rfl, fun c' hc => ⟨row, ?_, .inl rfl⟩, HX.out.1.cells, (HK.out.mono fun _ _ h => h.elim).trans (HX.out.2.mono fun g _ hg => .inl (.inl hg))⟩
          rw [HL.out, HM.out] at hc
          injection hc with hc
          rw [← hc]
          exact HX.out.1
        · have z0 : (([109, 97, 106, 111, 114, 105, 116, 121] : Bs) == l) = false := beq_eq_false_iff_ne.2 (fun e => hl2 e.symm)
          have HN2 := Lib.hid (show ∀ j, 1 ≤ j → j < 3 → NMS.getD j [] ≠ l from fun j h1 h2 => by
            by_cases e : j = 2
            · rw [e]; exact fun e2 => hl2 e2.symm
            · exact HNo.out j h1 (by omega))
          clear hl2
          go_wp2
          go_roundw
          case rel => exact ⟨3, by decide, by decide, by go_num, HN2, HK⟩
          case measure => simp [intOf]
      · have e2 : IntKind.u8.wrap 4 = 4 := IntWalk.u8_in _ (by decide)
        go_wp2_with fail
        refine (rname_any 3 wr).mono ?_
        rintro e w2 ⟨rfl, hk⟩
        have HK := Lib.hid (keep0_trans _ _ _ HKk.out hk)
        rw [show nameM 3 = [111, 108, 100, 101, 115, 116] from rfl]
        clear hk
        by_cases hl2 : l = [111, 108, 100, 101, 115, 116]
        · have z0 : (([111, 108, 100, 101, 115, 116] : Bs) == l) = true := by rw [hl2]; decide
          have HM := Lib.hid (show setM 8 c l = some ⟨c.seeds, upd c.v 8 3⟩ by rw [hl2]; rfl)
          obtain ⟨⟨v0, c0⟩, f0, hst⟩ := (HO.out.keep0 HK.out).store (i := 8) (by decide) (by decide)
          have hx := hst 3
          rw [show cV 8 3 = .int .u8 3 from rfl] at hx
          have HX := Lib.hid hx
          clear hx hst hl2
          go_wp2
          go_ret
          refine ⟨by rw [HL.out, HM.out]; rfl, fun c' hc => ⟨row, ?_, .inl rfl⟩, HX.out.1.cells, (HK.out.mono fun _ _ h => h.elim).trans (HX.out.2.mono fun g _ hg => .inl (.inl hg))⟩
          rw [HL.out, HM.out] at hc
          injection hc with hc
          rw [← hc]
          exact HX.out.1
        · have z0 : (([111, 108, 100, 101, 115, 116] : Bs) == l) = false := beq_eq_false_iff_ne.2 (fun e => hl2 e.symm)
          have HN2 := Lib.hid (show ∀ j, 1 ≤ j → j < 4 → NMS.getD j [] ≠ l from fun j h1 h2 => by
            by_cases e : j = 3
            · rw [e]; exact fun e2 => hl2 e2.symm
            · exact HNo.out j h1 (by omega))
          clear hl2
          go_wp2
          go_roundw
          case rel => exact ⟨4, by decide, by decide, by go_num, HN2, HK⟩
          case measure => simp [intOf]
      · have e2 : IntKind.u8.wrap 5 = 5 := IntWalk.u8_in _ (by decide)
        go_wp2_with fail
        refine (rname_any 4 wr).mono ?_
        rintro e w2 ⟨rfl, hk⟩
        have HK := Lib.hid (keep0_trans _ _ _ HKk.out hk)
        rw [show nameM 4 = [108, 101, 97, 115, 101] from rfl]
        clear hk
        by_cases hl2 : l = [108, 101, 97, 115, 101]
        · have z0 : (([108, 101, 97, 115, 101] : Bs) == l) = true := by rw [hl2]; decide
          have HM := Lib.hid (show setM 8 c l = some ⟨c.seeds, upd c.v 8 4⟩ by rw [hl2]; rfl)
          obtain ⟨⟨v0, c0⟩, f0, hst⟩ := (HO.out.keep0 HK.out).store (i := 8) (by decide) (by decide)
          have hx := hst 4
          rw [show cV 8 4 = .int .u8 4 from rfl] at hx
          have HX := Lib.hid hx
          clear hx hst hl2
          go_wp2
          go_ret
          refine ⟨by rw [HL.out, HM.out]; rfl, fun c' hc => ⟨row, ?_, .inl rfl⟩, HX.out.1.cells, (HK.out.mono fun _ _ h => h.elim).trans (HX.out.2.mono fun g _ hg => .inl (.inl hg))⟩
          rw [HL.out, HM.out] at hc
          injection hc with hc
          rw [← hc]
          exact HX.out.1
        · have z0 : (([108, 101, 97, 115, 101] : Bs) == l) = false := beq_eq_false_iff_ne.2 (fun e => hl2 e.symm)
          have HN2 := Lib.hid (show ∀ j, 1 ≤ j → j < 5 → NMS.getD j [] ≠ l from fun j h1 h2 => by
            by_cases e : j = 4
            · rw [e]; exact fun e2 => hl2 e2.symm
            · exact HNo.out j h1 (by omega))
          clear hl2
          go_wp2
          go_roundw
          case rel => exact ⟨5, by decide, by decide, by go_num, HN2, HK⟩
          case measure => simp [intOf]
      · have HM := Lib.hid (show setM 8 c l = none by
          unfold setM
          rw [if_neg (by decide), if_pos rfl, if_neg (fun hm => ?_)]
          have h2 : l = NMS.getD 1 [] ∨ l = NMS.getD 2 [] ∨ l = NMS.getD 3 [] ∨ l = NMS.getD 4 [] := by simpa [NMS] using hm
          rcases h2 with h | h | h | h
          · exact HNo.out 1 (by decide) (by decide) h.symm
          · exact HNo.out 2 (by decide) (by decide) h.symm
          · exact HNo.out 3 (by decide) (by decide) h.symm
          · exact HNo.out 4 (by decide) (by decide) h.symm)
        go_wp2
        go_ret
        exact ⟨by rw [HL.out, HM.out]; rfl, fun c' hc => (by rw [HL.out, HM.out] at hc; cases hc), (HO.out.keep0 HKk.out).cells, HKk.out.mono fun _ _ h => h.elim⟩
  by_cases hk10 : key = [97, 108, 111, 110, 101]
  · have y0 : (key == [115, 101, 101, 100, 115]) = false := by rw [hk10]; decide
    have y1 : (key == [119, 97, 116, 99, 104]) = false := by rw [hk10]; decide
    have y2 : (key == [109, 105, 110]) = false := by rw [hk10]; decide
    have y3 : (key == [109, 97, 120]) = false := by rw [hk10]; decide
    have y4 : (key == [119, 105, 110, 100, 111, 119]) = false := by rw [hk10]; decide
    have y5 : (key == [114, 101, 116, 114, 121]) = false := by rw [hk10]; decide
    have y6 : (key == [115, 116, 97, 98, 108, 101]) = false := by rw [hk10]; decide
    have y7 : (key == [117, 110, 115, 116, 97, 98, 108, 101]) = false := by rw [hk10]; decide
    have y8 : (key == [115, 116, 114, 97, 116, 101, 103, 121]) = false := by rw [hk10]; decide
    have y9 : (key == [113, 117, 111, 114, 117, 109]) = false := by rw [hk10]; decide
    have y10 : (key == [97, 108, 111, 110, 101]) = true := by rw [hk10]; decide
    have y11 : (key == [119, 101, 97, 107]) = false := by rw [hk10]; decide
    have y12 : (key == [100, 101, 108, 97, 121]) = false := by rw [hk10]; decide
    have y13 : (key == [116, 101, 114, 109]) = false := by rw [hk10]; decide
    have y14 : (key == [104, 111, 108, 100]) = false := by rw [hk10]; decide
    have y15 : (key == [113, 117, 101, 117, 101]) = false := by rw [hk10]; decide
    have y16 : (key == [101, 118, 101, 110, 116, 115]) = false := by rw [hk10]; decide
    have HL := Lib.hid (show lineR key c l = setM 10 c l by rw [hk10]; rfl)
    clear hk10
    obtain ⟨⟨v0, c0⟩, f0, hst⟩ := HO.out.store (i := 10) (by decide) (by decide)
    have HSt := Lib.hid hst
    clear hst
    by_cases g0 : l = yesB
    · have z0 : (l == [121, 101, 115]) = true := by rw [g0]; decide
      have z1 : (l == [110, 111]) = false := by rw [g0]; decide
      have HM := Lib.hid (show setM 10 c l = some ⟨c.seeds, upd c.v 10 1⟩ from (setM_flag (i := 10) (by unfold isFlag; decide) c l).trans (if_pos g0))
      clear g0
      have hx := HSt.out 1
      rw [show cV 10 1 = .bool true from rfl] at hx
      have HX := Lib.hid hx
      clear hx
      go_wp2
      go_ret
      refine ⟨by rw [HL.out, HM.out]; rfl, fun c' hc => ⟨row, ?_, .inl rfl⟩, HX.out.1.cells, HX.out.2.mono fun g _ hg => .inl hg⟩
      rw [HL.out, HM.out] at hc
      injection hc with hc
      rw [← hc]
      exact HX.out.1
    by_cases g1 : l = noB
    · have z0 : (l == [121, 101, 115]) = false := by rw [g1]; decide
      have z1 : (l == [110, 111]) = true := by rw [g1]; decide
      have HM := Lib.hid (show setM 10 c l = some ⟨c.seeds, upd c.v 10 0⟩ from (setM_flag (i := 10) (by unfold isFlag; decide) c l).trans ((if_neg g0).trans (if_pos g1)))
      clear g0 g1
      have hx := HSt.out 0
      rw [show cV 10 0 = .bool false from rfl] at hx
      have HX := Lib.hid hx
      clear hx
      go_wp2
      go_ret
      refine ⟨by rw [HL.out, HM.out]; rfl, fun c' hc => ⟨row, ?_, .inl rfl⟩, HX.out.1.cells, HX.out.2.mono fun g _ hg => .inl hg⟩
      rw [HL.out, HM.out] at hc
      injection hc with hc
      rw [← hc]
      exact HX.out.1
    have z0 : (l == [121, 101, 115]) = false := beq_eq_false_iff_ne.2 g0
    have z1 : (l == [110, 111]) = false := beq_eq_false_iff_ne.2 g1
    have HM := Lib.hid (show setM 10 c l = none from (setM_flag (i := 10) (by unfold isFlag; decide) c l).trans ((if_neg g0).trans (if_neg g1)))
    clear g0 g1
    have hx := HSt.out 0
    rw [show cV 10 0 = .bool false from rfl] at hx
    have HX := Lib.hid hx
    clear hx
    go_wp2
    go_ret
    exact ⟨by rw [HL.out, HM.out]; rfl, fun c' hc => (by rw [HL.out, HM.out] at hc; cases hc), HX.out.1.cells, HX.out.2.mono fun g _ hg => .inl hg⟩
  by_cases hk11 : key = [119, 101, 97, 107]
  · have y0 : (key == [115, 101, 101, 100, 115]) = false := by rw [hk11]; decide
    have y1 : (key == [119, 97, 116, 99, 104]) = false := by rw [hk11]; decide
    have y2 : (key == [109, 105, 110]) = false := by rw [hk11]; decide
    have y3 : (key == [109, 97, 120]) = false := by rw [hk11]; decide
    have y4 : (key == [119, 105, 110, 100, 111, 119]) = false := by rw [hk11]; decide
    have y5 : (key == [114, 101, 116, 114, 121]) = false := by rw [hk11]; decide
    have y6 : (key == [115, 116, 97, 98, 108, 101]) = false := by rw [hk11]; decide
    have y7 : (key == [117, 110, 115, 116, 97, 98, 108, 101]) = false := by rw [hk11]; decide
    have y8 : (key == [115, 116, 114, 97, 116, 101, 103, 121]) = false := by rw [hk11]; decide
    have y9 : (key == [113, 117, 111, 114, 117, 109]) = false := by rw [hk11]; decide
    have y10 : (key == [97, 108, 111, 110, 101]) = false := by rw [hk11]; decide
    have y11 : (key == [119, 101, 97, 107]) = true := by rw [hk11]; decide
    have y12 : (key == [100, 101, 108, 97, 121]) = false := by rw [hk11]; decide
    have y13 : (key == [116, 101, 114, 109]) = false := by rw [hk11]; decide
    have y14 : (key == [104, 111, 108, 100]) = false := by rw [hk11]; decide
    have y15 : (key == [113, 117, 101, 117, 101]) = false := by rw [hk11]; decide
    have y16 : (key == [101, 118, 101, 110, 116, 115]) = false := by rw [hk11]; decide
    have HL := Lib.hid (show lineR key c l = setM 11 c l by rw [hk11]; rfl)
    clear hk11
    obtain ⟨⟨v0, c0⟩, f0, hst⟩ := HO.out.store (i := 11) (by decide) (by decide)
    have HSt := Lib.hid hst
    clear hst
    by_cases g0 : l = yesB
    · have z0 : (l == [121, 101, 115]) = true := by rw [g0]; decide
      have z1 : (l == [110, 111]) = false := by rw [g0]; decide
      have HM := Lib.hid (show setM 11 c l = some ⟨c.seeds, upd c.v 11 1⟩ from (setM_flag (i := 11) (by unfold isFlag; decide) c l).trans (if_pos g0))
      clear g0
      have hx := HSt.out 1
      rw [show cV 11 1 = .bool true from rfl] at hx
      have HX := Lib.hid hx
      clear hx
      go_wp2
      go_ret
      refine ⟨by rw [HL.out, HM.out]; rfl, fun c' hc => ⟨row, ?_, .inl rfl⟩, HX.out.1.cells, HX.out.2.mono fun g _ hg => .inl hg⟩
      rw [HL.out, HM.out] at hc
      injection hc with hc
      rw [← hc]
      exact HX.out.1
    by_cases g1 : l = noB
    · have z0 : (l == [121, 101, 115]) = false := by rw [g1]; decide
      have z1 : (l == [110, 111]) = true := by rw [g1]; decide
      have HM := Lib.hid (show setM 11 c l = some ⟨c.seeds, upd c.v 11 0⟩ from (setM_flag (i := 11) (by unfold isFlag; decide) c l).trans ((if_neg g0).trans (if_pos g1)))
      clear g0 g1
      have hx := HSt.out 0
      rw [show cV 11 0 = .bool false from rfl] at hx
      have HX := Lib.hid hx
      clear hx
      go_wp2
      go_ret
      refine ⟨by rw [HL.out, HM.out]; rfl, fun c' hc => ⟨row, ?_, .inl rfl⟩, HX.out.1.cells, HX.out.2.mono fun g _ hg => .inl hg⟩
      rw [HL.out, HM.out] at hc
      injection hc with hc
      rw [← hc]
      exact HX.out.1
    have z0 : (l == [121, 101, 115]) = false := beq_eq_false_iff_ne.2 g0
    have z1 : (l == [110, 111]) = false := beq_eq_false_iff_ne.2 g1
    have HM := Lib.hid (show setM 11 c l = none from (setM_flag (i := 11) (by unfold isFlag; decide) c l).trans ((if_neg g0).trans (if_neg g1)))
    clear g0 g1
    have hx := HSt.out 0
    rw [show cV 11 0 = .bool false from rfl] at hx
    have HX := Lib.hid hx
    clear hx
    go_wp2
    go_ret
    exact ⟨by rw [HL.out, HM.out]; rfl, fun c' hc => (by rw [HL.out, HM.out] at hc; cases hc), HX.out.1.cells, HX.out.2.mono fun g _ hg => .inl hg⟩
  by_cases hk1 : key = [119, 97, 116, 99, 104]
  · have y0 : (key == [115, 101, 101, 100, 115]) = false := by rw [hk1]; decide
    have y1 : (key == [119, 97, 116, 99, 104]) = true := by rw [hk1]; decide
    have y2 : (key == [109, 105, 110]) = false := by rw [hk1]; decide
    have y3 : (key == [109, 97, 120]) = false := by rw [hk1]; decide
    have y4 : (key == [119, 105, 110, 100, 111, 119]) = false := by rw [hk1]; decide
    have y5 : (key == [114, 101, 116, 114, 121]) = false := by rw [hk1]; decide
    have y6 : (key == [115, 116, 97, 98, 108, 101]) = false := by rw [hk1]; decide
    have y7 : (key == [117, 110, 115, 116, 97, 98, 108, 101]) = false := by rw [hk1]; decide
    have y8 : (key == [115, 116, 114, 97, 116, 101, 103, 121]) = false := by rw [hk1]; decide
    have y9 : (key == [113, 117, 111, 114, 117, 109]) = false := by rw [hk1]; decide
    have y10 : (key == [97, 108, 111, 110, 101]) = false := by rw [hk1]; decide
    have y11 : (key == [119, 101, 97, 107]) = false := by rw [hk1]; decide
    have y12 : (key == [100, 101, 108, 97, 121]) = false := by rw [hk1]; decide
    have y13 : (key == [116, 101, 114, 109]) = false := by rw [hk1]; decide
    have y14 : (key == [104, 111, 108, 100]) = false := by rw [hk1]; decide
    have y15 : (key == [113, 117, 101, 117, 101]) = false := by rw [hk1]; decide
    have y16 : (key == [101, 118, 101, 110, 116, 115]) = false := by rw [hk1]; decide
    have HL := Lib.hid (show lineR key c l = setM 1 c l by rw [hk1]; rfl)
    clear hk1
    go_wp2_with fail
    refine (rnumber_any l hl w).mono ?_
    rintro e w2 ⟨rfl, hk⟩
    obtain ⟨⟨v0, c0⟩, f0, hst⟩ := (HO.out.keep0 hk).store (i := 1) (by decide) (by decide)
    have HK := Lib.hid hk
    have HSt := Lib.hid (hst (numR l).1)
    clear hk hst
    go_wp2
    go_ret
    have hx := HSt.out
    rw [cV_num (i := 1) (by unfold isNum; decide)] at hx
    refine ⟨by rw [HL.out, setM_num (i := 1) (by unfold isNum; decide), Option.isSome_map]; rfl, fun c' hc => ⟨row, ?_, .inl rfl⟩, hx.1.cells, (HK.out.mono fun _ _ h => h.elim).trans (hx.2.mono fun g _ hg => .inl (.inl hg))⟩
    rw [HL.out, setM_num (i := 1) (by unfold isNum; decide)] at hc
    obtain ⟨m, hm, rfl⟩ := Option.map_eq_some_iff.1 hc
    have e : (numR l).1 = m := by unfold numR; rw [hm]; rfl
    rw [← e]
    exact hx.1
  by_cases hk2 : key = [109, 105, 110]
  · have y0 : (key == [115, 101, 101, 100, 115]) = false := by rw [hk2]; decide
    have y1 : (key == [119, 97, 116, 99, 104]) = false := by rw [hk2]; decide
    have y2 : (key == [109, 105, 110]) = true := by rw [hk2]; decide
    have y3 : (key == [109, 97, 120]) = false := by rw [hk2]; decide
    have y4 : (key == [119, 105, 110, 100, 111, 119]) = false := by rw [hk2]; decide
    have y5 : (key == [114, 101, 116, 114, 121]) = false := by rw [hk2]; decide
    have y6 : (key == [115, 116, 97, 98, 108, 101]) = false := by rw [hk2]; decide
    have y7 : (key == [117, 110, 115, 116, 97, 98, 108, 101]) = false := by rw [hk2]; decide
    have y8 : (key == [115, 116, 114, 97, 116, 101, 103, 121]) = false := by rw [hk2]; decide
    have y9 : (key == [113, 117, 111, 114, 117, 109]) = false := by rw [hk2]; decide
    have y10 : (key == [97, 108, 111, 110, 101]) = false := by rw [hk2]; decide
    have y11 : (key == [119, 101, 97, 107]) = false := by rw [hk2]; decide
    have y12 : (key == [100, 101, 108, 97, 121]) = false := by rw [hk2]; decide
    have y13 : (key == [116, 101, 114, 109]) = false := by rw [hk2]; decide
    have y14 : (key == [104, 111, 108, 100]) = false := by rw [hk2]; decide
    have y15 : (key == [113, 117, 101, 117, 101]) = false := by rw [hk2]; decide
    have y16 : (key == [101, 118, 101, 110, 116, 115]) = false := by rw [hk2]; decide
    have HL := Lib.hid (show lineR key c l = setM 2 c l by rw [hk2]; rfl)
    clear hk2
    go_wp2_with fail
    refine (rnumber_any l hl w).mono ?_
    rintro e w2 ⟨rfl, hk⟩
    obtain ⟨⟨v0, c0⟩, f0, hst⟩ := (HO.out.keep0 hk).store (i := 2) (by decide) (by decide)
    have HK := Lib.hid hk
    have HSt := Lib.hid (hst (numR l).1)
    clear hk hst
    go_wp2
    go_ret
    have hx := HSt.out
    rw [cV_num (i := 2) (by unfold isNum; decide)] at hx
    refine ⟨by rw [HL.out, setM_num (i := 2) (by unfold isNum; decide), Option.isSome_map]; rfl, fun c' hc => ⟨row, ?_, .inl rfl⟩, hx.1.cells, (HK.out.mono fun _ _ h => h.elim).trans (hx.2.mono fun g _ hg => .inl (.inl hg))⟩
    rw [HL.out, setM_num (i := 2) (by unfold isNum; decide)] at hc
    obtain ⟨m, hm, rfl⟩ := Option.map_eq_some_iff.1 hc
    have e : (numR l).1 = m := by unfold numR; rw [hm]; rfl
    rw [← e]
    exact hx.1
  by_cases hk3 : key = [109, 97, 120]
  · have y0 : (key == [115, 101, 101, 100, 115]) = false := by rw [hk3]; decide
    have y1 : (key == [119, 97, 116, 99, 104]) = false := by rw [hk3]; decide
    have y2 : (key == [109, 105, 110]) = false := by rw [hk3]; decide
    have y3 : (key == [109, 97, 120]) = true := by rw [hk3]; decide
    have y4 : (key == [119, 105, 110, 100, 111, 119]) = false := by rw [hk3]; decide
    have y5 : (key == [114, 101, 116, 114, 121]) = false := by rw [hk3]; decide
    have y6 : (key == [115, 116, 97, 98, 108, 101]) = false := by rw [hk3]; decide
    have y7 : (key == [117, 110, 115, 116, 97, 98, 108, 101]) = false := by rw [hk3]; decide
    have y8 : (key == [115, 116, 114, 97, 116, 101, 103, 121]) = false := by rw [hk3]; decide
    have y9 : (key == [113, 117, 111, 114, 117, 109]) = false := by rw [hk3]; decide
    have y10 : (key == [97, 108, 111, 110, 101]) = false := by rw [hk3]; decide
    have y11 : (key == [119, 101, 97, 107]) = false := by rw [hk3]; decide
    have y12 : (key == [100, 101, 108, 97, 121]) = false := by rw [hk3]; decide
    have y13 : (key == [116, 101, 114, 109]) = false := by rw [hk3]; decide
    have y14 : (key == [104, 111, 108, 100]) = false := by rw [hk3]; decide
    have y15 : (key == [113, 117, 101, 117, 101]) = false := by rw [hk3]; decide
    have y16 : (key == [101, 118, 101, 110, 116, 115]) = false := by rw [hk3]; decide
    have HL := Lib.hid (show lineR key c l = setM 3 c l by rw [hk3]; rfl)
    clear hk3
    go_wp2_with fail
    refine (rnumber_any l hl w).mono ?_
    rintro e w2 ⟨rfl, hk⟩
    obtain ⟨⟨v0, c0⟩, f0, hst⟩ := (HO.out.keep0 hk).store (i := 3) (by decide) (by decide)
    have HK := Lib.hid hk
    have HSt := Lib.hid (hst (numR l).1)
    clear hk hst
    go_wp2
    go_ret
    have hx := HSt.out
    rw [cV_num (i := 3) (by unfold isNum; decide)] at hx
    refine ⟨by rw [HL.out, setM_num (i := 3) (by unfold isNum; decide), Option.isSome_map]; rfl, fun c' hc => ⟨row, ?_, .inl rfl⟩, hx.1.cells, (HK.out.mono fun _ _ h => h.elim).trans (hx.2.mono fun g _ hg => .inl (.inl hg))⟩
    rw [HL.out, setM_num (i := 3) (by unfold isNum; decide)] at hc
    obtain ⟨m, hm, rfl⟩ := Option.map_eq_some_iff.1 hc
    have e : (numR l).1 = m := by unfold numR; rw [hm]; rfl
    rw [← e]
    exact hx.1
  by_cases hk4 : key = [119, 105, 110, 100, 111, 119]
  · have y0 : (key == [115, 101, 101, 100, 115]) = false := by rw [hk4]; decide
    have y1 : (key == [119, 97, 116, 99, 104]) = false := by rw [hk4]; decide
    have y2 : (key == [109, 105, 110]) = false := by rw [hk4]; decide
    have y3 : (key == [109, 97, 120]) = false := by rw [hk4]; decide
    have y4 : (key == [119, 105, 110, 100, 111, 119]) = true := by rw [hk4]; decide
    have y5 : (key == [114, 101, 116, 114, 121]) = false := by rw [hk4]; decide
    have y6 : (key == [115, 116, 97, 98, 108, 101]) = false := by rw [hk4]; decide
    have y7 : (key == [117, 110, 115, 116, 97, 98, 108, 101]) = false := by rw [hk4]; decide
    have y8 : (key == [115, 116, 114, 97, 116, 101, 103, 121]) = false := by rw [hk4]; decide
    have y9 : (key == [113, 117, 111, 114, 117, 109]) = false := by rw [hk4]; decide
    have y10 : (key == [97, 108, 111, 110, 101]) = false := by rw [hk4]; decide
    have y11 : (key == [119, 101, 97, 107]) = false := by rw [hk4]; decide
    have y12 : (key == [100, 101, 108, 97, 121]) = false := by rw [hk4]; decide
    have y13 : (key == [116, 101, 114, 109]) = false := by rw [hk4]; decide
    have y14 : (key == [104, 111, 108, 100]) = false := by rw [hk4]; decide
    have y15 : (key == [113, 117, 101, 117, 101]) = false := by rw [hk4]; decide
    have y16 : (key == [101, 118, 101, 110, 116, 115]) = false := by rw [hk4]; decide
    have HL := Lib.hid (show lineR key c l = setM 4 c l by rw [hk4]; rfl)
    clear hk4
    go_wp2_with fail
    refine (rnumber_any l hl w).mono ?_
    rintro e w2 ⟨rfl, hk⟩
    obtain ⟨⟨v0, c0⟩, f0, hst⟩ := (HO.out.keep0 hk).store (i := 4) (by decide) (by decide)
    have HK := Lib.hid hk
    have HSt := Lib.hid (hst (numR l).1)
    clear hk hst
    go_wp2
    go_ret
    have hx := HSt.out
    rw [cV_num (i := 4) (by unfold isNum; decide)] at hx
    refine ⟨by rw [HL.out, setM_num (i := 4) (by unfold isNum; decide), Option.isSome_map]; rfl, fun c' hc => ⟨row, ?_, .inl rfl⟩, hx.1.cells, (HK.out.mono fun _ _ h => h.elim).trans (hx.2.mono fun g _ hg => .inl (.inl hg))⟩
    rw [HL.out, setM_num (i := 4) (by unfold isNum; decide)] at hc
    obtain ⟨m, hm, rfl⟩ := Option.map_eq_some_iff.1 hc
    have e : (numR l).1 = m := by unfold numR; rw [hm]; rfl
    rw [← e]
    exact hx.1
  by_cases hk5 : key = [114, 101, 116, 114, 121]
  · have y0 : (key == [115, 101, 101, 100, 115]) = false := by rw [hk5]; decide
    have y1 : (key == [119, 97, 116, 99, 104]) = false := by rw [hk5]; decide
    have y2 : (key == [109, 105, 110]) = false := by rw [hk5]; decide
    have y3 : (key == [109, 97, 120]) = false := by rw [hk5]; decide
    have y4 : (key == [119, 105, 110, 100, 111, 119]) = false := by rw [hk5]; decide
    have y5 : (key == [114, 101, 116, 114, 121]) = true := by rw [hk5]; decide
    have y6 : (key == [115, 116, 97, 98, 108, 101]) = false := by rw [hk5]; decide
    have y7 : (key == [117, 110, 115, 116, 97, 98, 108, 101]) = false := by rw [hk5]; decide
    have y8 : (key == [115, 116, 114, 97, 116, 101, 103, 121]) = false := by rw [hk5]; decide
    have y9 : (key == [113, 117, 111, 114, 117, 109]) = false := by rw [hk5]; decide
    have y10 : (key == [97, 108, 111, 110, 101]) = false := by rw [hk5]; decide
    have y11 : (key == [119, 101, 97, 107]) = false := by rw [hk5]; decide
    have y12 : (key == [100, 101, 108, 97, 121]) = false := by rw [hk5]; decide
    have y13 : (key == [116, 101, 114, 109]) = false := by rw [hk5]; decide
    have y14 : (key == [104, 111, 108, 100]) = false := by rw [hk5]; decide
    have y15 : (key == [113, 117, 101, 117, 101]) = false := by rw [hk5]; decide
    have y16 : (key == [101, 118, 101, 110, 116, 115]) = false := by rw [hk5]; decide
    have HL := Lib.hid (show lineR key c l = setM 5 c l by rw [hk5]; rfl)
    clear hk5
    go_wp2_with fail
    refine (rnumber_any l hl w).mono ?_
    rintro e w2 ⟨rfl, hk⟩
    obtain ⟨⟨v0, c0⟩, f0, hst⟩ := (HO.out.keep0 hk).store (i := 5) (by decide) (by decide)
    have HK := Lib.hid hk
    have HSt := Lib.hid (hst (numR l).1)
    clear hk hst
    go_wp2
    go_ret
    have hx := HSt.out
    rw [cV_num (i := 5) (by unfold isNum; decide)] at hx
    refine ⟨by rw [HL.out, setM_num (i := 5) (by unfold isNum; decide), Option.isSome_map]; rfl, fun c' hc => ⟨row, ?_, .inl rfl⟩, hx.1.cells, (HK.out.mono fun _ _ h => h.elim).trans (hx.2.mono fun g _ hg => .inl (.inl hg))⟩
    rw [HL.out, setM_num (i := 5) (by unfold isNum; decide)] at hc
    obtain ⟨m, hm, rfl⟩ := Option.map_eq_some_iff.1 hc
    have e : (numR l).1 = m := by unfold numR; rw [hm]; rfl
    rw [← e]
    exact hx.1
  by_cases hk6 : key = [115, 116, 97, 98, 108, 101]
  · have y0 : (key == [115, 101, 101, 100, 115]) = false := by rw [hk6]; decide
    have y1 : (key == [119, 97, 116, 99, 104]) = false := by rw [hk6]; decide
    have y2 : (key == [109, 105, 110]) = false := by rw [hk6]; decide
    have y3 : (key == [109, 97, 120]) = false := by rw [hk6]; decide
    have y4 : (key == [119, 105, 110, 100, 111, 119]) = false := by rw [hk6]; decide
    have y5 : (key == [114, 101, 116, 114, 121]) = false := by rw [hk6]; decide
    have y6 : (key == [115, 116, 97, 98, 108, 101]) = true := by rw [hk6]; decide
    have y7 : (key == [117, 110, 115, 116, 97, 98, 108, 101]) = false := by rw [hk6]; decide
    have y8 : (key == [115, 116, 114, 97, 116, 101, 103, 121]) = false := by rw [hk6]; decide
    have y9 : (key == [113, 117, 111, 114, 117, 109]) = false := by rw [hk6]; decide
    have y10 : (key == [97, 108, 111, 110, 101]) = false := by rw [hk6]; decide
    have y11 : (key == [119, 101, 97, 107]) = false := by rw [hk6]; decide
    have y12 : (key == [100, 101, 108, 97, 121]) = false := by rw [hk6]; decide
    have y13 : (key == [116, 101, 114, 109]) = false := by rw [hk6]; decide
    have y14 : (key == [104, 111, 108, 100]) = false := by rw [hk6]; decide
    have y15 : (key == [113, 117, 101, 117, 101]) = false := by rw [hk6]; decide
    have y16 : (key == [101, 118, 101, 110, 116, 115]) = false := by rw [hk6]; decide
    have HL := Lib.hid (show lineR key c l = setM 6 c l by rw [hk6]; rfl)
    clear hk6
    go_wp2_with fail
    refine (rnumber_any l hl w).mono ?_
    rintro e w2 ⟨rfl, hk⟩
    obtain ⟨⟨v0, c0⟩, f0, hst⟩ := (HO.out.keep0 hk).store (i := 6) (by decide) (by decide)
    have HK := Lib.hid hk
    have HSt := Lib.hid (hst (numR l).1)
    clear hk hst
    go_wp2
    go_ret
    have hx := HSt.out
    rw [cV_num (i := 6) (by unfold isNum; decide)] at hx
    refine ⟨by rw [HL.out, setM_num (i := 6) (by unfold isNum; decide), Option.isSome_map]; rfl, fun c' hc => ⟨row, ?_, .inl rfl⟩, hx.1.cells, (HK.out.mono fun _ _ h => h.elim).trans (hx.2.mono fun g _ hg => .inl (.inl hg))⟩
    rw [HL.out, setM_num (i := 6) (by unfold isNum; decide)] at hc
    obtain ⟨m, hm, rfl⟩ := Option.map_eq_some_iff.1 hc
    have e : (numR l).1 = m := by unfold numR; rw [hm]; rfl
    rw [← e]
    exact hx.1
  by_cases hk7 : key = [117, 110, 115, 116, 97, 98, 108, 101]
  · have y0 : (key == [115, 101, 101, 100, 115]) = false := by rw [hk7]; decide
    have y1 : (key == [119, 97, 116, 99, 104]) = false := by rw [hk7]; decide
    have y2 : (key == [109, 105, 110]) = false := by rw [hk7]; decide
    have y3 : (key == [109, 97, 120]) = false := by rw [hk7]; decide
    have y4 : (key == [119, 105, 110, 100, 111, 119]) = false := by rw [hk7]; decide
    have y5 : (key == [114, 101, 116, 114, 121]) = false := by rw [hk7]; decide
    have y6 : (key == [115, 116, 97, 98, 108, 101]) = false := by rw [hk7]; decide
    have y7 : (key == [117, 110, 115, 116, 97, 98, 108, 101]) = true := by rw [hk7]; decide
    have y8 : (key == [115, 116, 114, 97, 116, 101, 103, 121]) = false := by rw [hk7]; decide
    have y9 : (key == [113, 117, 111, 114, 117, 109]) = false := by rw [hk7]; decide
    have y10 : (key == [97, 108, 111, 110, 101]) = false := by rw [hk7]; decide
    have y11 : (key == [119, 101, 97, 107]) = false := by rw [hk7]; decide
    have y12 : (key == [100, 101, 108, 97, 121]) = false := by rw [hk7]; decide
    have y13 : (key == [116, 101, 114, 109]) = false := by rw [hk7]; decide
    have y14 : (key == [104, 111, 108, 100]) = false := by rw [hk7]; decide
    have y15 : (key == [113, 117, 101, 117, 101]) = false := by rw [hk7]; decide
    have y16 : (key == [101, 118, 101, 110, 116, 115]) = false := by rw [hk7]; decide
    have HL := Lib.hid (show lineR key c l = setM 7 c l by rw [hk7]; rfl)
    clear hk7
    go_wp2_with fail
    refine (rnumber_any l hl w).mono ?_
    rintro e w2 ⟨rfl, hk⟩
    obtain ⟨⟨v0, c0⟩, f0, hst⟩ := (HO.out.keep0 hk).store (i := 7) (by decide) (by decide)
    have HK := Lib.hid hk
    have HSt := Lib.hid (hst (numR l).1)
    clear hk hst
    go_wp2
    go_ret
    have hx := HSt.out
    rw [cV_num (i := 7) (by unfold isNum; decide)] at hx
    refine ⟨by rw [HL.out, setM_num (i := 7) (by unfold isNum; decide), Option.isSome_map]; rfl, fun c' hc => ⟨row, ?_, .inl rfl⟩, hx.1.cells, (HK.out.mono fun _ _ h => h.elim).trans (hx.2.mono fun g _ hg => .inl (.inl hg))⟩
    rw [HL.out, setM_num (i := 7) (by unfold isNum; decide)] at hc
    obtain ⟨m, hm, rfl⟩ := Option.map_eq_some_iff.1 hc
    have e : (numR l).1 = m := by unfold numR; rw [hm]; rfl
    rw [← e]
    exact hx.1
  by_cases hk9 : key = [113, 117, 111, 114, 117, 109]
  · have y0 : (key == [115, 101, 101, 100, 115]) = false := by rw [hk9]; decide
    have y1 : (key == [119, 97, 116, 99, 104]) = false := by rw [hk9]; decide
    have y2 : (key == [109, 105, 110]) = false := by rw [hk9]; decide
    have y3 : (key == [109, 97, 120]) = false := by rw [hk9]; decide
    have y4 : (key == [119, 105, 110, 100, 111, 119]) = false := by rw [hk9]; decide
    have y5 : (key == [114, 101, 116, 114, 121]) = false := by rw [hk9]; decide
    have y6 : (key == [115, 116, 97, 98, 108, 101]) = false := by rw [hk9]; decide
    have y7 : (key == [117, 110, 115, 116, 97, 98, 108, 101]) = false := by rw [hk9]; decide
    have y8 : (key == [115, 116, 114, 97, 116, 101, 103, 121]) = false := by rw [hk9]; decide
    have y9 : (key == [113, 117, 111, 114, 117, 109]) = true := by rw [hk9]; decide
    have y10 : (key == [97, 108, 111, 110, 101]) = false := by rw [hk9]; decide
    have y11 : (key == [119, 101, 97, 107]) = false := by rw [hk9]; decide
    have y12 : (key == [100, 101, 108, 97, 121]) = false := by rw [hk9]; decide
    have y13 : (key == [116, 101, 114, 109]) = false := by rw [hk9]; decide
    have y14 : (key == [104, 111, 108, 100]) = false := by rw [hk9]; decide
    have y15 : (key == [113, 117, 101, 117, 101]) = false := by rw [hk9]; decide
    have y16 : (key == [101, 118, 101, 110, 116, 115]) = false := by rw [hk9]; decide
    have HL := Lib.hid (show lineR key c l = setM 9 c l by rw [hk9]; rfl)
    clear hk9
    go_wp2_with fail
    refine (rnumber_any l hl w).mono ?_
    rintro e w2 ⟨rfl, hk⟩
    obtain ⟨⟨v0, c0⟩, f0, hst⟩ := (HO.out.keep0 hk).store (i := 9) (by decide) (by decide)
    have HK := Lib.hid hk
    have HSt := Lib.hid (hst (numR l).1)
    clear hk hst
    go_wp2
    go_ret
    have hx := HSt.out
    rw [cV_num (i := 9) (by unfold isNum; decide)] at hx
    refine ⟨by rw [HL.out, setM_num (i := 9) (by unfold isNum; decide), Option.isSome_map]; rfl, fun c' hc => ⟨row, ?_, .inl rfl⟩, hx.1.cells, (HK.out.mono fun _ _ h => h.elim).trans (hx.2.mono fun g _ hg => .inl (.inl hg))⟩
    rw [HL.out, setM_num (i := 9) (by unfold isNum; decide)] at hc
    obtain ⟨m, hm, rfl⟩ := Option.map_eq_some_iff.1 hc
    have e : (numR l).1 = m := by unfold numR; rw [hm]; rfl
    rw [← e]
    exact hx.1
  by_cases hk12 : key = [100, 101, 108, 97, 121]
  · have y0 : (key == [115, 101, 101, 100, 115]) = false := by rw [hk12]; decide
    have y1 : (key == [119, 97, 116, 99, 104]) = false := by rw [hk12]; decide
    have y2 : (key == [109, 105, 110]) = false := by rw [hk12]; decide
    have y3 : (key == [109, 97, 120]) = false := by rw [hk12]; decide
    have y4 : (key == [119, 105, 110, 100, 111, 119]) = false := by rw [hk12]; decide
    have y5 : (key == [114, 101, 116, 114, 121]) = false := by rw [hk12]; decide
    have y6 : (key == [115, 116, 97, 98, 108, 101]) = false := by rw [hk12]; decide
    have y7 : (key == [117, 110, 115, 116, 97, 98, 108, 101]) = false := by rw [hk12]; decide
    have y8 : (key == [115, 116, 114, 97, 116, 101, 103, 121]) = false := by rw [hk12]; decide
    have y9 : (key == [113, 117, 111, 114, 117, 109]) = false := by rw [hk12]; decide
    have y10 : (key == [97, 108, 111, 110, 101]) = false := by rw [hk12]; decide
    have y11 : (key == [119, 101, 97, 107]) = false := by rw [hk12]; decide
    have y12 : (key == [100, 101, 108, 97, 121]) = true := by rw [hk12]; decide
    have y13 : (key == [116, 101, 114, 109]) = false := by rw [hk12]; decide
    have y14 : (key == [104, 111, 108, 100]) = false := by rw [hk12]; decide
    have y15 : (key == [113, 117, 101, 117, 101]) = false := by rw [hk12]; decide
    have y16 : (key == [101, 118, 101, 110, 116, 115]) = false := by rw [hk12]; decide
    have HL := Lib.hid (show lineR key c l = setM 12 c l by rw [hk12]; rfl)
    clear hk12
    go_wp2_with fail
    refine (rnumber_any l hl w).mono ?_
    rintro e w2 ⟨rfl, hk⟩
    obtain ⟨⟨v0, c0⟩, f0, hst⟩ := (HO.out.keep0 hk).store (i := 12) (by decide) (by decide)
    have HK := Lib.hid hk
    have HSt := Lib.hid (hst (numR l).1)
    clear hk hst
    go_wp2
    go_ret
    have hx := HSt.out
    rw [cV_num (i := 12) (by unfold isNum; decide)] at hx
    refine ⟨by rw [HL.out, setM_num (i := 12) (by unfold isNum; decide), Option.isSome_map]; rfl, fun c' hc => ⟨row, ?_, .inl rfl⟩, hx.1.cells, (HK.out.mono fun _ _ h => h.elim).trans (hx.2.mono fun g _ hg => .inl (.inl hg))⟩
    rw [HL.out, setM_num (i := 12) (by unfold isNum; decide)] at hc
    obtain ⟨m, hm, rfl⟩ := Option.map_eq_some_iff.1 hc
    have e : (numR l).1 = m := by unfold numR; rw [hm]; rfl
    rw [← e]
    exact hx.1
  by_cases hk13 : key = [116, 101, 114, 109]
  · have y0 : (key == [115, 101, 101, 100, 115]) = false := by rw [hk13]; decide
    have y1 : (key == [119, 97, 116, 99, 104]) = false := by rw [hk13]; decide
    have y2 : (key == [109, 105, 110]) = false := by rw [hk13]; decide
    have y3 : (key == [109, 97, 120]) = false := by rw [hk13]; decide
    have y4 : (key == [119, 105, 110, 100, 111, 119]) = false := by rw [hk13]; decide
    have y5 : (key == [114, 101, 116, 114, 121]) = false := by rw [hk13]; decide
    have y6 : (key == [115, 116, 97, 98, 108, 101]) = false := by rw [hk13]; decide
    have y7 : (key == [117, 110, 115, 116, 97, 98, 108, 101]) = false := by rw [hk13]; decide
    have y8 : (key == [115, 116, 114, 97, 116, 101, 103, 121]) = false := by rw [hk13]; decide
    have y9 : (key == [113, 117, 111, 114, 117, 109]) = false := by rw [hk13]; decide
    have y10 : (key == [97, 108, 111, 110, 101]) = false := by rw [hk13]; decide
    have y11 : (key == [119, 101, 97, 107]) = false := by rw [hk13]; decide
    have y12 : (key == [100, 101, 108, 97, 121]) = false := by rw [hk13]; decide
    have y13 : (key == [116, 101, 114, 109]) = true := by rw [hk13]; decide
    have y14 : (key == [104, 111, 108, 100]) = false := by rw [hk13]; decide
    have y15 : (key == [113, 117, 101, 117, 101]) = false := by rw [hk13]; decide
    have y16 : (key == [101, 118, 101, 110, 116, 115]) = false := by rw [hk13]; decide
    have HL := Lib.hid (show lineR key c l = setM 13 c l by rw [hk13]; rfl)
    clear hk13
    go_wp2_with fail
    refine (rnumber_any l hl w).mono ?_
    rintro e w2 ⟨rfl, hk⟩
    obtain ⟨⟨v0, c0⟩, f0, hst⟩ := (HO.out.keep0 hk).store (i := 13) (by decide) (by decide)
    have HK := Lib.hid hk
    have HSt := Lib.hid (hst (numR l).1)
    clear hk hst
    go_wp2
    go_ret
    have hx := HSt.out
    rw [cV_num (i := 13) (by unfold isNum; decide)] at hx
    refine ⟨by rw [HL.out, setM_num (i := 13) (by unfold isNum; decide), Option.isSome_map]; rfl, fun c' hc => ⟨row, ?_, .inl rfl⟩, hx.1.cells, (HK.out.mono fun _ _ h => h.elim).trans (hx.2.mono fun g _ hg => .inl (.inl hg))⟩
    rw [HL.out, setM_num (i := 13) (by unfold isNum; decide)] at hc
    obtain ⟨m, hm, rfl⟩ := Option.map_eq_some_iff.1 hc
    have e : (numR l).1 = m := by unfold numR; rw [hm]; rfl
    rw [← e]
    exact hx.1
  by_cases hk14 : key = [104, 111, 108, 100]
  · have y0 : (key == [115, 101, 101, 100, 115]) = false := by rw [hk14]; decide
    have y1 : (key == [119, 97, 116, 99, 104]) = false := by rw [hk14]; decide
    have y2 : (key == [109, 105, 110]) = false := by rw [hk14]; decide
    have y3 : (key == [109, 97, 120]) = false := by rw [hk14]; decide
    have y4 : (key == [119, 105, 110, 100, 111, 119]) = false := by rw [hk14]; decide
    have y5 : (key == [114, 101, 116, 114, 121]) = false := by rw [hk14]; decide
    have y6 : (key == [115, 116, 97, 98, 108, 101]) = false := by rw [hk14]; decide
    have y7 : (key == [117, 110, 115, 116, 97, 98, 108, 101]) = false := by rw [hk14]; decide
    have y8 : (key == [115, 116, 114, 97, 116, 101, 103, 121]) = false := by rw [hk14]; decide
    have y9 : (key == [113, 117, 111, 114, 117, 109]) = false := by rw [hk14]; decide
    have y10 : (key == [97, 108, 111, 110, 101]) = false := by rw [hk14]; decide
    have y11 : (key == [119, 101, 97, 107]) = false := by rw [hk14]; decide
    have y12 : (key == [100, 101, 108, 97, 121]) = false := by rw [hk14]; decide
    have y13 : (key == [116, 101, 114, 109]) = false := by rw [hk14]; decide
    have y14 : (key == [104, 111, 108, 100]) = true := by rw [hk14]; decide
    have y15 : (key == [113, 117, 101, 117, 101]) = false := by rw [hk14]; decide
    have y16 : (key == [101, 118, 101, 110, 116, 115]) = false := by rw [hk14]; decide
    have HL := Lib.hid (show lineR key c l = setM 14 c l by rw [hk14]; rfl)
    clear hk14
    go_wp2_with fail
    refine (rnumber_any l hl w).mono ?_
    rintro e w2 ⟨rfl, hk⟩
    obtain ⟨⟨v0, c0⟩, f0, hst⟩ := (HO.out.keep0 hk).store (i := 14) (by decide) (by decide)
    have HK := Lib.hid hk
    have HSt := Lib.hid (hst (numR l).1)
    clear hk hst
    go_wp2
    go_ret
    have hx := HSt.out
    rw [cV_num (i := 14) (by unfold isNum; decide)] at hx
    refine ⟨by rw [HL.out, setM_num (i := 14) (by unfold isNum; decide), Option.isSome_map]; rfl, fun c' hc => ⟨row, ?_, .inl rfl⟩, hx.1.cells, (HK.out.mono fun _ _ h => h.elim).trans (hx.2.mono fun g _ hg => .inl (.inl hg))⟩
    rw [HL.out, setM_num (i := 14) (by unfold isNum; decide)] at hc
    obtain ⟨m, hm, rfl⟩ := Option.map_eq_some_iff.1 hc
    have e : (numR l).1 = m := by unfold numR; rw [hm]; rfl
    rw [← e]
    exact hx.1
  by_cases hk15 : key = [113, 117, 101, 117, 101]
  · have y0 : (key == [115, 101, 101, 100, 115]) = false := by rw [hk15]; decide
    have y1 : (key == [119, 97, 116, 99, 104]) = false := by rw [hk15]; decide
    have y2 : (key == [109, 105, 110]) = false := by rw [hk15]; decide
    have y3 : (key == [109, 97, 120]) = false := by rw [hk15]; decide
    have y4 : (key == [119, 105, 110, 100, 111, 119]) = false := by rw [hk15]; decide
    have y5 : (key == [114, 101, 116, 114, 121]) = false := by rw [hk15]; decide
    have y6 : (key == [115, 116, 97, 98, 108, 101]) = false := by rw [hk15]; decide
    have y7 : (key == [117, 110, 115, 116, 97, 98, 108, 101]) = false := by rw [hk15]; decide
    have y8 : (key == [115, 116, 114, 97, 116, 101, 103, 121]) = false := by rw [hk15]; decide
    have y9 : (key == [113, 117, 111, 114, 117, 109]) = false := by rw [hk15]; decide
    have y10 : (key == [97, 108, 111, 110, 101]) = false := by rw [hk15]; decide
    have y11 : (key == [119, 101, 97, 107]) = false := by rw [hk15]; decide
    have y12 : (key == [100, 101, 108, 97, 121]) = false := by rw [hk15]; decide
    have y13 : (key == [116, 101, 114, 109]) = false := by rw [hk15]; decide
    have y14 : (key == [104, 111, 108, 100]) = false := by rw [hk15]; decide
    have y15 : (key == [113, 117, 101, 117, 101]) = true := by rw [hk15]; decide
    have y16 : (key == [101, 118, 101, 110, 116, 115]) = false := by rw [hk15]; decide
    have HL := Lib.hid (show lineR key c l = setM 15 c l by rw [hk15]; rfl)
    clear hk15
    go_wp2_with fail
    refine (rnumber_any l hl w).mono ?_
    rintro e w2 ⟨rfl, hk⟩
    obtain ⟨⟨v0, c0⟩, f0, hst⟩ := (HO.out.keep0 hk).store (i := 15) (by decide) (by decide)
    have HK := Lib.hid hk
    have HSt := Lib.hid (hst (numR l).1)
    clear hk hst
    go_wp2
    go_ret
    have hx := HSt.out
    rw [cV_num (i := 15) (by unfold isNum; decide)] at hx
    refine ⟨by rw [HL.out, setM_num (i := 15) (by unfold isNum; decide), Option.isSome_map]; rfl, fun c' hc => ⟨row, ?_, .inl rfl⟩, hx.1.cells, (HK.out.mono fun _ _ h => h.elim).trans (hx.2.mono fun g _ hg => .inl (.inl hg))⟩
    rw [HL.out, setM_num (i := 15) (by unfold isNum; decide)] at hc
    obtain ⟨m, hm, rfl⟩ := Option.map_eq_some_iff.1 hc
    have e : (numR l).1 = m := by unfold numR; rw [hm]; rfl
    rw [← e]
    exact hx.1
  by_cases hk16 : key = [101, 118, 101, 110, 116, 115]
  · have y0 : (key == [115, 101, 101, 100, 115]) = false := by rw [hk16]; decide
    have y1 : (key == [119, 97, 116, 99, 104]) = false := by rw [hk16]; decide
    have y2 : (key == [109, 105, 110]) = false := by rw [hk16]; decide
    have y3 : (key == [109, 97, 120]) = false := by rw [hk16]; decide
    have y4 : (key == [119, 105, 110, 100, 111, 119]) = false := by rw [hk16]; decide
    have y5 : (key == [114, 101, 116, 114, 121]) = false := by rw [hk16]; decide
    have y6 : (key == [115, 116, 97, 98, 108, 101]) = false := by rw [hk16]; decide
    have y7 : (key == [117, 110, 115, 116, 97, 98, 108, 101]) = false := by rw [hk16]; decide
    have y8 : (key == [115, 116, 114, 97, 116, 101, 103, 121]) = false := by rw [hk16]; decide
    have y9 : (key == [113, 117, 111, 114, 117, 109]) = false := by rw [hk16]; decide
    have y10 : (key == [97, 108, 111, 110, 101]) = false := by rw [hk16]; decide
    have y11 : (key == [119, 101, 97, 107]) = false := by rw [hk16]; decide
    have y12 : (key == [100, 101, 108, 97, 121]) = false := by rw [hk16]; decide
    have y13 : (key == [116, 101, 114, 109]) = false := by rw [hk16]; decide
    have y14 : (key == [104, 111, 108, 100]) = false := by rw [hk16]; decide
    have y15 : (key == [113, 117, 101, 117, 101]) = false := by rw [hk16]; decide
    have y16 : (key == [101, 118, 101, 110, 116, 115]) = true := by rw [hk16]; decide
    have HL := Lib.hid (show lineR key c l = setM 16 c l by rw [hk16]; rfl)
    clear hk16
    go_wp2_with fail
    refine (rnumber_any l hl w).mono ?_
    rintro e w2 ⟨rfl, hk⟩
    obtain ⟨⟨v0, c0⟩, f0, hst⟩ := (HO.out.keep0 hk).store (i := 16) (by decide) (by decide)
    have HK := Lib.hid hk
    have HSt := Lib.hid (hst (numR l).1)
    clear hk hst
    go_wp2
    go_ret
    have hx := HSt.out
    rw [cV_num (i := 16) (by unfold isNum; decide)] at hx
    refine ⟨by rw [HL.out, setM_num (i := 16) (by unfold isNum; decide), Option.isSome_map]; rfl, fun c' hc => ⟨row, ?_, .inl rfl⟩, hx.1.cells, (HK.out.mono fun _ _ h => h.elim).trans (hx.2.mono fun g _ hg => .inl (.inl hg))⟩
    rw [HL.out, setM_num (i := 16) (by unfold isNum; decide)] at hc
    obtain ⟨m, hm, rfl⟩ := Option.map_eq_some_iff.1 hc
    have e : (numR l).1 = m := by unfold numR; rw [hm]; rfl
    rw [← e]
    exact hx.1
  have y0 : (key == [115, 101, 101, 100, 115]) = false := beq_eq_false_iff_ne.2 hk0
  have y1 : (key == [119, 97, 116, 99, 104]) = false := beq_eq_false_iff_ne.2 hk1
  have y2 : (key == [109, 105, 110]) = false := beq_eq_false_iff_ne.2 hk2
  have y3 : (key == [109, 97, 120]) = false := beq_eq_false_iff_ne.2 hk3
  have y4 : (key == [119, 105, 110, 100, 111, 119]) = false := beq_eq_false_iff_ne.2 hk4
  have y5 : (key == [114, 101, 116, 114, 121]) = false := beq_eq_false_iff_ne.2 hk5
  have y6 : (key == [115, 116, 97, 98, 108, 101]) = false := beq_eq_false_iff_ne.2 hk6
  have y7 : (key == [117, 110, 115, 116, 97, 98, 108, 101]) = false := beq_eq_false_iff_ne.2 hk7
  have y8 : (key == [115, 116, 114, 97, 116, 101, 103, 121]) = false := beq_eq_false_iff_ne.2 hk8
  have y9 : (key == [113, 117, 111, 114, 117, 109]) = false := beq_eq_false_iff_ne.2 hk9
  have y10 : (key == [97, 108, 111, 110, 101]) = false := beq_eq_false_iff_ne.2 hk10
  have y11 : (key == [119, 101, 97, 107]) = false := beq_eq_false_iff_ne.2 hk11
  have y12 : (key == [100, 101, 108, 97, 121]) = false := beq_eq_false_iff_ne.2 hk12
  have y13 : (key == [116, 101, 114, 109]) = false := beq_eq_false_iff_ne.2 hk13
  have y14 : (key == [104, 111, 108, 100]) = false := beq_eq_false_iff_ne.2 hk14
  have y15 : (key == [113, 117, 101, 117, 101]) = false := beq_eq_false_iff_ne.2 hk15
  have y16 : (key == [101, 118, 101, 110, 116, 115]) = false := beq_eq_false_iff_ne.2 hk16
  have HL := Lib.hid (show lineR key c l = none from if_pos (by
    unfold keyN
    exact List.idxOf_eq_length (l := KN) (fun hm => by
      simp only [KN, List.mem_cons, List.not_mem_nil, or_false] at hm
      rcases hm with h | h | h | h | h | h | h | h | h | h | h | h | h | h | h | h | h
      · exact hk0 h
      · exact hk1 h
      · exact hk2 h
      · exact hk3 h
      · exact hk4 h
      · exact hk5 h
      · exact hk6 h
      · exact hk7 h
      · exact hk8 h
      · exact hk9 h
      · exact hk10 h
      · exact hk11 h
      · exact hk12 h
      · exact hk13 h
      · exact hk14 h
      · exact hk15 h
      · exact hk16 h)))
  clear hk0 hk1 hk2 hk3 hk4 hk5 hk6 hk7 hk8 hk9 hk10 hk11 hk12 hk13 hk14 hk15 hk16
  go_wp2_with fail
  refine (rnumber_any l hl w).mono ?_
  rintro e w2 ⟨rfl, hk⟩
  have HK := Lib.hid hk
  clear hk
  go_wp2
  go_ret
  exact ⟨by rw [HL.out]; rfl, fun c' hc => (by rw [HL.out] at hc; cases hc), (HO.out.keep0 HK.out).cells, HK.out.mono fun _ _ h => h.elim⟩
end Go.Proofs.YtjgkalcldekmpaaGreatDoor
