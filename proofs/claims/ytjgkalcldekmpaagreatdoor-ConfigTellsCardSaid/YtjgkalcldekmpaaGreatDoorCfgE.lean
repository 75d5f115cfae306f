/-
  config: setStrategy, setSeeds.
-/
import Derived.Test.YtjgkalcldekmpaaGreatDoorCfgD
namespace Go.Proofs.YtjgkalcldekmpaaGreatDoor
open Go.RowKit Go Go.Shelf
set_option maxRecDepth 100000
attribute [local go_sem] bs_toList bs_size bs_zero

theorem infoI : (Tryz.prog.info? 3).map (fun i => (i.zero, i.size, i.bytes)) = some (some (.int .i64 0), 1, 8) := by kernel_rfl
theorem one_ints (l : List Int) : ∀ u ∈ l.map (Value.int .i64), u.oneCell' = true := by
  intro u hu
  obtain ⟨x, _, rfl⟩ := List.mem_map.1 hu
  rfl
theorem dropWhile_len (p : UInt8 → Bool) (l : Bs) : (l.dropWhile p).length ≤ l.length := List.Sublist.length_le (List.dropWhile_sublist p)
theorem trim_len (l cs : Bs) : (Lib.trimS l cs).length ≤ l.length := by
  unfold Lib.trimS Lib.trimLeftS Lib.trimRightS
  refine Nat.le_trans (dropWhile_len _ _) ?_
  rw [List.length_reverse]
  refine Nat.le_trans (dropWhile_len _ _) ?_
  rw [List.length_reverse]
  exact Nat.le_refl _
theorem spl_len (d : UInt8) : ∀ (l : Bs), ∀ x ∈ spl d l, x.length ≤ l.length
  | [], x, h => by simp [spl] at h; simp [h]
  | c :: l, x, h => by
    have ih := spl_len d l
    unfold spl at h
    split at h
    · rcases List.mem_cons.1 h with rfl | h
      · simp
      · have := ih x h; simp; omega
    · rcases List.mem_cons.1 h with rfl | h
      · cases e : spl d l with
        | nil => exact absurd e (spl_ne d l)
        | cons y r =>
          have := ih y (by rw [e]; simp)
          simp; omega
      · have := ih x (List.mem_of_mem_tail h); simp; omega
theorem spl_count (d : UInt8) : ∀ (l : Bs), (spl d l).length ≤ l.length + 1
  | [] => by simp [spl]
  | c :: l => by
    have ih := spl_count d l
    unfold spl
    split
    · simp; omega
    · simp; omega
theorem mapM_next {α β : Type} {f : α → Option β} {l : List α} {k : Nat} {s : List β} (hk : k < l.length) (h : (l.take k).mapM f = some s) : (∀ y, f l[k] = some y → (l.take (k + 1)).mapM f = some (s ++ [y])) ∧ (f l[k] = none → l.mapM f = none) := by
  constructor
  · intro y hy
    rw [List.take_succ_eq_append_getElem hk, List.mapM_append, h]
    simp [hy]
  · intro hn
    have e : l = l.take k ++ l[k] :: l.drop (k + 1) := by rw [List.getElem_cons_drop]; exact (List.take_append_drop _ _).symm
    rw [e, List.mapM_append, h, List.mapM_cons, hn]
    rfl
theorem idx_strat (l : Bs) : (l ∈ NMS.tail ∧ Lib.idxOfS (NMS.map bs) (bs l) = (NMS.idxOf l : Int) ∧ 1 ≤ NMS.idxOf l ∧ NMS.idxOf l ≤ 4) ∨ (l ∉ NMS.tail ∧ Lib.idxOfS (NMS.map bs) (bs l) < 1) := by
  have hb : ∀ m : Bs, (bs m = bs l) ↔ m = l := fun m => bs_inj
  by_cases h0 : l = [115, 116, 97, 116, 105, 99]
  · subst h0; left; decide +kernel
  by_cases h1 : l = [109, 97, 106, 111, 114, 105, 116, 121]
  · subst h1; left; decide +kernel
  by_cases h2 : l = [111, 108, 100, 101, 115, 116]
  · subst h2; left; decide +kernel
  by_cases h3 : l = [108, 101, 97, 115, 101]
  · subst h3; left; decide +kernel
  right
  refine ⟨by unfold NMS; simp [h0, h1, h2, h3], ?_⟩
  by_cases h4 : l = []
  · subst h4; decide +kernel
  · have n0 : ¬ bs [115, 116, 97, 116, 105, 99] = bs l := fun h => h0 ((hb _).1 h).symm
    have n1 : ¬ bs [109, 97, 106, 111, 114, 105, 116, 121] = bs l := fun h => h1 ((hb _).1 h).symm
    have n2 : ¬ bs [111, 108, 100, 101, 115, 116] = bs l := fun h => h2 ((hb _).1 h).symm
    have n3 : ¬ bs [108, 101, 97, 115, 101] = bs l := fun h => h3 ((hb _).1 h).symm
    have n4 : ¬ bs [] = bs l := fun h => h4 ((hb _).1 h).symm
    simp [Lib.idxOfS, Lib.idxFromS, NMS, n0, n1, n2, n3, n4]
set_option maxHeartbeats 1000000 in
theorem setStrategy_any (b : Nat) (row : Option Nat) (c : Cfg) (l : Bs) (w : World) (hE : Env w) (h : OC w b row c) :
    Calls Tryz.prog 52 #[.pointer (some ⟨b, 0, none⟩), .string (bs l)] w (SetPost 8 b row c l w) := by
  have HE := Lib.hid hE
  have HO := Lib.hid h
  clear hE h
  go_enter Tryz.func52, Tryz.ntmps52
  go_wp2_with fail
  refine (Any.slices_Index_string Tryz.lIndex 0 0 5 5 (NMS.map bs) (bs l) _ (by decide) (by decide) (fun j hj => ?_)).mono ?_
  · have hj5 : j < 5 := by simpa [NMS] using hj
    rw [Nat.zero_add, HE.out.str j hj5]
    have : j = 0 ∨ j = 1 ∨ j = 2 ∨ j = 3 ∨ j = 4 := by omega
    rcases this with rfl | rfl | rfl | rfl | rfl <;> rfl
  rintro e w1 ⟨rfl, rfl⟩
  have et : (NMS.map bs).take 5 = NMS.map bs := rfl
  rw [et]
  rcases idx_strat l with ⟨hm, he, h1, h4⟩ | ⟨hm, hlt⟩
  · have HM := Lib.hid hm
    rw [he]
    clear hm he
    obtain ⟨x, hx⟩ : ∃ x : Nat, NMS.idxOf l = x := ⟨_, rfl⟩
    have HX := Lib.hid hx
    rw [hx] at h1 h4 ⊢
    clear hx
    obtain ⟨⟨v0, c0⟩, f0, hst⟩ := HO.out.store (i := 8) (by decide) (by decide)
    have HSt := Lib.hid (hst x)
    clear hst
    have q1 : ¬ (x : Int) < 1 := by omega
    have q2 : IntKind.u8.wrap (x : Int) = (x : Int) := by
      have : x = 1 ∨ x = 2 ∨ x = 3 ∨ x = 4 := by omega
      rcases this with rfl | rfl | rfl | rfl <;> rfl
    go_wp2
    go_ret
    have e : setM 8 c l = some ⟨c.seeds, upd c.v 8 x⟩ := by
      unfold setM
      rw [if_neg (by decide), if_pos rfl, if_pos HM.out, HX.out]
    refine ⟨by rw [e]; rfl, fun c' hc => ⟨row, ?_, .inl rfl⟩, HSt.out.1.cells, HSt.out.2.mono fun g _ hg => .inl hg⟩
    rw [e] at hc
    injection hc with hc; subst hc; exact HSt.out.1
  · have HM := Lib.hid hm
    clear hm
    generalize Lib.idxOfS (NMS.map bs) (bs l) = x at hlt ⊢
    go_wp2
    go_ret
    have e : setM 8 c l = none := by
      unfold setM
      rw [if_neg (by decide), if_pos rfl, if_neg HM.out]
    exact ⟨by rw [e]; rfl, fun c' hc => (by rw [e] at hc; cases hc), HO.out.cells, Keep.refl _ _⟩
theorem strs_get (l : List Bs) {k : Nat} (hk : k < l.length) : (l.map (fun x => Value.string (bs x))).toArray[k]? = some (.string (bs l[k])) := by
  rw [List.getElem?_toArray, List.getElem?_map, List.getElem?_eq_getElem hk]; rfl
theorem setM_seeds (c : Cfg) (l : Bs) : setM 0 c l = (seedsM l).map fun s => ⟨c.seeds ++ s, c.v⟩ := if_pos rfl
set_option maxHeartbeats 4000000 in
theorem setSeeds_any (b : Nat) (row : Option Nat) (c : Cfg) (l : Bs) (w : World) (hE : Env w) (hl : l.length ≤ 40000000) (hc : c.seeds.length ≤ 400000000) (h : OC w b row c) :
    Calls Tryz.prog 42 #[.pointer (some ⟨b, 0, none⟩), .string (bs l)] w (SetPost 0 b row c l w) := by
  have HE := Lib.hid hE
  have HO := Lib.hid h
  obtain ⟨i0, hi, hz0, hz1, hz2⟩ := info_parts infoI
  have HI0 := Lib.hid hi
  have HZ0 := Lib.hid hz0
  have HZ1 := Lib.hid hz1
  have HZ2 := Lib.hid hz2
  have hbw : b < w.heap.size := by obtain ⟨_, _, hb, _⟩ := h; exact hb.lt
  clear hE h hi hz0 hz1 hz2
  go_enter Tryz.func42, Tryz.ntmps42
  go_wp2_with fail
  refine (split_any l 44 _ rfl _ HE.out (by omega)).mono ?_
  rintro e w1 ⟨rfl, hw1⟩
  have hG : Blk w1 w.heap.size 9 ((spl 44 l).map (fun x => Value.string (bs x))).toArray := by rw [hw1]; exact Blk.new _ _ _
  have hk1 : Keep (fun _ => False) w w1 := by rw [hw1]; exact (Keep.refl _ _).alloc _
  clear hw1
  obtain ⟨G, hGe⟩ : ∃ G, w.heap.size = G := ⟨_, rfl⟩
  rw [hGe] at hG ⊢
  have HG := Lib.hid hG
  have HK1 := Lib.hid hk1
  have hbG : ¬ G = b := by omega
  have hcnt := spl_count 44 l
  have HLn := Lib.hid (spl_len 44 l)
  obtain ⟨ps, hps⟩ : ∃ ps, spl 44 l = ps := ⟨_, rfl⟩
  have HPs := Lib.hid hps
  rw [hps] at HG HLn hcnt ⊢
  clear hG hk1 hps
  go_wp2
  go_loopw [12] (fun j wr => ∃ (k : Nat) (rk : Option Nat) (s : List Int), k ≤ ps.length ∧ j = .int .i64 (k : Int) ∧ Hid (OC wr b rk ⟨c.seeds ++ s, c.v⟩) ∧ Hid ((ps.take k).mapM (fun x => numM (trimM x)) = some s) ∧ Hid (s.length = k) ∧ Hid (rk = row ∨ ∀ g, rk = some g → w.heap.size ≤ g) ∧ Hid (Keep (fun g => g = b ∨ row = some g) w wr) ∧ Hid (Blk wr G 9 (ps.map (fun x => Value.string (bs x))).toArray)) (fun j _ => ps.length - (intOf j).toNat)
  case atStart => exact ⟨0, row, [], Nat.zero_le _, rfl, Lib.hid (by rw [List.append_nil]; exact HO.out.keep0 HK1.out), Lib.hid (by simp), Lib.hid rfl, Lib.hid (.inl rfl), Lib.hid (HK1.out.mono fun _ _ h => h.elim), HG⟩
  case round =>
    obtain ⟨k, rk, s, hk, rfl, HOk, HM, HSl, HRk, HKk, HGk⟩ := hrel
    have e2 : IntKind.i64.wrap ((k : Int) + 1) = (k : Int) + 1 := IntWalk.i64_in _ (by omega)
    by_cases hlt : k < ps.length
    · have q1 : (k : Int) < (ps.length : Int) := by omega
      have q2 : (0 : Int) ≤ (k : Int) := by omega
      have p0 : wr.cell? ⟨G, k, none⟩ = some (.string (bs ps[k])) := by rw [HGk.out.cell k, strs_get ps hlt]
      obtain ⟨hn1, hn2⟩ := mapM_next hlt HM.out
      have hxl := HLn.out _ (List.getElem_mem hlt)
      have HN1 := Lib.hid hn1
      have HN2 := Lib.hid hn2
      clear hn1 hn2
      generalize ps[k] = x at p0 HN1 HN2 hxl
      have htl : (trimM x).length ≤ 40000000 := Nat.le_trans (trim_len _ _) (by omega)
      go_wp2_with fail
      refine (trimB_any x _ (by omega)).mono ?_
      rintro e w2 ⟨rfl, hk2⟩
      have HK2 := Lib.hid hk2
      have HEr := Lib.hid (HE.out.keepS HKk.out HO.out.nine)
      clear hk2
      go_wp2_with fail
      refine (number_any (trimM x) _ (HEr.out.keep0 HK2.out) htl).mono ?_
      rintro e w3 ⟨⟨n, rfl, hn⟩, hk3⟩
      have HK3 := Lib.hid (keep0_trans _ _ _ HK2.out hk3)
      have HN := Lib.hid hn
      clear hk3 hn HK2
      cases hnm : numM (trimM x) with
      | none =>
        have HMn := Lib.hid (HN2.out hnm)
        clear hnm
        go_wp2
        go_ret
        have e : setM 0 c l = none := by
          rw [setM_seeds]; unfold seedsM; rw [HPs.out, HMn.out]; rfl
        exact ⟨by rw [e]; rfl, fun c' hc => (by rw [e] at hc; cases hc), (HOk.out.keep0 HK3.out).cells, (HKk.out.trans (HK3.out.mono fun _ _ h => h.elim)).mono fun g _ hg => hg.imp id (fun h => ⟨rfl, h⟩)⟩
      | some y =>
        have HMy := Lib.hid (HN1.out y hnm)
        have hny := HN.out y hnm
        subst hny
        have HO3 := Lib.hid (HOk.out.keep0 HK3.out)
        have HG3 := Lib.hid (HGk.out.keep HK3.out (fun h => h))
        obtain ⟨A, cap, hb, hs, hn9⟩ := HO3.out
        have HB3 := Lib.hid hb
        have HS3 := Lib.hid hs
        have H9 := Lib.hid hn9
        have c0 := hb.cell 0
        rw [cfgA_get _ _ (by decide)] at c0
        have f0 := hb.frozen 0
        simp only [cfgC, if_true] at c0
        have hsl := HSl.out
        have hlen : (c.seeds ++ s).length ≤ 480000000 := by rw [List.length_append]; omega
        have HLe : Hid ((c.seeds ++ s).length ≤ 480000000) := Lib.hid hlen
        have HSk := Lib.hid (HKk.out.trans (HK3.out.mono fun _ _ h => h.elim))
        clear hnm hb hs hn9 HN HN1 HN2 HK3
        obtain ⟨sz, hsz⟩ : ∃ sz, (c.seeds ++ s).length = sz := ⟨_, rfl⟩
        have HSz := Lib.hid hsz
        simp only [hsz] at c0
        rw [hsz] at HLe
        have hnr : rk ≠ some b := HS3.out.row_ne HB3.out (by decide)
        have HNr := Lib.hid hnr
        have hs5 : SlK w3 3 1 rk A sz cap ((c.seeds ++ s).map (Value.int .i64)) := by rw [← HSz.out]; exact HS3.out
        have HS5 := Lib.hid hs5
        have hb5 : Blk w3 b 25 (cfgA (.slice A sz cap) c.v) := by rw [← HSz.out]; exact HB3.out
        have HB5 := Lib.hid hb5
        clear hsz hlen hnr hs5 hb5
        go_wp2_with (at_builtin; refine wpList_append_slK rfl _ _ _ rfl i0 _ 8 Tryz.underlying23 HI0.out HZ0.out HZ1.out HZ2.out rfl (by omega) (HS5.out.keep ((Keep.refl (fun _ => False) _).alloc _) (fun _ _ h => h)) rfl rfl (RdK.of_blk (Blk.new _ _ _) 1 1 rfl) (one_ints [n]) (by have := HLe.out; unfold maxLen; omega) (by have := HLe.out; omega) ?_; intro row2 A3 c5 w4 hs4 hr4
                     have hgr := hr4.resolve_left (fun h => by have := h.1; omega)
                     have hkA : Keep (fun _ => False) w3 (w3.alloc (.cells #[.int .i64 n] 3)) := (Keep.refl _ _).alloc _
                     have hb4 := (HB5.out.keep hkA (fun h => h)).keep hgr.keep HNr.out
                     have c0' := hb4.cell 0
                     rw [cfgA_get _ _ (by decide)] at c0'
                     simp only [cfgC, if_true] at c0'
                     have f0' := hb4.frozen 0
                     have HB4 := Lib.hid hb4
                     have HS4 := Lib.hid hs4
                     have HGr := Lib.hid hgr
                     have HKA := Lib.hid hkA
                     clear hs4 hr4 hgr hb4 hkA)
        have hne2 : row2 ≠ some b := HS4.out.row_ne HB4.out (by decide)
        have hk4 := HGr.out.keep
        have hrr : row2 = row ∨ ∀ g, row2 = some g → w.heap.size ≤ g := by
          rcases HGr.out with ⟨e1, _⟩ | ⟨_, g', e1, hg'⟩
          · rw [e1]; exact HRk.out
          · right; intro g hg; rw [e1] at hg; injection hg with hg; have := HSk.out.size; simp at hg'; omega
        have h9 : ∀ g, row2 = some g → 9 ≤ g := by
          rcases HGr.out with ⟨e1, _⟩ | ⟨_, g', e1, hg'⟩
          · rw [e1]; exact H9.out.2
          · intro g hg; rw [e1] at hg; injection hg with hg; have := HSk.out.size; have := HE.out.nine; simp at hg'; omega
        have hsub : ∀ g, rk = some g → (g = b ∨ row = some g) ∨ w.heap.size ≤ g := fun g hg => by
          rcases HRk.out with e1 | e1
          · exact .inl (.inr (e1 ▸ hg))
          · exact .inr (e1 g hg)
        have hkk : Keep (fun g => g = b) w4 (w4.setCell ⟨b, 0, none⟩ (.slice A3 (sz + 1) c5)) := (Keep.refl (fun g => g = b) w4).setCell (fun _ => rfl) _
        have hGG := ((HG3.out.keep HKA.out (fun h => h)).keep hk4 (fun e => by
          obtain h0 := HS5.out.row_ne HG3.out (by decide)
          exact h0 e)).keep hkk hbG
        have hOC : OC (w4.setCell ⟨b, 0, none⟩ (.slice A3 (sz + 1) c5)) b row2 ⟨c.seeds ++ (s ++ [n]), c.v⟩ := by
          refine ⟨A3, c5, ?_, ?_, H9.out.1, h9⟩
          · have := HB4.out.set_ 0 (.slice A3 (sz + 1) c5)
            rw [cfgA_set0] at this
            rw [show (c.seeds ++ (s ++ [n])).length = sz + 1 by rw [← List.append_assoc, List.length_append, HSz.out]; rfl]
            exact this
          · rw [show (c.seeds ++ (s ++ [n])).length = sz + 1 by rw [← List.append_assoc, List.length_append, HSz.out]; rfl, ← List.append_assoc, List.map_append]
            exact HS4.out.keep hkk (fun g hg e => hne2 (e ▸ hg))
        have hKK := ((HSk.out.trans (HKA.out.mono fun _ _ h => h.elim)).trans (hk4.mono fun g _ hg => hsub g hg)).trans (hkk.mono fun g _ hg => .inl (.inl hg))
        have HOC := Lib.hid hOC
        have HGG := Lib.hid hGG
        have HRR := Lib.hid hrr
        have HKK := Lib.hid hKK
        clear hOC hGG hrr hKK hkk hsub h9 hk4 hne2
        go_roundw
        case rel => exact ⟨k + 1, row2, s ++ [n], by omega, by go_num, HOC, HMy, Lib.hid (by rw [List.length_append, HSl.out]; rfl), HRR, HKK, HGG⟩
        case measure => simp [intOf]; omega
    · obtain rfl : k = ps.length := by omega
      have HM' := HM.out
      rw [List.take_length] at HM'
      have HMa := Lib.hid HM'
      clear HM'
      go_wp2
      go_ret
      have e : setM 0 c l = some ⟨c.seeds ++ s, c.v⟩ := by
        rw [setM_seeds]; unfold seedsM; rw [HPs.out, HMa.out]; rfl
      refine ⟨by rw [e]; rfl, fun c' hc => ?_, HOk.out.cells, HKk.out.mono fun g _ hg => hg.imp id (fun h => ⟨rfl, h⟩)⟩
      rw [e] at hc
      injection hc with hc; subst hc
      exact ⟨rk, HOk.out, HRk.out.imp id (fun h => ⟨rfl, h⟩)⟩
end Go.Proofs.YtjgkalcldekmpaaGreatDoor
