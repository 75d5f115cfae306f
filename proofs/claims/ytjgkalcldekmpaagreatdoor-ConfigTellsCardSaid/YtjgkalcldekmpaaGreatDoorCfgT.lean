/-
  config's law: lines.
-/
import Derived.Test.YtjgkalcldekmpaaGreatDoorCfgS
namespace Go.Proofs.YtjgkalcldekmpaaGreatDoor
open Go.RowKit Go Go.Shelf
set_option maxRecDepth 100000
theorem bs_get (l : Bs) (i : Nat) (h : i < (bs l).size) : (bs l)[i] = l[i]'(by rwa [bs_size] at h) := by
  show (bs l).data[i] = _
  simp [bs]
attribute [local go_sem] bs_toList bs_size bs_zero bs_extract bs_get

theorem contains_false {l : Bs} {d : UInt8} : l.contains d = false ↔ ∀ x ∈ l, ¬ x = d := by
  constructor
  · intro h x hx e
    subst e
    rw [List.contains_iff_mem.2 hx] at h
    cases h
  · intro h
    rw [Bool.eq_false_iff]
    intro e
    exact h d (List.contains_iff_mem.1 e) rfl
set_option maxHeartbeats 4000000 in
theorem lawLines_any (l : Bs) (w : World) (hl : l.length ≤ 100000) :
    Calls Tryz.prog 11 #[.string (bs l)] w fun e w' => ∃ (row : Option Nat) (A : Option Addr) (c : Nat), e = .returned (.slice A (spl 10 l).length c) ∧ SlK w' 9 1 row A (spl 10 l).length c ((spl 10 l).map vS) ∧ (∀ g, row = some g → w.heap.size ≤ g) ∧ Keep (fun _ => False) w w' := by
  obtain ⟨i0, hi, hz0, hz1, hz2⟩ := info_parts infoStr
  have HI0 := Lib.hid hi
  have HZ0 := Lib.hid hz0
  have HZ1 := Lib.hid hz1
  have HZ2 := Lib.hid hz2
  clear hi hz0 hz1 hz2
  go_enter Tryz.func11, Tryz.ntmps11
  go_wp2
  go_loopw [3, 4, 5] (fun s a j wr => ∃ (i at_ : Nat) (done : List Bs) (row : Option Nat) (B : Option Addr) (c : Nat), at_ ≤ i ∧ i ≤ l.length ∧ done.length ≤ at_ ∧ a = .int .i64 (at_ : Int) ∧ j = .int .i64 (i : Int) ∧ s = .slice B done.length c ∧ Hid (spl 10 l = done ++ spl 10 (l.drop at_)) ∧ Hid (((l.drop at_).take (i - at_)).contains 10 = false) ∧
    Hid (SlK wr 9 1 row B done.length c (done.map vS)) ∧ Hid (∀ g, row = some g → w.heap.size ≤ g) ∧ Hid (Keep (fun _ => False) w wr)) (fun _ _ j _ => l.length - (intOf j).toNat)
  case atStart => exact ⟨0, 0, [], none, none, 0, Nat.le_refl _, Nat.zero_le _, Nat.le_refl _, rfl, rfl, rfl, Lib.hid rfl, Lib.hid rfl, Lib.hid (SlK.nil_ _ _ _), Lib.hid (fun g e => by cases e), Lib.hid (Keep.refl _ _)⟩
  case round =>
    obtain ⟨i, at_, done, row, B, c, hai, hil, hda, rfl, rfl, rfl, HSp, HCt, HSl, HRo, HKk⟩ := hrel
    have e2 : IntKind.i64.wrap ((i : Int) + 1) = (i : Int) + 1 := IntWalk.i64_in _ (by omega)
    by_cases hlt : i < l.length
    · have q1 : (i : Int) < (l.length : Int) := by omega
      have q2 : (0 : Int) ≤ (i : Int) := by omega
      have hsplit : (l.drop at_).take (i + 1 - at_) = (l.drop at_).take (i - at_) ++ [l[i]] := by
        rw [show i + 1 - at_ = (i - at_) + 1 by omega, List.take_add_one, List.getElem?_drop, show at_ + (i - at_) = i by omega, List.getElem?_eq_getElem hlt]; rfl
      have hdrop : l.drop at_ = (l.drop at_).take (i - at_) ++ l[i] :: l.drop (i + 1) := by
        have := (List.take_append_drop (i - at_) (l.drop at_)).symm
        rw [List.drop_drop, show at_ + (i - at_) = i by omega, List.drop_eq_getElem_cons hlt] at this
        exact this
      have HS1 := Lib.hid hsplit
      have HD1 := Lib.hid hdrop
      clear hsplit hdrop
      by_cases hb : l[i] = 10
      · have q6 : ((l[i]).toNat : Int) = 10 := by rw [hb]; rfl
        rw [hb] at HD1
        have q3 : (at_ : Int) ≤ (i : Int) := by omega
        have q4 : (0 : Int) ≤ (at_ : Int) := by omega
        have q5 : (i : Int) ≤ (l.length : Int) := by omega
        obtain ⟨x, hx⟩ : ∃ x, (l.drop at_).take (i - at_) = x := ⟨_, rfl⟩
        have HX := Lib.hid hx
        have HSp2 : Hid (spl 10 l = (done ++ [x]) ++ spl 10 (l.drop (i + 1))) := Lib.hid (by rw [HSp.out, HD1.out, hx, spl_at _ (by rw [← hx]; exact HCt.out), List.append_assoc]; rfl)
        rw [hx] at HCt
        clear HS1 HD1
        go_wp2_with (at_builtin; refine wpList_append_slK rfl _ _ _ rfl i0 _ 16 Tryz.underlying29 HI0.out HZ0.out HZ1.out HZ2.out rfl (by omega) (HSl.out.keep ((Keep.refl (fun _ => False) _).alloc _) (fun _ _ h => h)) rfl rfl (RdK.of_blk (Blk.new _ _ _) 1 1 rfl) (fun u hu => by simp at hu; subst hu; rfl) (by unfold maxLen; omega) (by omega) ?_; intro row2 A3 c5 w4 hs4 hr4
                     have hgr := hr4.resolve_left (fun h => by have := h.1; omega)
                     have HS4 := Lib.hid hs4
                     have HGr := Lib.hid hgr
                     clear hs4 hr4 hgr)
        have hkb := HKk.out.alloc (.cells #[.string (bs x)] 9)
        have HKn := Lib.hid (HGr.out.keep0 hkb HRo.out)
        have HRn := Lib.hid (HGr.out.own hkb.size HRo.out)
        clear hkb
        go_roundw
        case rel => exact ⟨i + 1, i + 1, done ++ [x], row2, A3, c5, Nat.le_refl _, by omega, by rw [List.length_append]; simp; omega, by go_num, by go_num, by rw [List.length_append]; rfl, HSp2, Lib.hid (by rw [Nat.sub_self]; rfl), Lib.hid (by rw [List.length_append, List.map_append]; exact HS4.out), HRn, HKn⟩
        case measure => simp [intOf]; omega
      · have q3 : ¬ ((l[i]).toNat : Int) = 10 := fun e => hb (UInt8.toNat_inj.1 (by show _ = 10; omega))
        go_wp2
        go_roundw
        case rel => exact ⟨i + 1, at_, done, row, B, c, by omega, by omega, hda, rfl, by go_num, rfl, HSp, Lib.hid (by
          rw [HS1.out, contains_false]
          intro y hy e
          rcases List.mem_append.1 hy with h | h
          · exact contains_false.1 HCt.out y h e
          · rw [List.mem_singleton.1 h] at e; exact hb e), HSl, HRo, HKk⟩
        case measure => simp [intOf]; omega
    · obtain rfl : i = l.length := by omega
      have hr : spl 10 (l.drop at_) = [l.drop at_] := spl_none (by
        have := HCt.out
        rwa [List.take_of_length_le (by rw [List.length_drop]; omega)] at this)
      have HSp2 : Hid (spl 10 l = done ++ [l.drop at_]) := Lib.hid (by rw [HSp.out, hr])
      have q3 : (at_ : Int) ≤ (l.length : Int) := by omega
      have q4 : (0 : Int) ≤ (at_ : Int) := by omega
      have q7 : (l.drop at_).take (l.length - at_) = l.drop at_ := List.take_of_length_le (by rw [List.length_drop]; omega)
      clear hr
      go_wp2_with (at_builtin; refine wpList_append_slK rfl _ _ _ rfl i0 _ 16 Tryz.underlying29 HI0.out HZ0.out HZ1.out HZ2.out rfl (by omega) (HSl.out.keep ((Keep.refl (fun _ => False) _).alloc _) (fun _ _ h => h)) rfl rfl (RdK.of_blk (Blk.new _ _ _) 1 1 rfl) (fun u hu => by simp at hu; subst hu; rfl) (by unfold maxLen; omega) (by omega) ?_; intro row2 A3 c5 w4 hs4 hr4
                   have hgr := hr4.resolve_left (fun h => by have := h.1; omega)
                   have HS4 := Lib.hid hs4
                   have HGr := Lib.hid hgr
                   clear hs4 hr4 hgr)
      have hkb := HKk.out.alloc (.cells #[.string (bs (l.drop at_))] 9)
      have HKn := HGr.out.keep0 hkb HRo.out
      have HRn := HGr.out.own hkb.size HRo.out
      go_ret
      have e : (spl 10 l).length = done.length + 1 := by rw [HSp2.out, List.length_append]; rfl
      rw [e, HSp2.out]
      exact ⟨row2, A3, c5, rfl, by rw [List.map_append]; exact HS4.out, HRn, HKn⟩
end Go.Proofs.YtjgkalcldekmpaaGreatDoor
