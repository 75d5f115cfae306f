/-
  config: the keys. Written by gen_c.py.
-/
import Derived.Test.YtjgkalcldekmpaaGreatDoorCfgB
import Derived.Laws.EntriesVeiled
namespace Go.Proofs.YtjgkalcldekmpaaGreatDoor
open Go.RowKit Go
set_option maxRecDepth 100000
attribute [local go_sem] bs_toList bs_size bs_zero

/-- the keys' names -/
def KN : List Bs := [[115, 101, 101, 100, 115], [119, 97, 116, 99, 104], [109, 105, 110], [109, 97, 120], [119, 105, 110, 100, 111, 119], [114, 101, 116, 114, 121], [115, 116, 97, 98, 108, 101], [117, 110, 115, 116, 97, 98, 108, 101], [115, 116, 114, 97, 116, 101, 103, 121], [113, 117, 111, 114, 117, 109], [97, 108, 111, 110, 101], [119, 101, 97, 107], [100, 101, 108, 97, 121], [116, 101, 114, 109], [104, 111, 108, 100], [113, 117, 101, 117, 101], [101, 118, 101, 110, 116, 115]]
/-- which function tells the place of field i -/
def atF (i : Nat) : Nat := [0, 44, 45, 46, 47, 48, 49, 50, 0, 53, 55, 56, 57, 58, 59, 60, 61].getD i 0
theorem at1 (b : Nat) (w : World) : Calls Tryz.prog 44 #[.pointer (some ⟨b, 0, none⟩)] w fun e w' => e = .returned (.pointer (some ⟨b, 1, none⟩)) ∧ w' = w := by
  go_enter Tryz.func44, Tryz.ntmps44
  go_wp2
  go_ret
  exact ⟨rfl, rfl⟩
theorem at2 (b : Nat) (w : World) : Calls Tryz.prog 45 #[.pointer (some ⟨b, 0, none⟩)] w fun e w' => e = .returned (.pointer (some ⟨b, 2, none⟩)) ∧ w' = w := by
  go_enter Tryz.func45, Tryz.ntmps45
  go_wp2
  go_ret
  exact ⟨rfl, rfl⟩
theorem at3 (b : Nat) (w : World) : Calls Tryz.prog 46 #[.pointer (some ⟨b, 0, none⟩)] w fun e w' => e = .returned (.pointer (some ⟨b, 3, none⟩)) ∧ w' = w := by
  go_enter Tryz.func46, Tryz.ntmps46
  go_wp2
  go_ret
  exact ⟨rfl, rfl⟩
theorem at4 (b : Nat) (w : World) : Calls Tryz.prog 47 #[.pointer (some ⟨b, 0, none⟩)] w fun e w' => e = .returned (.pointer (some ⟨b, 4, none⟩)) ∧ w' = w := by
  go_enter Tryz.func47, Tryz.ntmps47
  go_wp2
  go_ret
  exact ⟨rfl, rfl⟩
theorem at5 (b : Nat) (w : World) : Calls Tryz.prog 48 #[.pointer (some ⟨b, 0, none⟩)] w fun e w' => e = .returned (.pointer (some ⟨b, 5, none⟩)) ∧ w' = w := by
  go_enter Tryz.func48, Tryz.ntmps48
  go_wp2
  go_ret
  exact ⟨rfl, rfl⟩
theorem at6 (b : Nat) (w : World) : Calls Tryz.prog 49 #[.pointer (some ⟨b, 0, none⟩)] w fun e w' => e = .returned (.pointer (some ⟨b, 6, none⟩)) ∧ w' = w := by
  go_enter Tryz.func49, Tryz.ntmps49
  go_wp2
  go_ret
  exact ⟨rfl, rfl⟩
theorem at7 (b : Nat) (w : World) : Calls Tryz.prog 50 #[.pointer (some ⟨b, 0, none⟩)] w fun e w' => e = .returned (.pointer (some ⟨b, 7, none⟩)) ∧ w' = w := by
  go_enter Tryz.func50, Tryz.ntmps50
  go_wp2
  go_ret
  exact ⟨rfl, rfl⟩
theorem at9 (b : Nat) (w : World) : Calls Tryz.prog 53 #[.pointer (some ⟨b, 0, none⟩)] w fun e w' => e = .returned (.pointer (some ⟨b, 9, none⟩)) ∧ w' = w := by
  go_enter Tryz.func53, Tryz.ntmps53
  go_wp2
  go_ret
  exact ⟨rfl, rfl⟩
theorem at10 (b : Nat) (w : World) : Calls Tryz.prog 55 #[.pointer (some ⟨b, 0, none⟩)] w fun e w' => e = .returned (.pointer (some ⟨b, 10, none⟩)) ∧ w' = w := by
  go_enter Tryz.func55, Tryz.ntmps55
  go_wp2
  go_ret
  exact ⟨rfl, rfl⟩
theorem at11 (b : Nat) (w : World) : Calls Tryz.prog 56 #[.pointer (some ⟨b, 0, none⟩)] w fun e w' => e = .returned (.pointer (some ⟨b, 11, none⟩)) ∧ w' = w := by
  go_enter Tryz.func56, Tryz.ntmps56
  go_wp2
  go_ret
  exact ⟨rfl, rfl⟩
theorem at12 (b : Nat) (w : World) : Calls Tryz.prog 57 #[.pointer (some ⟨b, 0, none⟩)] w fun e w' => e = .returned (.pointer (some ⟨b, 12, none⟩)) ∧ w' = w := by
  go_enter Tryz.func57, Tryz.ntmps57
  go_wp2
  go_ret
  exact ⟨rfl, rfl⟩
theorem at13 (b : Nat) (w : World) : Calls Tryz.prog 58 #[.pointer (some ⟨b, 0, none⟩)] w fun e w' => e = .returned (.pointer (some ⟨b, 13, none⟩)) ∧ w' = w := by
  go_enter Tryz.func58, Tryz.ntmps58
  go_wp2
  go_ret
  exact ⟨rfl, rfl⟩
theorem at14 (b : Nat) (w : World) : Calls Tryz.prog 59 #[.pointer (some ⟨b, 0, none⟩)] w fun e w' => e = .returned (.pointer (some ⟨b, 14, none⟩)) ∧ w' = w := by
  go_enter Tryz.func59, Tryz.ntmps59
  go_wp2
  go_ret
  exact ⟨rfl, rfl⟩
theorem at15 (b : Nat) (w : World) : Calls Tryz.prog 60 #[.pointer (some ⟨b, 0, none⟩)] w fun e w' => e = .returned (.pointer (some ⟨b, 15, none⟩)) ∧ w' = w := by
  go_enter Tryz.func60, Tryz.ntmps60
  go_wp2
  go_ret
  exact ⟨rfl, rfl⟩
theorem at16 (b : Nat) (w : World) : Calls Tryz.prog 61 #[.pointer (some ⟨b, 0, none⟩)] w fun e w' => e = .returned (.pointer (some ⟨b, 16, none⟩)) ∧ w' = w := by
  go_enter Tryz.func61, Tryz.ntmps61
  go_wp2
  go_ret
  exact ⟨rfl, rfl⟩
def isNum (i : Nat) : Prop := i < 17 ∧ i ≠ 0 ∧ i ≠ 8 ∧ i ≠ 10 ∧ i ≠ 11
def isFlag (i : Nat) : Prop := i = 10 ∨ i = 11
theorem at_any (i : Nat) (h : isNum i ∨ isFlag i) (b : Nat) (w : World) : Calls Tryz.prog (atF i) #[.pointer (some ⟨b, 0, none⟩)] w fun e w' => e = .returned (.pointer (some ⟨b, i, none⟩)) ∧ w' = w := by
  have h17 : i < 17 := by unfold isNum isFlag at h; omega
  match i, h17, h with
  | n + 17, h, _ => omega
  | 0, _, h => unfold isNum isFlag at h; omega
  | 1, _, _ => exact at1 b w
  | 2, _, _ => exact at2 b w
  | 3, _, _ => exact at3 b w
  | 4, _, _ => exact at4 b w
  | 5, _, _ => exact at5 b w
  | 6, _, _ => exact at6 b w
  | 7, _, _ => exact at7 b w
  | 8, _, h => unfold isNum isFlag at h; omega
  | 9, _, _ => exact at9 b w
  | 10, _, _ => exact at10 b w
  | 11, _, _ => exact at11 b w
  | 12, _, _ => exact at12 b w
  | 13, _, _ => exact at13 b w
  | 14, _, _ => exact at14 b w
  | 15, _, _ => exact at15 b w
  | 16, _, _ => exact at16 b w
theorem at_enters (i : Nat) (h : isNum i ∨ isFlag i) : ∀ (args : Array Value) (w : World), (callFunc (atF i) args).run Tryz.prog w = .ok (.enter (atF i) args) w := by
  have h17 : i < 17 := by unfold isNum isFlag at h; omega
  match i, h17, h with
  | n + 17, h, _ => omega
  | 0, _, h => unfold isNum isFlag at h; omega
  | 1, _, _ => exact enters_of Tryz.func44 (by kernel_rfl) rfl
  | 2, _, _ => exact enters_of Tryz.func45 (by kernel_rfl) rfl
  | 3, _, _ => exact enters_of Tryz.func46 (by kernel_rfl) rfl
  | 4, _, _ => exact enters_of Tryz.func47 (by kernel_rfl) rfl
  | 5, _, _ => exact enters_of Tryz.func48 (by kernel_rfl) rfl
  | 6, _, _ => exact enters_of Tryz.func49 (by kernel_rfl) rfl
  | 7, _, _ => exact enters_of Tryz.func50 (by kernel_rfl) rfl
  | 8, _, h => unfold isNum isFlag at h; omega
  | 9, _, _ => exact enters_of Tryz.func53 (by kernel_rfl) rfl
  | 10, _, _ => exact enters_of Tryz.func55 (by kernel_rfl) rfl
  | 11, _, _ => exact enters_of Tryz.func56 (by kernel_rfl) rfl
  | 12, _, _ => exact enters_of Tryz.func57 (by kernel_rfl) rfl
  | 13, _, _ => exact enters_of Tryz.func58 (by kernel_rfl) rfl
  | 14, _, _ => exact enters_of Tryz.func59 (by kernel_rfl) rfl
  | 15, _, _ => exact enters_of Tryz.func60 (by kernel_rfl) rfl
  | 16, _, _ => exact enters_of Tryz.func61 (by kernel_rfl) rfl
theorem num_any (s : ByteArray) (g : Nat) (w : World) : Calls Tryz.prog 43 #[.string s, .func (.func g) #[] #[]] w fun e w' => ∃ B, e = .returned (.agg #[.string s, .func (.func 80) #[] #[.pointer (some ⟨B, 0, none⟩)], .func (.func 81) #[] #[.pointer (some ⟨B, 0, none⟩)]]) ∧ Blk w' B 83 #[.func (.func g) #[] #[]] ∧ w.heap.size ≤ B ∧ Keep (fun _ => False) w w' := by
  go_enter Tryz.func43, Tryz.ntmps43
  go_wp2
  refine bodyPost_ret (v := .agg #[.string s, .func (.func 80) #[] #[.pointer (some ⟨w.heap.size, 0, none⟩)], .func (.func 81) #[] #[.pointer (some ⟨w.heap.size, 0, none⟩)]]) (by simp [results, Tryz.results43, go_sem]) rfl ⟨w.heap.size, rfl, ?_, Nat.le_refl _, ((Keep.refl _ w).alloc _).alloc _⟩
  exact (Blk.new w 83 #[.func (.func g) #[] #[]]).keep ((Keep.refl (fun _ => False) _).alloc _) (fun h => h)
theorem flag_any (s : ByteArray) (g : Nat) (w : World) : Calls Tryz.prog 54 #[.string s, .func (.func g) #[] #[]] w fun e w' => ∃ B, e = .returned (.agg #[.string s, .func (.func 83) #[] #[.pointer (some ⟨B, 0, none⟩)], .func (.func 84) #[] #[.pointer (some ⟨B, 0, none⟩)]]) ∧ Blk w' B 86 #[.func (.func g) #[] #[]] ∧ w.heap.size ≤ B ∧ Keep (fun _ => False) w w' := by
  go_enter Tryz.func54, Tryz.ntmps54
  go_wp2
  refine bodyPost_ret (v := .agg #[.string s, .func (.func 83) #[] #[.pointer (some ⟨w.heap.size, 0, none⟩)], .func (.func 84) #[] #[.pointer (some ⟨w.heap.size, 0, none⟩)]]) (by simp [results, Tryz.results54, go_sem]) rfl ⟨w.heap.size, rfl, ?_, Nat.le_refl _, ((Keep.refl _ w).alloc _).alloc _⟩
  exact (Blk.new w 86 #[.func (.func g) #[] #[]]).keep ((Keep.refl (fun _ => False) _).alloc _) (fun h => h)
def showV (bx : Nat → Nat) (i : Nat) : Value := if i = 0 then .func (.func 41) #[] #[] else if i = 8 then .func (.func 51) #[] #[] else .func (.func (if i = 10 ∨ i = 11 then 83 else 80)) #[] #[.pointer (some ⟨bx i, 0, none⟩)]
def setV (bx : Nat → Nat) (i : Nat) : Value := if i = 0 then .func (.func 42) #[] #[] else if i = 8 then .func (.func 52) #[] #[] else .func (.func (if i = 10 ∨ i = 11 then 84 else 81)) #[] #[.pointer (some ⟨bx i, 0, none⟩)]
def keyC (bx : Nat → Nat) (i : Nat) : List Value := [.string (bs (KN.getD i [])), showV bx i, setV bx i]
structure KeysAt (w : World) (K : Nat) (bx : Nat → Nat) : Prop where
  row : Blk w K 58 ((List.range 17).flatMap (keyC bx)).toArray
  box : ∀ i, isNum i ∨ isFlag i → Blk w (bx i) (if i = 10 ∨ i = 11 then 86 else 83) #[.func (.func (atF i)) #[] #[]]
theorem KeysAt.keep {w w' : World} {K : Nat} {bx : Nat → Nat} (h : KeysAt w K bx) {S : Nat → Prop} (hk : Keep S w w') (hK : ¬ S K) (hb : ∀ i, isNum i ∨ isFlag i → ¬ S (bx i)) : KeysAt w' K bx :=
  ⟨h.row.keep hk hK, fun i hi => (h.box i hi).keep hk (hb i hi)⟩
theorem KeysAt.keep0 {w w' : World} {K : Nat} {bx : Nat → Nat} (h : KeysAt w K bx) (hk : Keep (fun _ => False) w w') : KeysAt w' K bx := h.keep hk (fun h => h) (fun _ _ h => h)
set_option maxHeartbeats 2000000 in
theorem keys_any (w : World) : Calls Tryz.prog 21 #[] w fun e w' => ∃ K bx, e = .returned (.slice (some ⟨K, 0, none⟩) 17 17) ∧ KeysAt w' K bx ∧ w.heap.size ≤ K ∧ (∀ i, isNum i ∨ isFlag i → w.heap.size ≤ bx i) ∧ Keep (fun _ => False) w w' := by
  have HK0 := Lib.hid (Keep.refl (fun _ => False) w)
  go_enter Tryz.func21, Tryz.ntmps21
  go_wp2_with fail
  refine (num_any _ _ _).mono ?_
  rintro e w1 ⟨b1, rfl, hb, hs, hk⟩
  have HB1 := Lib.hid hb
  have HS1 := Lib.hid (Nat.le_trans HK0.out.size hs)
  have HK1 := Lib.hid (keep0_trans _ _ _ HK0.out hk)
  have HN1 := Lib.hid hk
  clear hb hs hk
  go_wp2_with fail
  refine (num_any _ _ _).mono ?_
  rintro e w2 ⟨b2, rfl, hb, hs, hk⟩
  have HB2 := Lib.hid hb
  have HS2 := Lib.hid (Nat.le_trans HK1.out.size hs)
  have HK2 := Lib.hid (keep0_trans _ _ _ HK1.out hk)
  have HN2 := Lib.hid hk
  clear hb hs hk
  go_wp2_with fail
  refine (num_any _ _ _).mono ?_
  rintro e w3 ⟨b3, rfl, hb, hs, hk⟩
  have HB3 := Lib.hid hb
  have HS3 := Lib.hid (Nat.le_trans HK2.out.size hs)
  have HK3 := Lib.hid (keep0_trans _ _ _ HK2.out hk)
  have HN3 := Lib.hid hk
  clear hb hs hk
  go_wp2_with fail
  refine (num_any _ _ _).mono ?_
  rintro e w4 ⟨b4, rfl, hb, hs, hk⟩
  have HB4 := Lib.hid hb
  have HS4 := Lib.hid (Nat.le_trans HK3.out.size hs)
  have HK4 := Lib.hid (keep0_trans _ _ _ HK3.out hk)
  have HN4 := Lib.hid hk
  clear hb hs hk
  go_wp2_with fail
  refine (num_any _ _ _).mono ?_
  rintro e w5 ⟨b5, rfl, hb, hs, hk⟩
  have HB5 := Lib.hid hb
  have HS5 := Lib.hid (Nat.le_trans HK4.out.size hs)
  have HK5 := Lib.hid (keep0_trans _ _ _ HK4.out hk)
  have HN5 := Lib.hid hk
  clear hb hs hk
  go_wp2_with fail
  refine (num_any _ _ _).mono ?_
  rintro e w6 ⟨b6, rfl, hb, hs, hk⟩
  have HB6 := Lib.hid hb
  have HS6 := Lib.hid (Nat.le_trans HK5.out.size hs)
  have HK6 := Lib.hid (keep0_trans _ _ _ HK5.out hk)
  have HN6 := Lib.hid hk
  clear hb hs hk
  go_wp2_with fail
  refine (num_any _ _ _).mono ?_
  rintro e w7 ⟨b7, rfl, hb, hs, hk⟩
  have HB7 := Lib.hid hb
  have HS7 := Lib.hid (Nat.le_trans HK6.out.size hs)
  have HK7 := Lib.hid (keep0_trans _ _ _ HK6.out hk)
  have HN7 := Lib.hid hk
  clear hb hs hk
  go_wp2_with fail
  refine (num_any _ _ _).mono ?_
  rintro e w9 ⟨b9, rfl, hb, hs, hk⟩
  have HB9 := Lib.hid hb
  have HS9 := Lib.hid (Nat.le_trans HK7.out.size hs)
  have HK9 := Lib.hid (keep0_trans _ _ _ HK7.out hk)
  have HN9 := Lib.hid hk
  clear hb hs hk
  go_wp2_with fail
  refine (flag_any _ _ _).mono ?_
  rintro e w10 ⟨b10, rfl, hb, hs, hk⟩
  have HB10 := Lib.hid hb
  have HS10 := Lib.hid (Nat.le_trans HK9.out.size hs)
  have HK10 := Lib.hid (keep0_trans _ _ _ HK9.out hk)
  have HN10 := Lib.hid hk
  clear hb hs hk
  go_wp2_with fail
  refine (flag_any _ _ _).mono ?_
  rintro e w11 ⟨b11, rfl, hb, hs, hk⟩
  have HB11 := Lib.hid hb
  have HS11 := Lib.hid (Nat.le_trans HK10.out.size hs)
  have HK11 := Lib.hid (keep0_trans _ _ _ HK10.out hk)
  have HN11 := Lib.hid hk
  clear hb hs hk
  go_wp2_with fail
  refine (num_any _ _ _).mono ?_
  rintro e w12 ⟨b12, rfl, hb, hs, hk⟩
  have HB12 := Lib.hid hb
  have HS12 := Lib.hid (Nat.le_trans HK11.out.size hs)
  have HK12 := Lib.hid (keep0_trans _ _ _ HK11.out hk)
  have HN12 := Lib.hid hk
  clear hb hs hk
  go_wp2_with fail
  refine (num_any _ _ _).mono ?_
  rintro e w13 ⟨b13, rfl, hb, hs, hk⟩
  have HB13 := Lib.hid hb
  have HS13 := Lib.hid (Nat.le_trans HK12.out.size hs)
  have HK13 := Lib.hid (keep0_trans _ _ _ HK12.out hk)
  have HN13 := Lib.hid hk
  clear hb hs hk
  go_wp2_with fail
  refine (num_any _ _ _).mono ?_
  rintro e w14 ⟨b14, rfl, hb, hs, hk⟩
  have HB14 := Lib.hid hb
  have HS14 := Lib.hid (Nat.le_trans HK13.out.size hs)
  have HK14 := Lib.hid (keep0_trans _ _ _ HK13.out hk)
  have HN14 := Lib.hid hk
  clear hb hs hk
  go_wp2_with fail
  refine (num_any _ _ _).mono ?_
  rintro e w15 ⟨b15, rfl, hb, hs, hk⟩
  have HB15 := Lib.hid hb
  have HS15 := Lib.hid (Nat.le_trans HK14.out.size hs)
  have HK15 := Lib.hid (keep0_trans _ _ _ HK14.out hk)
  have HN15 := Lib.hid hk
  clear hb hs hk
  go_wp2_with fail
  refine (num_any _ _ _).mono ?_
  rintro e w16 ⟨b16, rfl, hb, hs, hk⟩
  have HB16 := Lib.hid hb
  have HS16 := Lib.hid (Nat.le_trans HK15.out.size hs)
  have HK16 := Lib.hid (keep0_trans _ _ _ HK15.out hk)
  have HN16 := Lib.hid hk
  clear hb hs hk
  go_wp2
  go_ret
  obtain ⟨W, hW⟩ : ∃ W, w16 = W := ⟨_, rfl⟩
  have B1 := (HB1.out.keep (keep0_trans _ _ _ (keep0_trans _ _ _ (keep0_trans _ _ _ (keep0_trans _ _ _ (keep0_trans _ _ _ (keep0_trans _ _ _ (keep0_trans _ _ _ (keep0_trans _ _ _ (keep0_trans _ _ _ (keep0_trans _ _ _ (keep0_trans _ _ _ (keep0_trans _ _ _ (keep0_trans _ _ _ (keep0_trans _ _ _ (Keep.refl (fun _ => False) _) HN2.out) HN3.out) HN4.out) HN5.out) HN6.out) HN7.out) HN9.out) HN10.out) HN11.out) HN12.out) HN13.out) HN14.out) HN15.out) HN16.out) (fun h => h)).keep ((Keep.refl (fun _ => False) _).alloc (.cells ((List.range 17).flatMap (keyC (fun i => ([0, b1, b2, b3, b4, b5, b6, b7, 0, b9, b10, b11, b12, b13, b14, b15, b16] : List Nat).getD i 0))).toArray 58)) (fun h => h)
  have B2 := (HB2.out.keep (keep0_trans _ _ _ (keep0_trans _ _ _ (keep0_trans _ _ _ (keep0_trans _ _ _ (keep0_trans _ _ _ (keep0_trans _ _ _ (keep0_trans _ _ _ (keep0_trans _ _ _ (keep0_trans _ _ _ (keep0_trans _ _ _ (keep0_trans _ _ _ (keep0_trans _ _ _ (keep0_trans _ _ _ (Keep.refl (fun _ => False) _) HN3.out) HN4.out) HN5.out) HN6.out) HN7.out) HN9.out) HN10.out) HN11.out) HN12.out) HN13.out) HN14.out) HN15.out) HN16.out) (fun h => h)).keep ((Keep.refl (fun _ => False) _).alloc (.cells ((List.range 17).flatMap (keyC (fun i => ([0, b1, b2, b3, b4, b5, b6, b7, 0, b9, b10, b11, b12, b13, b14, b15, b16] : List Nat).getD i 0))).toArray 58)) (fun h => h)
  have B3 := (HB3.out.keep (keep0_trans _ _ _ (keep0_trans _ _ _ (keep0_trans _ _ _ (keep0_trans _ _ _ (keep0_trans _ _ _ (keep0_trans _ _ _ (keep0_trans _ _ _ (keep0_trans _ _ _ (keep0_trans _ _ _ (keep0_trans _ _ _ (keep0_trans _ _ _ (keep0_trans _ _ _ (Keep.refl (fun _ => False) _) HN4.out) HN5.out) HN6.out) HN7.out) HN9.out) HN10.out) HN11.out) HN12.out) HN13.out) HN14.out) HN15.out) HN16.out) (fun h => h)).keep ((Keep.refl (fun _ => False) _).alloc (.cells ((List.range 17).flatMap (keyC (fun i => ([0, b1, b2, b3, b4, b5, b6, b7, 0, b9, b10, b11, b12, b13, b14, b15, b16] : List Nat).getD i 0))).toArray 58)) (fun h => h)
  have B4 := (HB4.out.keep (keep0_trans _ _ _ (keep0_trans _ _ _ (keep0_trans _ _ _ (keep0_trans _ _ _ (keep0_trans _ _ _ (keep0_trans _ _ _ (keep0_trans _ _ _ (keep0_trans _ _ _ (keep0_trans _ _ _ (keep0_trans _ _ _ (keep0_trans _ _ _ (Keep.refl (fun _ => False) _) HN5.out) HN6.out) HN7.out) HN9.out) HN10.out) HN11.out) HN12.out) HN13.out) HN14.out) HN15.out) HN16.out) (fun h => h)).keep ((Keep.refl (fun _ => False) _).alloc (.cells ((List.range 17).flatMap (keyC (fun i => ([0, b1, b2, b3, b4, b5, b6, b7, 0, b9, b10, b11, b12, b13, b14, b15, b16] : List Nat).getD i 0))).toArray 58)) (fun h => h)
  have B5 := (HB5.out.keep (keep0_trans _ _ _ (keep0_trans _ _ _ (keep0_trans _ _ _ (keep0_trans _ _ _ (keep0_trans _ _ _ (keep0_trans _ _ _ (keep0_trans _ _ _ (keep0_trans _ _ _ (keep0_trans _ _ _ (keep0_trans _ _ _ (Keep.refl (fun _ => False) _) HN6.out) HN7.out) HN9.out) HN10.out) HN11.out) HN12.out) HN13.out) HN14.out) HN15.out) HN16.out) (fun h => h)).keep ((Keep.refl (fun _ => False) _).alloc (.cells ((List.range 17).flatMap (keyC (fun i => ([0, b1, b2, b3, b4, b5, b6, b7, 0, b9, b10, b11, b12, b13, b14, b15, b16] : List Nat).getD i 0))).toArray 58)) (fun h => h)
  have B6 := (HB6.out.keep (keep0_trans _ _ _ (keep0_trans _ _ _ (keep0_trans _ _ _ (keep0_trans _ _ _ (keep0_trans _ _ _ (keep0_trans _ _ _ (keep0_trans _ _ _ (keep0_trans _ _ _ (keep0_trans _ _ _ (Keep.refl (fun _ => False) _) HN7.out) HN9.out) HN10.out) HN11.out) HN12.out) HN13.out) HN14.out) HN15.out) HN16.out) (fun h => h)).keep ((Keep.refl (fun _ => False) _).alloc (.cells ((List.range 17).flatMap (keyC (fun i => ([0, b1, b2, b3, b4, b5, b6, b7, 0, b9, b10, b11, b12, b13, b14, b15, b16] : List Nat).getD i 0))).toArray 58)) (fun h => h)
  have B7 := (HB7.out.keep (keep0_trans _ _ _ (keep0_trans _ _ _ (keep0_trans _ _ _ (keep0_trans _ _ _ (keep0_trans _ _ _ (keep0_trans _ _ _ (keep0_trans _ _ _ (keep0_trans _ _ _ (Keep.refl (fun _ => False) _) HN9.out) HN10.out) HN11.out) HN12.out) HN13.out) HN14.out) HN15.out) HN16.out) (fun h => h)).keep ((Keep.refl (fun _ => False) _).alloc (.cells ((List.range 17).flatMap (keyC (fun i => ([0, b1, b2, b3, b4, b5, b6, b7, 0, b9, b10, b11, b12, b13, b14, b15, b16] : List Nat).getD i 0))).toArray 58)) (fun h => h)
  have B9 := (HB9.out.keep (keep0_trans _ _ _ (keep0_trans _ _ _ (keep0_trans _ _ _ (keep0_trans _ _ _ (keep0_trans _ _ _ (keep0_trans _ _ _ (keep0_trans _ _ _ (Keep.refl (fun _ => False) _) HN10.out) HN11.out) HN12.out) HN13.out) HN14.out) HN15.out) HN16.out) (fun h => h)).keep ((Keep.refl (fun _ => False) _).alloc (.cells ((List.range 17).flatMap (keyC (fun i => ([0, b1, b2, b3, b4, b5, b6, b7, 0, b9, b10, b11, b12, b13, b14, b15, b16] : List Nat).getD i 0))).toArray 58)) (fun h => h)
  have B10 := (HB10.out.keep (keep0_trans _ _ _ (keep0_trans _ _ _ (keep0_trans _ _ _ (keep0_trans _ _ _ (keep0_trans _ _ _ (keep0_trans _ _ _ (Keep.refl (fun _ => False) _) HN11.out) HN12.out) HN13.out) HN14.out) HN15.out) HN16.out) (fun h => h)).keep ((Keep.refl (fun _ => False) _).alloc (.cells ((List.range 17).flatMap (keyC (fun i => ([0, b1, b2, b3, b4, b5, b6, b7, 0, b9, b10, b11, b12, b13, b14, b15, b16] : List Nat).getD i 0))).toArray 58)) (fun h => h)
  have B11 := (HB11.out.keep (keep0_trans _ _ _ (keep0_trans _ _ _ (keep0_trans _ _ _ (keep0_trans _ _ _ (keep0_trans _ _ _ (Keep.refl (fun _ => False) _) HN12.out) HN13.out) HN14.out) HN15.out) HN16.out) (fun h => h)).keep ((Keep.refl (fun _ => False) _).alloc (.cells ((List.range 17).flatMap (keyC (fun i => ([0, b1, b2, b3, b4, b5, b6, b7, 0, b9, b10, b11, b12, b13, b14, b15, b16] : List Nat).getD i 0))).toArray 58)) (fun h => h)
  have B12 := (HB12.out.keep (keep0_trans _ _ _ (keep0_trans _ _ _ (keep0_trans _ _ _ (keep0_trans _ _ _ (Keep.refl (fun _ => False) _) HN13.out) HN14.out) HN15.out) HN16.out) (fun h => h)).keep ((Keep.refl (fun _ => False) _).alloc (.cells ((List.range 17).flatMap (keyC (fun i => ([0, b1, b2, b3, b4, b5, b6, b7, 0, b9, b10, b11, b12, b13, b14, b15, b16] : List Nat).getD i 0))).toArray 58)) (fun h => h)
  have B13 := (HB13.out.keep (keep0_trans _ _ _ (keep0_trans _ _ _ (keep0_trans _ _ _ (Keep.refl (fun _ => False) _) HN14.out) HN15.out) HN16.out) (fun h => h)).keep ((Keep.refl (fun _ => False) _).alloc (.cells ((List.range 17).flatMap (keyC (fun i => ([0, b1, b2, b3, b4, b5, b6, b7, 0, b9, b10, b11, b12, b13, b14, b15, b16] : List Nat).getD i 0))).toArray 58)) (fun h => h)
  have B14 := (HB14.out.keep (keep0_trans _ _ _ (keep0_trans _ _ _ (Keep.refl (fun _ => False) _) HN15.out) HN16.out) (fun h => h)).keep ((Keep.refl (fun _ => False) _).alloc (.cells ((List.range 17).flatMap (keyC (fun i => ([0, b1, b2, b3, b4, b5, b6, b7, 0, b9, b10, b11, b12, b13, b14, b15, b16] : List Nat).getD i 0))).toArray 58)) (fun h => h)
  have B15 := (HB15.out.keep (keep0_trans _ _ _ (Keep.refl (fun _ => False) _) HN16.out) (fun h => h)).keep ((Keep.refl (fun _ => False) _).alloc (.cells ((List.range 17).flatMap (keyC (fun i => ([0, b1, b2, b3, b4, b5, b6, b7, 0, b9, b10, b11, b12, b13, b14, b15, b16] : List Nat).getD i 0))).toArray 58)) (fun h => h)
  have B16 := (HB16.out.keep (Keep.refl (fun _ => False) _) (fun h => h)).keep ((Keep.refl (fun _ => False) _).alloc (.cells ((List.range 17).flatMap (keyC (fun i => ([0, b1, b2, b3, b4, b5, b6, b7, 0, b9, b10, b11, b12, b13, b14, b15, b16] : List Nat).getD i 0))).toArray 58)) (fun h => h)
  refine ⟨w16.heap.size, (fun i => ([0, b1, b2, b3, b4, b5, b6, b7, 0, b9, b10, b11, b12, b13, b14, b15, b16] : List Nat).getD i 0), rfl, ⟨Blk.new _ _ _, fun i hi => ?_⟩, HK16.out.size, fun i hi => ?_, HK16.out.alloc _⟩
  · have h17 : i < 17 := by unfold isNum isFlag at hi; omega
    match i, h17, hi with
    | n + 17, h, _ => omega
    | 0, _, h => unfold isNum isFlag at h; omega
    | 1, _, _ => exact B1
    | 2, _, _ => exact B2
    | 3, _, _ => exact B3
    | 4, _, _ => exact B4
    | 5, _, _ => exact B5
    | 6, _, _ => exact B6
    | 7, _, _ => exact B7
    | 8, _, h => unfold isNum isFlag at h; omega
    | 9, _, _ => exact B9
    | 10, _, _ => exact B10
    | 11, _, _ => exact B11
    | 12, _, _ => exact B12
    | 13, _, _ => exact B13
    | 14, _, _ => exact B14
    | 15, _, _ => exact B15
    | 16, _, _ => exact B16
  · have h17 : i < 17 := by unfold isNum isFlag at hi; omega
    match i, h17, hi with
    | n + 17, h, _ => omega
    | 0, _, h => unfold isNum isFlag at h; omega
    | 1, _, _ => exact HS1.out
    | 2, _, _ => exact HS2.out
    | 3, _, _ => exact HS3.out
    | 4, _, _ => exact HS4.out
    | 5, _, _ => exact HS5.out
    | 6, _, _ => exact HS6.out
    | 7, _, _ => exact HS7.out
    | 8, _, h => unfold isNum isFlag at h; omega
    | 9, _, _ => exact HS9.out
    | 10, _, _ => exact HS10.out
    | 11, _, _ => exact HS11.out
    | 12, _, _ => exact HS12.out
    | 13, _, _ => exact HS13.out
    | 14, _, _ => exact HS14.out
    | 15, _, _ => exact HS15.out
    | 16, _, _ => exact HS16.out
end Go.Proofs.YtjgkalcldekmpaaGreatDoor
