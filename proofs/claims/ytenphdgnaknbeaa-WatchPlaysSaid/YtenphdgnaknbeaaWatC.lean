/-
  (*watch.Watch).Watched.
-/
import Derived.Test.YtenphdgnaknbeaaWatA
import Derived.Test.YtenphdgnaknbeaaSetW
import Derived.Test.YtenphdgnaknbeaaKrip
namespace Go.Proofs.Ytenphdgnaknbeaa
open Go.RowKit
set_option maxRecDepth 100000

theorem mem_next {f : ID → Option Nat} {left : ID → Bool} {l : List ID} {x : ID} {g : Nat} (h : ∀ y, y ∈ l ↔ (f y).isSome = true ∧ left y = false) (hx : f x = some g) :
    ∀ y, y ∈ setM (l ++ [x]) ↔ (f y).isSome = true ∧ (left y && !decide (y = x)) = false := by
  intro y
  rw [setM_mem, List.mem_append, h y]
  by_cases e : y = x
  · subst e; simp [hx]
  · simp [e]
set_option maxHeartbeats 1000000 in
theorem watched_any {w : World} {b n : Nat} {S : Nat → Prop} {mn mx wd : Int} {m : M} (h : Wt w b n S mn mx wd m) (hn : n ≤ 1000000) :
    Calls Try.prog 16 #[.pointer (some ⟨b, 0, none⟩)] w fun e w' => ∃ l, Ris l ∧ (∀ x, x ∈ l ↔ (m x).isSome = true) ∧ l.length ≤ n ∧ NewI l w e w' := by
  obtain ⟨mb, f, ρ, hb, hM, _, _, hD⟩ := h
  have c3 := hb.cell 3
  simp at c3
  have hDom : Hid (∀ x, (f x).isSome = (m x).isSome) := Lib.hid fun x => by
    have := hD.dom x
    cases hf : f x <;> cases hm : m x <;> simp_all
  have HM := Lib.hid hM
  clear hb hD hM
  go_enter Try.func16, Try.ntmps16
  go_wp2_with (first | (at_range; refine wpList_range_I rfl _ rfl rfl HM.out ?_; intro w0 cnt0 HR0 HLe HK0 hs0) | fail)
  go_frame
  clear hs0 c3
  go_loopw [3] (fun v wr => ∃ (l : List ID) (row : Option Nat) (A : Option Addr) (c : Nat) (left : ID → Bool) (cnt : Nat), v = .slice A l.length c ∧ Hid (SlK wr 33 2 row A l.length c (l.flatMap cID)) ∧ Hid (∀ g, row = some g → w.heap.size ≤ g) ∧
      Hid (RangeI wr mb w.heap.size n f left cnt) ∧ Hid (l.length + cnt ≤ n) ∧ Hid (Ris l) ∧ Hid (∀ x, x ∈ l ↔ (f x).isSome = true ∧ left x = false) ∧ Hid (Keep (fun _ => False) w wr)) (fun _ wr => wr.rangeLeft mb w.heap.size)
  case atStart => exact ⟨[], none, none, 0, _, _, rfl, Lib.hid (SlK.nil_ _ _ _), Lib.hid (fun g hg => by cases hg), HR0, Lib.hid (by have := HLe.out; simpa using this), Lib.hid ris_nil, Lib.hid (fun x => by cases f x <;> simp), HK0⟩
  case round =>
    obtain ⟨l, row, A, c, left, cnt, rfl, HS, HR, HG, HL, HRis, HMem, HK⟩ := hrel
    go_wp2_with (first | (at_next; refine wpList_next_I rfl _ rfl rfl HG.out ?_ ?_) | fail)
    · intro HL0
      go_wp2
      go_ret
      exact ⟨l, HRis.out, fun x => by rw [HMem.out x, show left x = false from HL0.out x.1 x.2, hDom.out x]; simp, by have := HL.out; omega, row, A, c, rfl, HS.out, HR.out, HK.out⟩
    · intro a i g w1 cnt1 HWx HLx HFx HG1 HLt HK1 hs1 hen
      have hs' := HS.out.keep HK1.out (fun q hq e => by
        obtain ⟨cs, hb⟩ := HS.out.row_at q hq
        exact (HG.out.ne_blk hb).1 e)
      have HS1 := Lib.hid hs'
      have HKw := Lib.hid (HK.out.trans (HK1.out.mono fun k _ e => .inr (by omega)))
      have HLl := Lib.hid (show l.length ≤ 1000000 by have := HL.out; omega)
      clear hs'
      go_wp2_with fail
      refine (put_any A l.length c l (a, i) _ ⟨rfl, (HS1.out.keep ((Keep.refl (fun _ => False) _).alloc _) (fun _ _ h => h)).rd⟩ HLl.out).mono ?_
      rintro e w3 ⟨row2, A2, c2, rfl, hs2, hr2, hk2⟩
      have HK2 := Lib.hid (keep0_trans _ _ _ (HKw.out.alloc _) hk2)
      have HS2 := Lib.hid hs2
      have HR2 := Lib.hid (show ∀ g, row2 = some g → w.heap.size ≤ g from fun q hq => by have := hr2 q hq; have h2 := HKw.out.size; simp at this; omega)
      have HG2 := Lib.hid (HG1.out.keep (keep0_trans _ _ _ ((Keep.refl _ w1).alloc _) hk2) (fun h => h) (fun h => h))
      clear hs2 hr2 hk2 hen hs1
      go_wp2
      go_roundw
      case rel => exact ⟨setM (l ++ [(a, i)]), row2, A2, c2, _, cnt1, rfl, HS2, HR2, HG2, Lib.hid (by have h1 := setM_len (l ++ [(a, i)]); have h2 := HL.out; have h3 := HLt.out; simp at h1; omega), Lib.hid (setM_ris _), Lib.hid (mem_next HMem.out HFx.out), HK2⟩
      case measure => rw [HG2.out.left_eq, HG.out.left_eq]; exact HLt.out
end Go.Proofs.Ytenphdgnaknbeaa
