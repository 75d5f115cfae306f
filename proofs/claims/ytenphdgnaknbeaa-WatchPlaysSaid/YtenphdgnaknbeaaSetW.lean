/-
  slices.SortedFunc of slices.Values at IDs; ident.Set, Join, Put.
-/
import Derived.Test.YtenphdgnaknbeaaSort
import Derived.Test.YtenphdgnaknbeaaValues
import Derived.Test.YtenphdgnaknbeaaCmpct
import Derived.Test.YtenphdgnaknbeaaConcatI
namespace Go.Proofs.Ytenphdgnaknbeaa
open Go.RowKit

/-- new memory that holds a list of IDs -/
def NewI (l : List ID) (w : World) (e : Ending) (w' : World) : Prop :=
  ∃ row A c, e = .returned (.slice A l.length c) ∧ SlK w' 33 2 row A l.length c (l.flatMap cID) ∧ (∀ g, row = some g → w.heap.size ≤ g) ∧ Keep (fun _ => False) w w'
theorem keep0_of_own {w0 w w' : World} {row : Option Nat} (h : Keep (fun g => row = some g) w w') (h0 : Keep (fun _ => False) w0 w) (hr : ∀ g, row = some g → w0.heap.size ≤ g) : Keep (fun _ => False) w0 w' :=
  h0.trans (h.mono fun g _ e => .inr (hr g e))

set_option maxHeartbeats 1000000 in
/-- slices.SortedFunc(slices.Values(l), ident.Compare) -/
theorem sorted_any (Bn : Nat) (A : Option Addr) (n c : Nat) (l : List ID) (w : World) (hB : w.cell? ⟨Bn, 0, none⟩ = some (.slice A n c)) (h : RdI w A n l) (hn : n ≤ 1000000000) :
    Calls Try.prog 58 #[.func (.func 65) #[] #[.pointer (some ⟨Bn, 0, none⟩)], .func (.func 56) #[] #[]] w (NewI (sortM l) w) := by
  have eg : ∀ args w, (callFunc 65 args).run Try.prog w = .ok (.enter 65 args) w := enters_of Try.func65 (by kernel_rfl) rfl
  have hG := fun w' (hb : w' = w) => collect_any 3 (by omega) 65 #[.pointer (some ⟨Bn, 0, none⟩)] eg (fun xs => xs = l) n (by unfold maxLen; omega) (by omega) w' (by subst hb; exact values1_in 1 (by omega) w' Bn A n c l (by omega) hB h)
  have HG := Lib.hid hG
  have HL := Lib.hid h.1
  clear hG hB h
  go_enter Try.func58, Try.ntmps58
  go_wp2_with fail
  refine (HG.out _ rfl).mono ?_
  rintro e w1 ⟨v, ss, rfl, rfl, hrow, _, hb⟩
  obtain ⟨row, A1, c1, rfl, hs1, hr1⟩ := SlK.of_own hrow
  have hk1 := keep0_of_below hb
  have HS1 := Lib.hid hs1
  have HK1 := Lib.hid hk1
  have HR1 := Lib.hid hr1
  clear hrow hb hs1 hk1 hr1
  have hss : ss.length ≤ 1000000000 := by rw [HL.out]; exact hn
  go_wp2_with fail
  refine (sort_any row A1 ss.length c1 ss _ HS1.out (by omega)).mono ?_
  rintro e w2 ⟨rfl, hs2, hk2⟩
  have HS2 := Lib.hid hs2
  have HK2 := Lib.hid hk2
  clear hs2 hk2
  go_wp2
  go_ret
  exact ⟨row, A1, c1, by rw [sortM_len]; rfl, by rw [sortM_len]; exact HS2.out, HR1.out, keep0_of_own HK2.out HK1.out HR1.out⟩
set_option maxHeartbeats 1000000 in
theorem setT_any (A : Option Addr) (n c : Nat) (l : List ID) (w : World) (h : RdI w A n l) (hn : n ≤ 1000000000) :
    Calls Try.prog 55 #[.slice A n c, .func (.func 56) #[] #[]] w (NewI (setM l) w) := by
  have HR := Lib.hid h
  clear h
  go_enter Try.func55, Try.ntmps55
  go_wp2_with fail
  refine (values_any A n c _).mono ?_
  rintro e w1 ⟨rfl, hw⟩
  have hb : Blk w1 w.heap.size 30 #[.slice A n c] := by rw [hw]; exact Blk.new _ _ _
  have hk : Keep (fun _ => False) w w1 := by rw [hw]; exact (Keep.refl _ w).alloc _
  have HB := Lib.hid hb
  have HK := Lib.hid hk
  clear hb hk hw
  go_wp2_with fail
  refine (sorted_any w.heap.size A n c l w1 (HB.out.cell 0) (HR.out.keep0 HK.out) hn).mono ?_
  rintro e w2 ⟨row, A2, c2, rfl, hs2, hr2, hk2⟩
  have HS2 := Lib.hid hs2
  have HK2 := Lib.hid (keep0_trans _ _ _ HK.out hk2)
  have HR2 := Lib.hid (fun g hg => Nat.le_trans HK.out.size (hr2 g hg))
  clear hs2 hk2 hr2
  go_wp2_with fail
  refine (compact_any row A2 (sortM l).length c2 (sortM l) _ HS2.out).mono ?_
  rintro e w3 ⟨rfl, hs3, hk3⟩
  have HS3 := Lib.hid hs3
  have HK3 := Lib.hid hk3
  clear hs3 hk3
  go_wp2
  go_ret
  exact ⟨row, A2, c2, rfl, HS3.out, HR2.out, keep0_of_own HK3.out HK2.out HR2.out⟩
set_option maxHeartbeats 1000000 in
theorem set_any (A : Option Addr) (n c : Nat) (l : List ID) (w : World) (h : RdI w A n l) (hn : n ≤ 1000000000) :
    Calls Try.prog 53 #[.slice A n c] w (NewI (setM l) w) := by
  have HR := Lib.hid h
  clear h
  go_enter Try.func53, Try.ntmps53
  go_wp2_with fail
  refine (setT_any A n c l _ HR.out hn).mono ?_
  rintro e w1 ⟨row, A1, c1, rfl, hs, hr, hk⟩
  have HS := Lib.hid hs
  have HK := Lib.hid hk
  have HR1 := Lib.hid hr
  clear hs hk hr
  go_wp2
  go_ret
  exact ⟨row, A1, c1, rfl, HS.out, HR1.out, HK.out⟩
theorem one_flat (l : List ID) : ∀ u ∈ l.flatMap cID, u.oneCell' = true := by
  intro u hu
  rw [List.mem_flatMap] at hu
  obtain ⟨x, _, hx⟩ := hu
  simp at hx
  rcases hx with rfl | rfl <;> rfl
set_option maxHeartbeats 1000000 in
theorem join_any (A B : Option Addr) (n m c d : Nat) (l k : List ID) (w : World) (h : RdI w A n l) (h2 : RdI w B m k) (hn : n ≤ 1000000) (hm : m ≤ 1000000) :
    Calls Try.prog 47 #[.slice A n c, .slice B m d] w (NewI (setM (l ++ k)) w) := by
  have HR := Lib.hid h
  have HR2 := Lib.hid h2
  clear h h2
  have hb := Blk.new w 30 #[.slice A n c, .slice B m d]
  have HB := Lib.hid hb
  have hk0 := (Keep.refl (fun _ => False) w).alloc (.cells #[.slice A n c, .slice B m d] 30)
  have HK0 := Lib.hid hk0
  clear hb hk0
  go_enter Try.func47, Try.ntmps47
  go_wp2_with fail
  refine (concatI_any w.heap.size A B n m c d (l.flatMap cID) (k.flatMap cID) _ (HB.out.cell 0) (HB.out.cell 1) (HR.out.keep0 HK0.out).2 (HR2.out.keep0 HK0.out).2 (one_flat l) (one_flat k) hn hm).mono ?_
  rintro e w1 ⟨row, A1, c1, rfl, hs, hr, hk⟩
  have HS : Hid (SlK w1 33 2 row A1 (n + m) c1 ((l ++ k).flatMap cID)) := Lib.hid (by rw [List.flatMap_append]; exact hs)
  have HK := Lib.hid (keep0_trans _ _ _ HK0.out hk)
  clear hs hk hr
  go_wp2_with fail
  refine (set_any A1 (n + m) c1 (l ++ k) _ ⟨by rw [List.length_append, HR.out.1, HR2.out.1], HS.out.rd⟩ (by omega)).mono ?_
  rintro e w2 ⟨row2, A2, c2, rfl, hs, hr, hk⟩
  have HS2 := Lib.hid hs
  have HK2 := Lib.hid (keep0_trans _ _ _ HK.out hk)
  have HR3 := Lib.hid (fun g hg => Nat.le_trans HK.out.size (hr g hg))
  clear hs hk hr
  go_wp2
  go_ret
  exact ⟨row2, A2, c2, rfl, HS2.out, HR3.out, HK2.out⟩
set_option maxHeartbeats 1000000 in
theorem put_any (A : Option Addr) (n c : Nat) (l : List ID) (x : ID) (w : World) (h : RdI w A n l) (hn : n ≤ 1000000) :
    Calls Try.prog 33 #[.slice A n c, idV x] w (NewI (setM (l ++ [x])) w) := by
  have HR := Lib.hid h
  clear h
  obtain ⟨a, i⟩ := x
  obtain ⟨W0, hW0⟩ : ∃ W0, w.alloc (.cells #[.int .i64 a, .int .i64 i] 33) = W0 := ⟨_, rfl⟩
  have hb := Blk.new W0 33 #[.int .i64 a, .int .i64 i]
  have hk0 : Keep (fun _ => False) w (W0.alloc (.cells #[.int .i64 a, .int .i64 i] 33)) := by rw [← hW0]; exact ((Keep.refl _ w).alloc _).alloc _
  rw [← hW0] at hb hk0
  have HB := Lib.hid hb
  have HK0 := Lib.hid hk0
  clear hb hk0 hW0
  go_enter Try.func33, Try.ntmps33
  go_wp2_with fail
  refine (join_any A (some ⟨_, 0, none⟩) n 1 c 1 l [(a, i)] _ (HR.out.keep0 HK0.out) ⟨rfl, ?_⟩ hn (by omega)).mono ?_
  · have := RdK.of_blk HB.out 1 2 rfl
    rw [World.size_alloc] at this
    exact this
  rintro e w1 ⟨row, A1, c1, rfl, hs, hr, hk⟩
  have HS := Lib.hid hs
  have HK := Lib.hid (keep0_trans _ _ _ HK0.out hk)
  have HR1 := Lib.hid (fun g hg => Nat.le_trans HK0.out.size (hr g hg))
  clear hs hk hr
  go_wp2
  go_ret
  exact ⟨row, A1, c1, rfl, HS.out, HR1.out, HK.out⟩
end Go.Proofs.Ytenphdgnaknbeaa
