/-
  Roster: Gone, Next, Oldest ..
-/
import Derived.Test.YthlfgjlnjmjppaaRosA
import Derived.Test.YthlfgjlnjmjppaaKrip
namespace Go.Proofs.Ythlfgjlnjmjppaa
open Go.RowKit
attribute [local go_sem] kQuiet kQuietUpon

set_option maxHeartbeats 1000000 in
theorem gone_any (A : Option Addr) (n c : Nat) (l : List ID) (p : ID) (w : World) (h : RdI w A n l) (hn : n ≤ 1000000) :
    Calls Try.prog 13 #[.slice A n c, idV p] w (Tell (.bool (decide (p.2 ≤ floorT l p.1))) w) := by
  obtain ⟨pa, pi⟩ := p
  have H := Lib.hid h
  clear h
  have b0 := Blk.new w 27 #[.int .i64 pa, .int .i64 pi]
  have C0 : Hid ((w.alloc (.cells #[.int .i64 pa, .int .i64 pi] 27)).drew.cell? ⟨w.heap.size, 0, none⟩ = some (.int .i64 pa)) := Lib.hid (b0.cell 0)
  have C1 : Hid ((w.alloc (.cells #[.int .i64 pa, .int .i64 pi] 27)).drew.cell? ⟨w.heap.size, 1, none⟩ = some (.int .i64 pi)) := Lib.hid (b0.cell 1)
  have hk0 := (Keep.refl (fun _ => False) w).alloc (.cells #[.int .i64 pa, .int .i64 pi] 27)
  have HK0 := Lib.hid hk0
  clear b0 hk0
  go_enter Try.func13, Try.ntmps13
  go_wp2
  refine wp_region_krip (Keep (fun _ => False)) (Keep.refl _) keep0_trans 8 (by kernel_rfl) (by kernel_rfl) (Ts := [none, some (.inl (.int .i64 pi)), none, none, some (.inl (.int .i64 pa)), some (.inl (.int .i64 (floorT l pa))), none, none]) ?_
  simp only [List.take, List.drop]
  refine kAll_p (fun K hK => ?_)
  go_simp
  refine hK _ ?_
  clear hK K
  refine kAll_d _ (fun W hW hF => kStep_of fun K Q hK => ?_) ?_
  · have hcell := hW.cell C1.out (fun h => h)
    go_simp
    exact hK _ _ (Keep.refl _ _) rfl
  refine kAll_p (fun K hK => ?_)
  go_simp
  refine hK _ ?_
  clear hK K
  refine kAll_p (fun K hK => ?_)
  go_simp
  refine hK _ ?_
  clear hK K
  refine kAll_d _ (fun W hW hF => kStep_of fun K Q hK => ?_) ?_
  · have hcell := hW.cell C0.out (fun h => h)
    go_simp
    exact hK _ _ (Keep.refl _ _) rfl
  refine kAll_d _ (fun W hW hF => kStep_of fun K Q hK => ?_) ?_
  · go_simp
    refine (floor_any A n c l pa W (H.out.keep0 (keepD HK0.out hW)) hn).mono ?_
    rintro e w' ⟨rfl, hk⟩
    exact hK _ _ hk rfl
  refine kAll_p (fun K hK => ?_)
  go_simp
  refine hK _ ?_
  clear hK K
  refine kAll_p (fun K hK => ?_)
  go_simp
  refine hK _ ?_
  clear hK K
  refine kAll_nil (fun W hW hF => ?_)
  clear hF
  go_wp2
  go_ret
  exact ⟨rfl, keepD HK0.out hW⟩
end Go.Proofs.Ythlfgjlnjmjppaa
