/-
  Roster: the examples (works). Written by gen_works.py.
-/
import Derived.Test.YthlfgjlnjmjppaaRosJ
import Derived.Test.YthlfgjlnjmjppaaKord
import Derived.Test.YthlfgjlnjmjppaaRosD
namespace Go.Proofs.Ythlfgjlnjmjppaa
open Go.RowKit
attribute [local irreducible] kAll
attribute [local go_sem] kQuiet kQuietUpon

theorem says_is (v v' v2 : Value) (a b x : LI) (w : World) (r : Bool) (h : IsL w v a.1 a.2) (h' : IsL w v' b.1 b.2) (hx : IsL w v2 x.1 x.2) (l1 : a.1.length ≤ 100 ∧ a.2.length ≤ 100) (l2 : b.1.length ≤ 100 ∧ b.2.length ≤ 100) (l3 : x.1.length ≤ 100 ∧ x.2.length ≤ 100) (hr : decide (joinL a b = x) = r) :
    Calls Try.prog 24 #[v, v', v2] w (Tell (.bool r) w) := by
  subst hr
  exact says_any v v' v2 a b x w h h' hx ⟨by omega, by omega⟩ ⟨by omega, by omega⟩ ⟨by omega, by omega⟩
theorem next_is (v : Value) (M : List Mem) (r : Int) (w : World) (h : IsM w v M) (hl : M.length ≤ 100) (hr : nextT M = r) : Calls Try.prog 23 #[v] w (Tell (.int .i64 r) w) := by
  subst hr
  obtain ⟨A, n, c, rfl, h⟩ := h
  exact next_any A n c M w h (by rw [← h.1]; omega)
set_option maxRecDepth 100000 in
set_option maxHeartbeats 4000000 in
theorem works_any (w : World) : Calls Try.prog 9 #[] w (Tell (.bool true) w) := by
  go_enter Try.func9, Try.ntmps9
  go_wp2_with fail
  refine (one_any 1 1 3 2 w).mono ?_
  rintro e w1 ⟨rfl, hk1⟩
  have HK1 := Lib.hid hk1
  have B := Lib.hid (Blk.new w1 32 #[.int .i64 1, .int .i64 1, .int .u8 3, .int .i64 2])
  clear hk1
  go_wp2_with fail
  refine wp_region_krip (Keep (fun _ => False)) (Keep.refl _) keep0_trans 52 (by kernel_rfl) (by kernel_rfl) (Ts := [some (.inl (memV ⟨1, 1, 3, 2⟩)), some (.inr (fun v W => IsM W v [(⟨1, 1, 3, 2⟩ : Mem)])), some (.inr (fun v W => IsL W v [(⟨1, 1, 3, 2⟩ : Mem)] ([] : List ID))), some (.inl (memV ⟨1, 1, 1, 0⟩)), some (.inr (fun v W => IsM W v [(⟨1, 1, 1, 0⟩ : Mem)])), some (.inr (fun v W => IsL W v [(⟨1, 1, 1, 0⟩ : Mem)] ([] : List ID))), some (.inl (memV ⟨1, 1, 3, 2⟩)), some (.inr (fun v W => IsM W v [(⟨1, 1, 3, 2⟩ : Mem)])), some (.inr (fun v W => IsL W v [(⟨1, 1, 3, 2⟩ : Mem)] ([] : List ID))), some (.inl (.bool true)), none, some (.inl (memV ⟨1, 1, 3, 2⟩)), some (.inr (fun v W => IsM W v [(⟨1, 1, 3, 2⟩ : Mem)])), some (.inr (fun v W => IsL W v [(⟨1, 1, 3, 2⟩ : Mem)] ([] : List ID))), some (.inl (memV ⟨1, 2, 1, 0⟩)), some (.inr (fun v W => IsM W v [(⟨1, 2, 1, 0⟩ : Mem)])), some (.inr (fun v W => IsL W v [(⟨1, 2, 1, 0⟩ : Mem)] ([] : List ID))), some (.inl (memV ⟨1, 2, 1, 0⟩)), some (.inr (fun v W => IsM W v [(⟨1, 2, 1, 0⟩ : Mem)])), some (.inr (fun v W => IsF W v ([(1, 1)] : List ID))), some (.inr (fun v W => IsL W v [(⟨1, 2, 1, 0⟩ : Mem)] ([(1, 1)] : List ID))), some (.inl (.bool true)), none, none, some (.inl (memV ⟨1, 1, 6, 0⟩)), some (.inr (fun v W => IsM W v [(⟨1, 1, 6, 0⟩ : Mem)])), some (.inr (fun v W => IsL W v [(⟨1, 1, 6, 0⟩ : Mem)] ([] : List ID))), some (.inr (fun v W => IsF W v ([(1, 1)] : List ID))), some (.inr (fun v W => IsL W v [] ([(1, 1)] : List ID))), some (.inr (fun v W => IsF W v ([(1, 1)] : List ID))), some (.inr (fun v W => IsL W v [] ([(1, 1)] : List ID))), some (.inl (.bool true)), none, none, some (.inl (memV ⟨2, 1, 3, 4⟩)), some (.inr (fun v W => IsM W v [(⟨2, 1, 3, 4⟩ : Mem)])), some (.inr (fun v W => IsL W v [(⟨2, 1, 3, 4⟩ : Mem)] ([] : List ID))), some (.inl (memV ⟨2, 1, 3, 3⟩)), some (.inr (fun v W => IsM W v [(⟨2, 1, 3, 3⟩ : Mem)])), some (.inr (fun v W => IsL W v [(⟨2, 1, 3, 3⟩ : Mem)] ([] : List ID))), some (.inl (memV ⟨2, 1, 3, 3⟩)), some (.inr (fun v W => IsM W v [(⟨2, 1, 3, 3⟩ : Mem)])), some (.inr (fun v W => IsL W v [(⟨2, 1, 3, 3⟩ : Mem)] ([] : List ID))), some (.inl (.bool true)), none, none, some (.inl (memV ⟨1, 1, 3, 3⟩)), some (.inl (memV ⟨2, 1, 3, 5⟩)), some (.inr (fun v W => IsM W v [(⟨1, 1, 3, 3⟩ : Mem), (⟨2, 1, 3, 5⟩ : Mem)])), some (.inl (.int .i64 6)), none, none]) ?_
  simp only [List.take, List.drop]
  refine kAll_dn _ (fun W hW hF => kStep_of fun K Q hK => ?_) (fun K hK => ?_)
  · have c0 := (B.out.drew.keep hW (fun h => h)).cell 0
    have c1 := (B.out.drew.keep hW (fun h => h)).cell 1
    have c2 := (B.out.drew.keep hW (fun h => h)).cell 2
    have c3 := (B.out.drew.keep hW (fun h => h)).cell 3
    simp at c0 c1 c2 c3
    go_simp
    exact hK _ _ (Keep.refl _ _) rfl
  go_simp
  generalize hZ : (Act.mk _ _) = Z
  refine hK Z ?_
  subst hZ
  clear hK K
  refine kAll_tn _ (fun v W W' hk h => h.keep0 hk) (fun W hW hF => kStep_of fun K Q hK => ?_) (fun u0 K hK => ?_)
  · go_simp
    exact hK _ _ ((Keep.refl _ _).alloc _) ⟨_, _, _, rfl, rfl, RdK.of_blk (Blk.new _ _ _) 1 4 rfl⟩
  go_simp
  generalize hZ : (Act.mk _ _) = Z
  refine hK Z ?_
  subst hZ
  clear hK K
  refine kAll_tn _ (fun v W W' hk h => h.keep0 hk) (fun W hW hF => kStep_of fun K Q hK => ?_) (fun u1 K hK => ?_)
  · have h0 : (fun v W => IsM W v [(⟨1, 1, 3, 2⟩ : Mem)]) u0 W := kHas_at hF 0 rfl (by kernel_rfl)
    go_simp
    refine (of_any _ [(⟨1, 1, 3, 2⟩ : Mem)] W h0).mono ?_
    rintro e w' ⟨u, rfl, hu, hk⟩
    exact hK _ _ hk hu
  go_simp
  generalize hZ : (Act.mk _ _) = Z
  refine hK Z ?_
  subst hZ
  clear hK K
  refine kAll_dn _ (fun W hW hF => kStep_of fun K Q hK => ?_) (fun K hK => ?_)
  · go_simp
    refine (one_any 1 1 1 0 W).mono ?_
    rintro e w' ⟨rfl, hk⟩
    exact hK _ _ hk rfl
  go_simp
  generalize hZ : (Act.mk _ _) = Z
  refine hK Z ?_
  subst hZ
  clear hK K
  refine kAll_tn _ (fun v W W' hk h => h.keep0 hk) (fun W hW hF => kStep_of fun K Q hK => ?_) (fun u2 K hK => ?_)
  · go_simp
    exact hK _ _ ((Keep.refl _ _).alloc _) ⟨_, _, _, rfl, rfl, RdK.of_blk (Blk.new _ _ _) 1 4 rfl⟩
  go_simp
  generalize hZ : (Act.mk _ _) = Z
  refine hK Z ?_
  subst hZ
  clear hK K
  refine kAll_tn _ (fun v W W' hk h => h.keep0 hk) (fun W hW hF => kStep_of fun K Q hK => ?_) (fun u3 K hK => ?_)
  · have h0 : (fun v W => IsM W v [(⟨1, 1, 1, 0⟩ : Mem)]) u2 W := kHas_at hF 0 rfl (by kernel_rfl)
    go_simp
    refine (of_any _ [(⟨1, 1, 1, 0⟩ : Mem)] W h0).mono ?_
    rintro e w' ⟨u, rfl, hu, hk⟩
    exact hK _ _ hk hu
  go_simp
  generalize hZ : (Act.mk _ _) = Z
  refine hK Z ?_
  subst hZ
  clear hK K
  refine kAll_dn _ (fun W hW hF => kStep_of fun K Q hK => ?_) (fun K hK => ?_)
  · have c0 := (B.out.drew.keep hW (fun h => h)).cell 0
    have c1 := (B.out.drew.keep hW (fun h => h)).cell 1
    have c2 := (B.out.drew.keep hW (fun h => h)).cell 2
    have c3 := (B.out.drew.keep hW (fun h => h)).cell 3
    simp at c0 c1 c2 c3
    go_simp
    exact hK _ _ (Keep.refl _ _) rfl
  go_simp
  generalize hZ : (Act.mk _ _) = Z
  refine hK Z ?_
  subst hZ
  clear hK K
  refine kAll_tn _ (fun v W W' hk h => h.keep0 hk) (fun W hW hF => kStep_of fun K Q hK => ?_) (fun u4 K hK => ?_)
  · go_simp
    exact hK _ _ ((Keep.refl _ _).alloc _) ⟨_, _, _, rfl, rfl, RdK.of_blk (Blk.new _ _ _) 1 4 rfl⟩
  go_simp
  generalize hZ : (Act.mk _ _) = Z
  refine hK Z ?_
  subst hZ
  clear hK K
  refine kAll_tn _ (fun v W W' hk h => h.keep0 hk) (fun W hW hF => kStep_of fun K Q hK => ?_) (fun u5 K hK => ?_)
  · have h0 : (fun v W => IsM W v [(⟨1, 1, 3, 2⟩ : Mem)]) u4 W := kHas_at hF 0 rfl (by kernel_rfl)
    go_simp
    refine (of_any _ [(⟨1, 1, 3, 2⟩ : Mem)] W h0).mono ?_
    rintro e w' ⟨u, rfl, hu, hk⟩
    exact hK _ _ hk hu
  go_simp
  generalize hZ : (Act.mk _ _) = Z
  refine hK Z ?_
  subst hZ
  clear hK K
  refine kAll_dn _ (fun W hW hF => kStep_of fun K Q hK => ?_) (fun K hK => ?_)
  · have h0 : (fun v W => IsL W v [(⟨1, 1, 3, 2⟩ : Mem)] ([] : List ID)) u1 W := kHas_at hF 4 rfl (by kernel_rfl)
    have h1 : (fun v W => IsL W v [(⟨1, 1, 1, 0⟩ : Mem)] ([] : List ID)) u3 W := kHas_at hF 2 rfl (by kernel_rfl)
    have h2 : (fun v W => IsL W v [(⟨1, 1, 3, 2⟩ : Mem)] ([] : List ID)) u5 W := kHas_at hF 0 rfl (by kernel_rfl)
    go_simp
    refine (says_is _ _ _ ([(⟨1, 1, 3, 2⟩ : Mem)], ([] : List ID)) ([(⟨1, 1, 1, 0⟩ : Mem)], ([] : List ID)) ([(⟨1, 1, 3, 2⟩ : Mem)], ([] : List ID)) W true h0 h1 h2 (by decide) (by decide) (by decide) (by decide +kernel)).mono ?_
    rintro e w' ⟨rfl, hk⟩
    exact hK _ _ hk rfl
  go_simp
  generalize hZ : (Act.mk _ _) = Z
  refine hK Z ?_
  subst hZ
  clear hK K
  refine kAll_p (fun K hK => ?_)
  go_simp
  generalize hZ : (Act.mk _ _) = Z
  refine hK Z ?_
  subst hZ
  clear hK K
  refine kAll_dn _ (fun W hW hF => kStep_w (by kernel_rfl) fun K Q hK => ?_) (fun K hK => ?_)
  · have c0 := (B.out.drew.keep hW (fun h => h)).cell 0
    have c1 := (B.out.drew.keep hW (fun h => h)).cell 1
    have c2 := (B.out.drew.keep hW (fun h => h)).cell 2
    have c3 := (B.out.drew.keep hW (fun h => h)).cell 3
    simp at c0 c1 c2 c3
    go_simp
    exact hK _ _ (Keep.refl _ _) rfl
  go_simp
  generalize hZ : (Act.mk _ _) = Z
  refine hK Z ?_
  subst hZ
  clear hK K
  refine kAll_tn _ (fun v W W' hk h => h.keep0 hk) (fun W hW hF => kStep_w (by kernel_rfl) fun K Q hK => ?_) (fun u6 K hK => ?_)
  · go_simp
    exact hK _ _ ((Keep.refl _ _).alloc _) ⟨_, _, _, rfl, rfl, RdK.of_blk (Blk.new _ _ _) 1 4 rfl⟩
  go_simp
  generalize hZ : (Act.mk _ _) = Z
  refine hK Z ?_
  subst hZ
  clear hK K
  refine kAll_tn _ (fun v W W' hk h => h.keep0 hk) (fun W hW hF => kStep_w (by kernel_rfl) fun K Q hK => ?_) (fun u7 K hK => ?_)
  · have h0 : (fun v W => IsM W v [(⟨1, 1, 3, 2⟩ : Mem)]) u6 W := kHas_at hF 0 rfl (by kernel_rfl)
    go_simp
    refine (of_any _ [(⟨1, 1, 3, 2⟩ : Mem)] W h0).mono ?_
    rintro e w' ⟨u, rfl, hu, hk⟩
    exact hK _ _ hk hu
  go_simp
  generalize hZ : (Act.mk _ _) = Z
  refine hK Z ?_
  subst hZ
  clear hK K
  refine kAll_dn _ (fun W hW hF => kStep_w (by kernel_rfl) fun K Q hK => ?_) (fun K hK => ?_)
  · go_simp
    refine (one_any 1 2 1 0 W).mono ?_
    rintro e w' ⟨rfl, hk⟩
    exact hK _ _ hk rfl
  go_simp
  generalize hZ : (Act.mk _ _) = Z
  refine hK Z ?_
  subst hZ
  clear hK K
  refine kAll_tn _ (fun v W W' hk h => h.keep0 hk) (fun W hW hF => kStep_w (by kernel_rfl) fun K Q hK => ?_) (fun u8 K hK => ?_)
  · go_simp
    exact hK _ _ ((Keep.refl _ _).alloc _) ⟨_, _, _, rfl, rfl, RdK.of_blk (Blk.new _ _ _) 1 4 rfl⟩
  go_simp
  generalize hZ : (Act.mk _ _) = Z
  refine hK Z ?_
  subst hZ
  clear hK K
  refine kAll_tn _ (fun v W W' hk h => h.keep0 hk) (fun W hW hF => kStep_w (by kernel_rfl) fun K Q hK => ?_) (fun u9 K hK => ?_)
  · have h0 : (fun v W => IsM W v [(⟨1, 2, 1, 0⟩ : Mem)]) u8 W := kHas_at hF 0 rfl (by kernel_rfl)
    go_simp
    refine (of_any _ [(⟨1, 2, 1, 0⟩ : Mem)] W h0).mono ?_
    rintro e w' ⟨u, rfl, hu, hk⟩
    exact hK _ _ hk hu
  go_simp
  generalize hZ : (Act.mk _ _) = Z
  refine hK Z ?_
  subst hZ
  clear hK K
  refine kAll_dn _ (fun W hW hF => kStep_w (by kernel_rfl) fun K Q hK => ?_) (fun K hK => ?_)
  · go_simp
    refine (one_any 1 2 1 0 W).mono ?_
    rintro e w' ⟨rfl, hk⟩
    exact hK _ _ hk rfl
  go_simp
  generalize hZ : (Act.mk _ _) = Z
  refine hK Z ?_
  subst hZ
  clear hK K
  refine kAll_tn _ (fun v W W' hk h => h.keep0 hk) (fun W hW hF => kStep_w (by kernel_rfl) fun K Q hK => ?_) (fun u10 K hK => ?_)
  · go_simp
    exact hK _ _ ((Keep.refl _ _).alloc _) ⟨_, _, _, rfl, rfl, RdK.of_blk (Blk.new _ _ _) 1 4 rfl⟩
  go_simp
  generalize hZ : (Act.mk _ _) = Z
  refine hK Z ?_
  subst hZ
  clear hK K
  refine kAll_tn _ (fun v W W' hk h => h.keep0 hk) (fun W hW hF => kStep_w (by kernel_rfl) fun K Q hK => ?_) (fun u11 K hK => ?_)
  · go_simp
    refine (low_any 1 1 W).mono ?_
    rintro e w' ⟨u, rfl, hu, hk⟩
    exact hK _ _ hk hu
  go_simp
  generalize hZ : (Act.mk _ _) = Z
  refine hK Z ?_
  subst hZ
  clear hK K
  refine kAll_tn _ (fun v W W' hk h => h.keep0 hk) (fun W hW hF => kStep_w (by kernel_rfl) fun K Q hK => ?_) (fun u12 K hK => ?_)
  · obtain ⟨A0, n0, c0, rfl, hm⟩ := (show IsM W u10 [(⟨1, 2, 1, 0⟩ : Mem)] from kHas_at hF 1 rfl (by kernel_rfl))
    obtain ⟨A1, n1, c1, rfl, hf⟩ := (show IsF W u11 ([(1, 1)] : List ID) from kHas_at hF 0 rfl (by kernel_rfl))
    go_simp
    exact hK _ _ (Keep.refl _ _) ⟨_, _, _, _, _, _, rfl, hm, hf⟩
  go_simp
  generalize hZ : (Act.mk _ _) = Z
  refine hK Z ?_
  subst hZ
  clear hK K
  refine kAll_dn _ (fun W hW hF => kStep_w (by kernel_rfl) fun K Q hK => ?_) (fun K hK => ?_)
  · have h0 : (fun v W => IsL W v [(⟨1, 1, 3, 2⟩ : Mem)] ([] : List ID)) u7 W := kHas_at hF 5 rfl (by kernel_rfl)
    have h1 : (fun v W => IsL W v [(⟨1, 2, 1, 0⟩ : Mem)] ([] : List ID)) u9 W := kHas_at hF 3 rfl (by kernel_rfl)
    have h2 : (fun v W => IsL W v [(⟨1, 2, 1, 0⟩ : Mem)] ([(1, 1)] : List ID)) u12 W := kHas_at hF 0 rfl (by kernel_rfl)
    go_simp
    refine (says_is _ _ _ ([(⟨1, 1, 3, 2⟩ : Mem)], ([] : List ID)) ([(⟨1, 2, 1, 0⟩ : Mem)], ([] : List ID)) ([(⟨1, 2, 1, 0⟩ : Mem)], ([(1, 1)] : List ID)) W true h0 h1 h2 (by decide) (by decide) (by decide) (by decide +kernel)).mono ?_
    rintro e w' ⟨rfl, hk⟩
    exact hK _ _ hk rfl
  go_simp
  generalize hZ : (Act.mk _ _) = Z
  refine hK Z ?_
  subst hZ
  clear hK K
  refine kAll_p (fun K hK => ?_)
  go_simp
  generalize hZ : (Act.mk _ _) = Z
  refine hK Z ?_
  subst hZ
  clear hK K
  refine kAll_p (fun K hK => ?_)
  go_simp
  generalize hZ : (Act.mk _ _) = Z
  refine hK Z ?_
  subst hZ
  clear hK K
  refine kAll_dn _ (fun W hW hF => kStep_w (by kernel_rfl) fun K Q hK => ?_) (fun K hK => ?_)
  · go_simp
    refine (one_any 1 1 6 0 W).mono ?_
    rintro e w' ⟨rfl, hk⟩
    exact hK _ _ hk rfl
  go_simp
  generalize hZ : (Act.mk _ _) = Z
  refine hK Z ?_
  subst hZ
  clear hK K
  refine kAll_tn _ (fun v W W' hk h => h.keep0 hk) (fun W hW hF => kStep_w (by kernel_rfl) fun K Q hK => ?_) (fun u13 K hK => ?_)
  · go_simp
    exact hK _ _ ((Keep.refl _ _).alloc _) ⟨_, _, _, rfl, rfl, RdK.of_blk (Blk.new _ _ _) 1 4 rfl⟩
  go_simp
  generalize hZ : (Act.mk _ _) = Z
  refine hK Z ?_
  subst hZ
  clear hK K
  refine kAll_tn _ (fun v W W' hk h => h.keep0 hk) (fun W hW hF => kStep_w (by kernel_rfl) fun K Q hK => ?_) (fun u14 K hK => ?_)
  · have h0 : (fun v W => IsM W v [(⟨1, 1, 6, 0⟩ : Mem)]) u13 W := kHas_at hF 0 rfl (by kernel_rfl)
    go_simp
    refine (of_any _ [(⟨1, 1, 6, 0⟩ : Mem)] W h0).mono ?_
    rintro e w' ⟨u, rfl, hu, hk⟩
    exact hK _ _ hk hu
  go_simp
  generalize hZ : (Act.mk _ _) = Z
  refine hK Z ?_
  subst hZ
  clear hK K
  refine kAll_tn _ (fun v W W' hk h => h.keep0 hk) (fun W hW hF => kStep_w (by kernel_rfl) fun K Q hK => ?_) (fun u15 K hK => ?_)
  · go_simp
    refine (low_any 1 1 W).mono ?_
    rintro e w' ⟨u, rfl, hu, hk⟩
    exact hK _ _ hk hu
  go_simp
  generalize hZ : (Act.mk _ _) = Z
  refine hK Z ?_
  subst hZ
  clear hK K
  refine kAll_tn _ (fun v W W' hk h => h.keep0 hk) (fun W hW hF => kStep_w (by kernel_rfl) fun K Q hK => ?_) (fun u16 K hK => ?_)
  · obtain ⟨A1, n1, c1, rfl, hf⟩ := (show IsF W u15 ([(1, 1)] : List ID) from kHas_at hF 0 rfl (by kernel_rfl))
    go_simp
    exact hK _ _ (Keep.refl _ _) ⟨_, _, _, _, _, _, rfl, RdMem.nil_ _, hf⟩
  go_simp
  generalize hZ : (Act.mk _ _) = Z
  refine hK Z ?_
  subst hZ
  clear hK K
  refine kAll_tn _ (fun v W W' hk h => h.keep0 hk) (fun W hW hF => kStep_w (by kernel_rfl) fun K Q hK => ?_) (fun u17 K hK => ?_)
  · go_simp
    refine (low_any 1 1 W).mono ?_
    rintro e w' ⟨u, rfl, hu, hk⟩
    exact hK _ _ hk hu
  go_simp
  generalize hZ : (Act.mk _ _) = Z
  refine hK Z ?_
  subst hZ
  clear hK K
  refine kAll_tn _ (fun v W W' hk h => h.keep0 hk) (fun W hW hF => kStep_w (by kernel_rfl) fun K Q hK => ?_) (fun u18 K hK => ?_)
  · obtain ⟨A1, n1, c1, rfl, hf⟩ := (show IsF W u17 ([(1, 1)] : List ID) from kHas_at hF 0 rfl (by kernel_rfl))
    go_simp
    exact hK _ _ (Keep.refl _ _) ⟨_, _, _, _, _, _, rfl, RdMem.nil_ _, hf⟩
  go_simp
  generalize hZ : (Act.mk _ _) = Z
  refine hK Z ?_
  subst hZ
  clear hK K
  refine kAll_dn _ (fun W hW hF => kStep_w (by kernel_rfl) fun K Q hK => ?_) (fun K hK => ?_)
  · have h0 : (fun v W => IsL W v [(⟨1, 1, 6, 0⟩ : Mem)] ([] : List ID)) u14 W := kHas_at hF 4 rfl (by kernel_rfl)
    have h1 : (fun v W => IsL W v [] ([(1, 1)] : List ID)) u16 W := kHas_at hF 2 rfl (by kernel_rfl)
    have h2 : (fun v W => IsL W v [] ([(1, 1)] : List ID)) u18 W := kHas_at hF 0 rfl (by kernel_rfl)
    go_simp
    refine (says_is _ _ _ ([(⟨1, 1, 6, 0⟩ : Mem)], ([] : List ID)) ([], ([(1, 1)] : List ID)) ([], ([(1, 1)] : List ID)) W true h0 h1 h2 (by decide) (by decide) (by decide) (by decide +kernel)).mono ?_
    rintro e w' ⟨rfl, hk⟩
    exact hK _ _ hk rfl
  go_simp
  generalize hZ : (Act.mk _ _) = Z
  refine hK Z ?_
  subst hZ
  clear hK K
  refine kAll_p (fun K hK => ?_)
  go_simp
  generalize hZ : (Act.mk _ _) = Z
  refine hK Z ?_
  subst hZ
  clear hK K
  refine kAll_p (fun K hK => ?_)
  go_simp
  generalize hZ : (Act.mk _ _) = Z
  refine hK Z ?_
  subst hZ
  clear hK K
  refine kAll_dn _ (fun W hW hF => kStep_w (by kernel_rfl) fun K Q hK => ?_) (fun K hK => ?_)
  · go_simp
    refine (one_any 2 1 3 4 W).mono ?_
    rintro e w' ⟨rfl, hk⟩
    exact hK _ _ hk rfl
  go_simp
  generalize hZ : (Act.mk _ _) = Z
  refine hK Z ?_
  subst hZ
  clear hK K
  refine kAll_tn _ (fun v W W' hk h => h.keep0 hk) (fun W hW hF => kStep_w (by kernel_rfl) fun K Q hK => ?_) (fun u19 K hK => ?_)
  · go_simp
    exact hK _ _ ((Keep.refl _ _).alloc _) ⟨_, _, _, rfl, rfl, RdK.of_blk (Blk.new _ _ _) 1 4 rfl⟩
  go_simp
  generalize hZ : (Act.mk _ _) = Z
  refine hK Z ?_
  subst hZ
  clear hK K
  refine kAll_tn _ (fun v W W' hk h => h.keep0 hk) (fun W hW hF => kStep_w (by kernel_rfl) fun K Q hK => ?_) (fun u20 K hK => ?_)
  · have h0 : (fun v W => IsM W v [(⟨2, 1, 3, 4⟩ : Mem)]) u19 W := kHas_at hF 0 rfl (by kernel_rfl)
    go_simp
    refine (of_any _ [(⟨2, 1, 3, 4⟩ : Mem)] W h0).mono ?_
    rintro e w' ⟨u, rfl, hu, hk⟩
    exact hK _ _ hk hu
  go_simp
  generalize hZ : (Act.mk _ _) = Z
  refine hK Z ?_
  subst hZ
  clear hK K
  refine kAll_dn _ (fun W hW hF => kStep_w (by kernel_rfl) fun K Q hK => ?_) (fun K hK => ?_)
  · go_simp
    refine (one_any 2 1 3 3 W).mono ?_
    rintro e w' ⟨rfl, hk⟩
    exact hK _ _ hk rfl
  go_simp
  generalize hZ : (Act.mk _ _) = Z
  refine hK Z ?_
  subst hZ
  clear hK K
  refine kAll_tn _ (fun v W W' hk h => h.keep0 hk) (fun W hW hF => kStep_w (by kernel_rfl) fun K Q hK => ?_) (fun u21 K hK => ?_)
  · go_simp
    exact hK _ _ ((Keep.refl _ _).alloc _) ⟨_, _, _, rfl, rfl, RdK.of_blk (Blk.new _ _ _) 1 4 rfl⟩
  go_simp
  generalize hZ : (Act.mk _ _) = Z
  refine hK Z ?_
  subst hZ
  clear hK K
  refine kAll_tn _ (fun v W W' hk h => h.keep0 hk) (fun W hW hF => kStep_w (by kernel_rfl) fun K Q hK => ?_) (fun u22 K hK => ?_)
  · have h0 : (fun v W => IsM W v [(⟨2, 1, 3, 3⟩ : Mem)]) u21 W := kHas_at hF 0 rfl (by kernel_rfl)
    go_simp
    refine (of_any _ [(⟨2, 1, 3, 3⟩ : Mem)] W h0).mono ?_
    rintro e w' ⟨u, rfl, hu, hk⟩
    exact hK _ _ hk hu
  go_simp
  generalize hZ : (Act.mk _ _) = Z
  refine hK Z ?_
  subst hZ
  clear hK K
  refine kAll_dn _ (fun W hW hF => kStep_w (by kernel_rfl) fun K Q hK => ?_) (fun K hK => ?_)
  · go_simp
    refine (one_any 2 1 3 3 W).mono ?_
    rintro e w' ⟨rfl, hk⟩
    exact hK _ _ hk rfl
  go_simp
  generalize hZ : (Act.mk _ _) = Z
  refine hK Z ?_
  subst hZ
  clear hK K
  refine kAll_tn _ (fun v W W' hk h => h.keep0 hk) (fun W hW hF => kStep_w (by kernel_rfl) fun K Q hK => ?_) (fun u23 K hK => ?_)
  · go_simp
    exact hK _ _ ((Keep.refl _ _).alloc _) ⟨_, _, _, rfl, rfl, RdK.of_blk (Blk.new _ _ _) 1 4 rfl⟩
  go_simp
  generalize hZ : (Act.mk _ _) = Z
  refine hK Z ?_
  subst hZ
  clear hK K
  refine kAll_tn _ (fun v W W' hk h => h.keep0 hk) (fun W hW hF => kStep_w (by kernel_rfl) fun K Q hK => ?_) (fun u24 K hK => ?_)
  · have h0 : (fun v W => IsM W v [(⟨2, 1, 3, 3⟩ : Mem)]) u23 W := kHas_at hF 0 rfl (by kernel_rfl)
    go_simp
    refine (of_any _ [(⟨2, 1, 3, 3⟩ : Mem)] W h0).mono ?_
    rintro e w' ⟨u, rfl, hu, hk⟩
    exact hK _ _ hk hu
  go_simp
  generalize hZ : (Act.mk _ _) = Z
  refine hK Z ?_
  subst hZ
  clear hK K
  refine kAll_dn _ (fun W hW hF => kStep_w (by kernel_rfl) fun K Q hK => ?_) (fun K hK => ?_)
  · have h0 : (fun v W => IsL W v [(⟨2, 1, 3, 4⟩ : Mem)] ([] : List ID)) u20 W := kHas_at hF 4 rfl (by kernel_rfl)
    have h1 : (fun v W => IsL W v [(⟨2, 1, 3, 3⟩ : Mem)] ([] : List ID)) u22 W := kHas_at hF 2 rfl (by kernel_rfl)
    have h2 : (fun v W => IsL W v [(⟨2, 1, 3, 3⟩ : Mem)] ([] : List ID)) u24 W := kHas_at hF 0 rfl (by kernel_rfl)
    go_simp
    refine (says_is _ _ _ ([(⟨2, 1, 3, 4⟩ : Mem)], ([] : List ID)) ([(⟨2, 1, 3, 3⟩ : Mem)], ([] : List ID)) ([(⟨2, 1, 3, 3⟩ : Mem)], ([] : List ID)) W true h0 h1 h2 (by decide) (by decide) (by decide) (by decide +kernel)).mono ?_
    rintro e w' ⟨rfl, hk⟩
    exact hK _ _ hk rfl
  go_simp
  generalize hZ : (Act.mk _ _) = Z
  refine hK Z ?_
  subst hZ
  clear hK K
  refine kAll_p (fun K hK => ?_)
  go_simp
  generalize hZ : (Act.mk _ _) = Z
  refine hK Z ?_
  subst hZ
  clear hK K
  refine kAll_p (fun K hK => ?_)
  go_simp
  generalize hZ : (Act.mk _ _) = Z
  refine hK Z ?_
  subst hZ
  clear hK K
  refine kAll_dn _ (fun W hW hF => kStep_w (by kernel_rfl) fun K Q hK => ?_) (fun K hK => ?_)
  · go_simp
    refine (one_any 1 1 3 3 W).mono ?_
    rintro e w' ⟨rfl, hk⟩
    exact hK _ _ hk rfl
  go_simp
  generalize hZ : (Act.mk _ _) = Z
  refine hK Z ?_
  subst hZ
  clear hK K
  refine kAll_dn _ (fun W hW hF => kStep_w (by kernel_rfl) fun K Q hK => ?_) (fun K hK => ?_)
  · go_simp
    refine (one_any 2 1 3 5 W).mono ?_
    rintro e w' ⟨rfl, hk⟩
    exact hK _ _ hk rfl
  go_simp
  generalize hZ : (Act.mk _ _) = Z
  refine hK Z ?_
  subst hZ
  clear hK K
  refine kAll_tn _ (fun v W W' hk h => h.keep0 hk) (fun W hW hF => kStep_w (by kernel_rfl) fun K Q hK => ?_) (fun u25 K hK => ?_)
  · go_simp
    exact hK _ _ ((Keep.refl _ _).alloc _) ⟨_, _, _, rfl, rfl, RdK.of_blk (Blk.new _ _ _) 2 4 rfl⟩
  go_simp
  generalize hZ : (Act.mk _ _) = Z
  refine hK Z ?_
  subst hZ
  clear hK K
  refine kAll_dn _ (fun W hW hF => kStep_w (by kernel_rfl) fun K Q hK => ?_) (fun K hK => ?_)
  · have h0 : (fun v W => IsM W v [(⟨1, 1, 3, 3⟩ : Mem), (⟨2, 1, 3, 5⟩ : Mem)]) u25 W := kHas_at hF 0 rfl (by kernel_rfl)
    go_simp
    refine (next_is _ [(⟨1, 1, 3, 3⟩ : Mem), (⟨2, 1, 3, 5⟩ : Mem)] 6 W h0 (by decide) (by decide +kernel)).mono ?_
    rintro e w' ⟨rfl, hk⟩
    exact hK _ _ hk rfl
  go_simp
  generalize hZ : (Act.mk _ _) = Z
  refine hK Z ?_
  subst hZ
  clear hK K
  refine kAll_pw (by kernel_rfl) (fun K hK => ?_)
  go_simp
  generalize hZ : (Act.mk _ _) = Z
  refine hK Z ?_
  subst hZ
  clear hK K
  refine kAll_p (fun K hK => ?_)
  go_simp
  generalize hZ : (Act.mk _ _) = Z
  refine hK Z ?_
  subst hZ
  clear hK K
  refine kAll_nil (fun W hW hF => ?_)
  clear hF
  go_wp2
  go_ret
  exact ⟨rfl, keepD (HK1.out.alloc _) hW⟩
end Go.Proofs.Ythlfgjlnjmjppaa
