/-
  Roster: RosterNames. Written by gen_names.py.
-/
import Derived.Test.YthlfgjlnjmjppaaRosV
namespace Go.Proofs.Ythlfgjlnjmjppaa
open Go.RowKit
attribute [local irreducible] kAll
attribute [local go_sem] kQuiet kQuietUpon


theorem old_is2 (v : Value) (M : List Mem) (w : World) (o : Mem) (b : Bool) (h : IsM w v M) (hl : M.length ≤ 10000) (ho : oldT M = o) (hb : decide (0 < o.no) = b) : Calls Try.prog 22 #[v] w (Tell (.tuple #[memV o, .bool b]) w) := by
  subst hb; exact old_is v M w o h hl ho
set_option maxRecDepth 100000 in
set_option maxHeartbeats 4000000 in
theorem names_any (w : World) : Calls Try.prog 8 #[] w (Tell (.bool true) w) := by
  go_enter Try.func8, Try.ntmps8
  have K0 := Lib.hid (Keep.refl (fun _ => False) w)
  go_upto_region 1 with (fail)
  go_wp2_with fail
  refine (works_any w).mono ?_
  rintro e v0 ⟨rfl, hk⟩
  have hk_1 : Keep (fun _ => False) _ v0 := hk
  have K_2 := Lib.hid (keep0_trans _ _ _ K0.out hk_1)
  clear hk_1 K0
  clear hk
  go_upto_region 3 with (fail)
  refine wp_region_kord (Keep (fun _ => False)) (Keep.refl _) keep0_trans 45 (Ts := [some (.inl (memV ⟨1, 3, 7, 9⟩)), some (.inr (fun v W => IsM W v [(⟨1, 3, 7, 9⟩ : Mem)])), some (.inr (fun v W => IsL W v [(⟨1, 3, 7, 9⟩ : Mem)] ([] : List ID))), some (.inl (memV ⟨1, 2, 3, 1⟩)), some (.inl (memV ⟨1, 4, 2, 0⟩)), some (.inr (fun v W => IsM W v [(⟨1, 2, 3, 1⟩ : Mem), (⟨1, 4, 2, 0⟩ : Mem)])), some (.inr (fun v W => IsL W v [(⟨1, 2, 3, 1⟩ : Mem), (⟨1, 4, 2, 0⟩ : Mem)] ([] : List ID))), some (.inl (memV ⟨1, 4, 2, 0⟩)), some (.inr (fun v W => IsM W v [(⟨1, 4, 2, 0⟩ : Mem)])), some (.inr (fun v W => IsF W v ([(1, 3)] : List ID))), some (.inr (fun v W => IsL W v [(⟨1, 4, 2, 0⟩ : Mem)] ([(1, 3)] : List ID))), some (.inl (.bool true)), none, none, some (.inl (memV ⟨13, 1, 3, 1⟩)), some (.inl (memV ⟨1, 0, 3, 1⟩)), some (.inl (memV ⟨1, 1, 0, 5⟩)), some (.inl (memV ⟨1, 1, 8, 5⟩)), some (.inr (fun v W => IsM W v [(⟨13, 1, 3, 1⟩ : Mem), (⟨1, 0, 3, 1⟩ : Mem), (⟨1, 1, 0, 5⟩ : Mem), (⟨1, 1, 8, 5⟩ : Mem)])), some (.inr (fun v W => IsL W v [(⟨13, 1, 3, 1⟩ : Mem), (⟨1, 0, 3, 1⟩ : Mem), (⟨1, 1, 0, 5⟩ : Mem), (⟨1, 1, 8, 5⟩ : Mem)] ([] : List ID))), none, none, some (.inr (fun v W => IsF W v ([(13, 2), (3, 0)] : List ID))), some (.inr (fun v W => IsL W v [] ([(13, 2), (3, 0)] : List ID))), none, some (.inl (.bool true)), none, none, none, some (.inl (memV ⟨2, 1, 3, 4⟩)), some (.inl (memV ⟨1, 1, 4, (-3)⟩)), some (.inl (memV ⟨1, 1, 3, 7⟩)), some (.inr (fun v W => IsM W v [(⟨2, 1, 3, 4⟩ : Mem), (⟨1, 1, 4, (-3)⟩ : Mem), (⟨1, 1, 3, 7⟩ : Mem)])), some (.inr (fun v W => IsL W v [(⟨2, 1, 3, 4⟩ : Mem), (⟨1, 1, 4, (-3)⟩ : Mem), (⟨1, 1, 3, 7⟩ : Mem)] ([] : List ID))), none, none, some (.inr (fun v W => IsF W v ([(2, 1), (2, 5)] : List ID))), some (.inr (fun v W => IsL W v [] ([(2, 1), (2, 5)] : List ID))), some (.inl (memV ⟨1, 1, 4, 7⟩)), some (.inr (fun v W => IsM W v [(⟨1, 1, 4, 7⟩ : Mem)])), some (.inr (fun v W => IsF W v ([(2, 5)] : List ID))), some (.inr (fun v W => IsL W v [(⟨1, 1, 4, 7⟩ : Mem)] ([(2, 5)] : List ID))), some (.inl (.bool true)), none, none]) ?_
  simp only [List.take, List.drop]
  refine kAll_dn _ (fun W hW hF => kStep_of fun K Q hK => ?_) (fun K hK => ?_)
  · go_simp
    refine (one_any 1 3 7 9 W).mono ?_
    rintro e w' ⟨rfl, hk⟩
    exact hK _ _ hk rfl
  go_simp
  generalize hZ : (Act.mk _ _) = Z
  refine hK Z ?_
  subst hZ
  clear hK K
  refine kAll_tn _ (fun v W W' hk h => h.keep0 hk) (fun W hW hF => kStep_of fun K Q hK => ?_) (fun u0 K hK => ?_)
  · go_simp
    exact hK _ _ ((Keep.refl _ _).alloc _) ⟨_, _, _, rfl, rfl, RdK.of_blk (Blk.new _ _ _) 1 4 rfl⟩
  go_simp
  generalize hZ : (Act.mk _ _) = Z
  refine hK Z ?_
  subst hZ
  clear hK K
  refine kAll_tn _ (fun v W W' hk h => h.keep0 hk) (fun W hW hF => kStep_of fun K Q hK => ?_) (fun u1 K hK => ?_)
  · have h0 : (fun v W => IsM W v [(⟨1, 3, 7, 9⟩ : Mem)]) u0 W := kHas_at hF 0 rfl (by kernel_rfl)
    go_simp
    refine (of_any _ [(⟨1, 3, 7, 9⟩ : Mem)] W h0).mono ?_
    rintro e w' ⟨u, rfl, hu, hk⟩
    exact hK _ _ hk hu
  go_simp
  generalize hZ : (Act.mk _ _) = Z
  refine hK Z ?_
  subst hZ
  clear hK K
  refine kAll_dn _ (fun W hW hF => kStep_of fun K Q hK => ?_) (fun K hK => ?_)
  · go_simp
    refine (one_any 1 2 3 1 W).mono ?_
    rintro e w' ⟨rfl, hk⟩
    exact hK _ _ hk rfl
  go_simp
  generalize hZ : (Act.mk _ _) = Z
  refine hK Z ?_
  subst hZ
  clear hK K
  refine kAll_dn _ (fun W hW hF => kStep_of fun K Q hK => ?_) (fun K hK => ?_)
  · go_simp
    refine (one_any 1 4 2 0 W).mono ?_
    rintro e w' ⟨rfl, hk⟩
    exact hK _ _ hk rfl
  go_simp
  generalize hZ : (Act.mk _ _) = Z
  refine hK Z ?_
  subst hZ
  clear hK K
  refine kAll_tn _ (fun v W W' hk h => h.keep0 hk) (fun W hW hF => kStep_of fun K Q hK => ?_) (fun u2 K hK => ?_)
  · go_simp
    exact hK _ _ ((Keep.refl _ _).alloc _) ⟨_, _, _, rfl, rfl, RdK.of_blk (Blk.new _ _ _) 2 4 rfl⟩
  go_simp
  generalize hZ : (Act.mk _ _) = Z
  refine hK Z ?_
  subst hZ
  clear hK K
  refine kAll_tn _ (fun v W W' hk h => h.keep0 hk) (fun W hW hF => kStep_of fun K Q hK => ?_) (fun u3 K hK => ?_)
  · have h0 : (fun v W => IsM W v [(⟨1, 2, 3, 1⟩ : Mem), (⟨1, 4, 2, 0⟩ : Mem)]) u2 W := kHas_at hF 0 rfl (by kernel_rfl)
    go_simp
    refine (of_any _ [(⟨1, 2, 3, 1⟩ : Mem), (⟨1, 4, 2, 0⟩ : Mem)] W h0).mono ?_
    rintro e w' ⟨u, rfl, hu, hk⟩
    exact hK _ _ hk hu
  go_simp
  generalize hZ : (Act.mk _ _) = Z
  refine hK Z ?_
  subst hZ
  clear hK K
  refine kAll_dn _ (fun W hW hF => kStep_of fun K Q hK => ?_) (fun K hK => ?_)
  · go_simp
    refine (one_any 1 4 2 0 W).mono ?_
    rintro e w' ⟨rfl, hk⟩
    exact hK _ _ hk rfl
  go_simp
  generalize hZ : (Act.mk _ _) = Z
  refine hK Z ?_
  subst hZ
  clear hK K
  refine kAll_tn _ (fun v W W' hk h => h.keep0 hk) (fun W hW hF => kStep_of fun K Q hK => ?_) (fun u4 K hK => ?_)
  · go_simp
    exact hK _ _ ((Keep.refl _ _).alloc _) ⟨_, _, _, rfl, rfl, RdK.of_blk (Blk.new _ _ _) 1 4 rfl⟩
  go_simp
  generalize hZ : (Act.mk _ _) = Z
  refine hK Z ?_
  subst hZ
  clear hK K
  refine kAll_tn _ (fun v W W' hk h => h.keep0 hk) (fun W hW hF => kStep_of fun K Q hK => ?_) (fun u5 K hK => ?_)
  · go_simp
    refine (low_any 1 3 W).mono ?_
    rintro e w' ⟨u, rfl, hu, hk⟩
    exact hK _ _ hk hu
  go_simp
  generalize hZ : (Act.mk _ _) = Z
  refine hK Z ?_
  subst hZ
  clear hK K
  refine kAll_tn _ (fun v W W' hk h => h.keep0 hk) (fun W hW hF => kStep_of fun K Q hK => ?_) (fun u6 K hK => ?_)
  · obtain ⟨A0, n0, c0, rfl, hm⟩ := (show IsM W u4 [(⟨1, 4, 2, 0⟩ : Mem)] from kHas_at hF 1 rfl (by kernel_rfl))
    obtain ⟨A1, n1, c1, rfl, hf⟩ := (show IsF W u5 ([(1, 3)] : List ID) from kHas_at hF 0 rfl (by kernel_rfl))
    go_simp
    exact hK _ _ (Keep.refl _ _) ⟨_, _, _, _, _, _, rfl, hm, hf⟩
  go_simp
  generalize hZ : (Act.mk _ _) = Z
  refine hK Z ?_
  subst hZ
  clear hK K
  refine kAll_dn _ (fun W hW hF => kStep_of fun K Q hK => ?_) (fun K hK => ?_)
  · have h0 : (fun v W => IsL W v [(⟨1, 3, 7, 9⟩ : Mem)] ([] : List ID)) u1 W := kHas_at hF 5 rfl (by kernel_rfl)
    have h1 : (fun v W => IsL W v [(⟨1, 2, 3, 1⟩ : Mem), (⟨1, 4, 2, 0⟩ : Mem)] ([] : List ID)) u3 W := kHas_at hF 3 rfl (by kernel_rfl)
    have h2 : (fun v W => IsL W v [(⟨1, 4, 2, 0⟩ : Mem)] ([(1, 3)] : List ID)) u6 W := kHas_at hF 0 rfl (by kernel_rfl)
    go_simp
    refine (says_is _ _ _ ([(⟨1, 3, 7, 9⟩ : Mem)], ([] : List ID)) ([(⟨1, 2, 3, 1⟩ : Mem), (⟨1, 4, 2, 0⟩ : Mem)], ([] : List ID)) ([(⟨1, 4, 2, 0⟩ : Mem)], ([(1, 3)] : List ID)) W true h0 h1 h2 (by decide) (by decide) (by decide) (by decide +kernel)).mono ?_
    rintro e w' ⟨rfl, hk⟩
    exact hK _ _ hk rfl
  go_simp
  generalize hZ : (Act.mk _ _) = Z
  refine hK Z ?_
  subst hZ
  clear hK K
  refine kAll_p (fun K hK => ?_)
  go_simp
  generalize hZ : (Act.mk _ _) = Z
  refine hK Z ?_
  subst hZ
  clear hK K
  refine kAll_p (fun K hK => ?_)
  go_simp
  generalize hZ : (Act.mk _ _) = Z
  refine hK Z ?_
  subst hZ
  clear hK K
  refine kAll_dn _ (fun W hW hF => kStep_w (by kernel_rfl) fun K Q hK => ?_) (fun K hK => ?_)
  · go_simp
    refine (one_any 13 1 3 1 W).mono ?_
    rintro e w' ⟨rfl, hk⟩
    exact hK _ _ hk rfl
  go_simp
  generalize hZ : (Act.mk _ _) = Z
  refine hK Z ?_
  subst hZ
  clear hK K
  refine kAll_dn _ (fun W hW hF => kStep_w (by kernel_rfl) fun K Q hK => ?_) (fun K hK => ?_)
  · go_simp
    refine (one_any 1 0 3 1 W).mono ?_
    rintro e w' ⟨rfl, hk⟩
    exact hK _ _ hk rfl
  go_simp
  generalize hZ : (Act.mk _ _) = Z
  refine hK Z ?_
  subst hZ
  clear hK K
  refine kAll_dn _ (fun W hW hF => kStep_w (by kernel_rfl) fun K Q hK => ?_) (fun K hK => ?_)
  · go_simp
    refine (one_any 1 1 0 5 W).mono ?_
    rintro e w' ⟨rfl, hk⟩
    exact hK _ _ hk rfl
  go_simp
  generalize hZ : (Act.mk _ _) = Z
  refine hK Z ?_
  subst hZ
  clear hK K
  refine kAll_dn _ (fun W hW hF => kStep_w (by kernel_rfl) fun K Q hK => ?_) (fun K hK => ?_)
  · go_simp
    refine (one_any 1 1 8 5 W).mono ?_
    rintro e w' ⟨rfl, hk⟩
    exact hK _ _ hk rfl
  go_simp
  generalize hZ : (Act.mk _ _) = Z
  refine hK Z ?_
  subst hZ
  clear hK K
  refine kAll_tn _ (fun v W W' hk h => h.keep0 hk) (fun W hW hF => kStep_w (by kernel_rfl) fun K Q hK => ?_) (fun u7 K hK => ?_)
  · go_simp
    exact hK _ _ ((Keep.refl _ _).alloc _) ⟨_, _, _, rfl, rfl, RdK.of_blk (Blk.new _ _ _) 4 4 rfl⟩
  go_simp
  generalize hZ : (Act.mk _ _) = Z
  refine hK Z ?_
  subst hZ
  clear hK K
  refine kAll_tn _ (fun v W W' hk h => h.keep0 hk) (fun W hW hF => kStep_w (by kernel_rfl) fun K Q hK => ?_) (fun u8 K hK => ?_)
  · have h0 : (fun v W => IsM W v [(⟨13, 1, 3, 1⟩ : Mem), (⟨1, 0, 3, 1⟩ : Mem), (⟨1, 1, 0, 5⟩ : Mem), (⟨1, 1, 8, 5⟩ : Mem)]) u7 W := kHas_at hF 0 rfl (by kernel_rfl)
    go_simp
    refine (of_any _ [(⟨13, 1, 3, 1⟩ : Mem), (⟨1, 0, 3, 1⟩ : Mem), (⟨1, 1, 0, 5⟩ : Mem), (⟨1, 1, 8, 5⟩ : Mem)] W h0).mono ?_
    rintro e w' ⟨u, rfl, hu, hk⟩
    exact hK _ _ hk hu
  go_simp
  generalize hZ : (Act.mk _ _) = Z
  refine hK Z ?_
  subst hZ
  clear hK K
  refine kAll_pw (by kernel_rfl) (fun K hK => ?_)
  go_simp
  generalize hZ : (Act.mk _ _) = Z
  refine hK Z ?_
  subst hZ
  clear hK K
  refine kAll_pw (by kernel_rfl) (fun K hK => ?_)
  go_simp
  generalize hZ : (Act.mk _ _) = Z
  refine hK Z ?_
  subst hZ
  clear hK K
  refine kAll_tn _ (fun v W W' hk h => h.keep0 hk) (fun W hW hF => kStep_w (by kernel_rfl) fun K Q hK => ?_) (fun u9 K hK => ?_)
  · go_simp
    exact hK _ _ ((Keep.refl _ _).alloc _) ⟨_, _, _, rfl, rfl, RdK.of_blk (Blk.new _ _ _) 2 2 rfl⟩
  go_simp
  generalize hZ : (Act.mk _ _) = Z
  refine hK Z ?_
  subst hZ
  clear hK K
  refine kAll_tn _ (fun v W W' hk h => h.keep0 hk) (fun W hW hF => kStep_w (by kernel_rfl) fun K Q hK => ?_) (fun u10 K hK => ?_)
  · obtain ⟨A1, n1, c1, rfl, hf⟩ := (show IsF W u9 ([(13, 2), (3, 0)] : List ID) from kHas_at hF 0 rfl (by kernel_rfl))
    go_simp
    exact hK _ _ (Keep.refl _ _) ⟨_, _, _, _, _, _, rfl, RdMem.nil_ _, hf⟩
  go_simp
  generalize hZ : (Act.mk _ _) = Z
  refine hK Z ?_
  subst hZ
  clear hK K
  refine kAll_pw (by kernel_rfl) (fun K hK => ?_)
  go_simp
  generalize hZ : (Act.mk _ _) = Z
  refine hK Z ?_
  subst hZ
  clear hK K
  refine kAll_dn _ (fun W hW hF => kStep_w (by kernel_rfl) fun K Q hK => ?_) (fun K hK => ?_)
  · have h0 : (fun v W => IsL W v [(⟨13, 1, 3, 1⟩ : Mem), (⟨1, 0, 3, 1⟩ : Mem), (⟨1, 1, 0, 5⟩ : Mem), (⟨1, 1, 8, 5⟩ : Mem)] ([] : List ID)) u8 W := kHas_at hF 2 rfl (by kernel_rfl)
    have h1 : (fun v W => IsL W v [] ([(13, 2), (3, 0)] : List ID)) u10 W := kHas_at hF 0 rfl (by kernel_rfl)
    have h2 : IsL W (.agg #[.slice none 0 0, .slice none 0 0]) [] [] := ⟨_, _, _, _, _, _, rfl, RdMem.nil_ _, RdI.nil_ _⟩
    go_simp
    refine (says_is _ _ _ ([(⟨13, 1, 3, 1⟩ : Mem), (⟨1, 0, 3, 1⟩ : Mem), (⟨1, 1, 0, 5⟩ : Mem), (⟨1, 1, 8, 5⟩ : Mem)], ([] : List ID)) ([], ([(13, 2), (3, 0)] : List ID)) ([], ([] : List ID)) W true h0 h1 h2 (by decide) (by decide) (by decide) (by decide +kernel)).mono ?_
    rintro e w' ⟨rfl, hk⟩
    exact hK _ _ hk rfl
  go_simp
  generalize hZ : (Act.mk _ _) = Z
  refine hK Z ?_
  subst hZ
  clear hK K
  refine kAll_pw (by kernel_rfl) (fun K hK => ?_)
  go_simp
  generalize hZ : (Act.mk _ _) = Z
  refine hK Z ?_
  subst hZ
  clear hK K
  refine kAll_p (fun K hK => ?_)
  go_simp
  generalize hZ : (Act.mk _ _) = Z
  refine hK Z ?_
  subst hZ
  clear hK K
  refine kAll_p (fun K hK => ?_)
  go_simp
  generalize hZ : (Act.mk _ _) = Z
  refine hK Z ?_
  subst hZ
  clear hK K
  refine kAll_dn _ (fun W hW hF => kStep_w (by kernel_rfl) fun K Q hK => ?_) (fun K hK => ?_)
  · go_simp
    refine (one_any 2 1 3 4 W).mono ?_
    rintro e w' ⟨rfl, hk⟩
    exact hK _ _ hk rfl
  go_simp
  generalize hZ : (Act.mk _ _) = Z
  refine hK Z ?_
  subst hZ
  clear hK K
  refine kAll_dn _ (fun W hW hF => kStep_w (by kernel_rfl) fun K Q hK => ?_) (fun K hK => ?_)
  · go_simp
    refine (one_any 1 1 4 (-3) W).mono ?_
    rintro e w' ⟨rfl, hk⟩
    exact hK _ _ hk rfl
  go_simp
  generalize hZ : (Act.mk _ _) = Z
  refine hK Z ?_
  subst hZ
  clear hK K
  refine kAll_dn _ (fun W hW hF => kStep_w (by kernel_rfl) fun K Q hK => ?_) (fun K hK => ?_)
  · go_simp
    refine (one_any 1 1 3 7 W).mono ?_
    rintro e w' ⟨rfl, hk⟩
    exact hK _ _ hk rfl
  go_simp
  generalize hZ : (Act.mk _ _) = Z
  refine hK Z ?_
  subst hZ
  clear hK K
  refine kAll_tn _ (fun v W W' hk h => h.keep0 hk) (fun W hW hF => kStep_w (by kernel_rfl) fun K Q hK => ?_) (fun u11 K hK => ?_)
  · go_simp
    exact hK _ _ ((Keep.refl _ _).alloc _) ⟨_, _, _, rfl, rfl, RdK.of_blk (Blk.new _ _ _) 3 4 rfl⟩
  go_simp
  generalize hZ : (Act.mk _ _) = Z
  refine hK Z ?_
  subst hZ
  clear hK K
  refine kAll_tn _ (fun v W W' hk h => h.keep0 hk) (fun W hW hF => kStep_w (by kernel_rfl) fun K Q hK => ?_) (fun u12 K hK => ?_)
  · have h0 : (fun v W => IsM W v [(⟨2, 1, 3, 4⟩ : Mem), (⟨1, 1, 4, (-3)⟩ : Mem), (⟨1, 1, 3, 7⟩ : Mem)]) u11 W := kHas_at hF 0 rfl (by kernel_rfl)
    go_simp
    refine (of_any _ [(⟨2, 1, 3, 4⟩ : Mem), (⟨1, 1, 4, (-3)⟩ : Mem), (⟨1, 1, 3, 7⟩ : Mem)] W h0).mono ?_
    rintro e w' ⟨u, rfl, hu, hk⟩
    exact hK _ _ hk hu
  go_simp
  generalize hZ : (Act.mk _ _) = Z
  refine hK Z ?_
  subst hZ
  clear hK K
  refine kAll_pw (by kernel_rfl) (fun K hK => ?_)
  go_simp
  generalize hZ : (Act.mk _ _) = Z
  refine hK Z ?_
  subst hZ
  clear hK K
  refine kAll_pw (by kernel_rfl) (fun K hK => ?_)
  go_simp
  generalize hZ : (Act.mk _ _) = Z
  refine hK Z ?_
  subst hZ
  clear hK K
  refine kAll_tn _ (fun v W W' hk h => h.keep0 hk) (fun W hW hF => kStep_w (by kernel_rfl) fun K Q hK => ?_) (fun u13 K hK => ?_)
  · go_simp
    exact hK _ _ ((Keep.refl _ _).alloc _) ⟨_, _, _, rfl, rfl, RdK.of_blk (Blk.new _ _ _) 2 2 rfl⟩
  go_simp
  generalize hZ : (Act.mk _ _) = Z
  refine hK Z ?_
  subst hZ
  clear hK K
  refine kAll_tn _ (fun v W W' hk h => h.keep0 hk) (fun W hW hF => kStep_w (by kernel_rfl) fun K Q hK => ?_) (fun u14 K hK => ?_)
  · obtain ⟨A1, n1, c1, rfl, hf⟩ := (show IsF W u13 ([(2, 1), (2, 5)] : List ID) from kHas_at hF 0 rfl (by kernel_rfl))
    go_simp
    exact hK _ _ (Keep.refl _ _) ⟨_, _, _, _, _, _, rfl, RdMem.nil_ _, hf⟩
  go_simp
  generalize hZ : (Act.mk _ _) = Z
  refine hK Z ?_
  subst hZ
  clear hK K
  refine kAll_dn _ (fun W hW hF => kStep_w (by kernel_rfl) fun K Q hK => ?_) (fun K hK => ?_)
  · go_simp
    refine (one_any 1 1 4 7 W).mono ?_
    rintro e w' ⟨rfl, hk⟩
    exact hK _ _ hk rfl
  go_simp
  generalize hZ : (Act.mk _ _) = Z
  refine hK Z ?_
  subst hZ
  clear hK K
  refine kAll_tn _ (fun v W W' hk h => h.keep0 hk) (fun W hW hF => kStep_w (by kernel_rfl) fun K Q hK => ?_) (fun u15 K hK => ?_)
  · go_simp
    exact hK _ _ ((Keep.refl _ _).alloc _) ⟨_, _, _, rfl, rfl, RdK.of_blk (Blk.new _ _ _) 1 4 rfl⟩
  go_simp
  generalize hZ : (Act.mk _ _) = Z
  refine hK Z ?_
  subst hZ
  clear hK K
  refine kAll_tn _ (fun v W W' hk h => h.keep0 hk) (fun W hW hF => kStep_w (by kernel_rfl) fun K Q hK => ?_) (fun u16 K hK => ?_)
  · go_simp
    refine (low_any 2 5 W).mono ?_
    rintro e w' ⟨u, rfl, hu, hk⟩
    exact hK _ _ hk hu
  go_simp
  generalize hZ : (Act.mk _ _) = Z
  refine hK Z ?_
  subst hZ
  clear hK K
  refine kAll_tn _ (fun v W W' hk h => h.keep0 hk) (fun W hW hF => kStep_w (by kernel_rfl) fun K Q hK => ?_) (fun u17 K hK => ?_)
  · obtain ⟨A0, n0, c0, rfl, hm⟩ := (show IsM W u15 [(⟨1, 1, 4, 7⟩ : Mem)] from kHas_at hF 1 rfl (by kernel_rfl))
    obtain ⟨A1, n1, c1, rfl, hf⟩ := (show IsF W u16 ([(2, 5)] : List ID) from kHas_at hF 0 rfl (by kernel_rfl))
    go_simp
    exact hK _ _ (Keep.refl _ _) ⟨_, _, _, _, _, _, rfl, hm, hf⟩
  go_simp
  generalize hZ : (Act.mk _ _) = Z
  refine hK Z ?_
  subst hZ
  clear hK K
  refine kAll_dn _ (fun W hW hF => kStep_w (by kernel_rfl) fun K Q hK => ?_) (fun K hK => ?_)
  · have h0 : (fun v W => IsL W v [(⟨2, 1, 3, 4⟩ : Mem), (⟨1, 1, 4, (-3)⟩ : Mem), (⟨1, 1, 3, 7⟩ : Mem)] ([] : List ID)) u12 W := kHas_at hF 5 rfl (by kernel_rfl)
    have h1 : (fun v W => IsL W v [] ([(2, 1), (2, 5)] : List ID)) u14 W := kHas_at hF 3 rfl (by kernel_rfl)
    have h2 : (fun v W => IsL W v [(⟨1, 1, 4, 7⟩ : Mem)] ([(2, 5)] : List ID)) u17 W := kHas_at hF 0 rfl (by kernel_rfl)
    go_simp
    refine (says_is _ _ _ ([(⟨2, 1, 3, 4⟩ : Mem), (⟨1, 1, 4, (-3)⟩ : Mem), (⟨1, 1, 3, 7⟩ : Mem)], ([] : List ID)) ([], ([(2, 1), (2, 5)] : List ID)) ([(⟨1, 1, 4, 7⟩ : Mem)], ([(2, 5)] : List ID)) W true h0 h1 h2 (by decide) (by decide) (by decide) (by decide +kernel)).mono ?_
    rintro e w' ⟨rfl, hk⟩
    exact hK _ _ hk rfl
  go_simp
  generalize hZ : (Act.mk _ _) = Z
  refine hK Z ?_
  subst hZ
  clear hK K
  refine kAll_pw (by kernel_rfl) (fun K hK => ?_)
  go_simp
  generalize hZ : (Act.mk _ _) = Z
  refine hK Z ?_
  subst hZ
  clear hK K
  refine kAll_p (fun K hK => ?_)
  go_simp
  generalize hZ : (Act.mk _ _) = Z
  refine hK Z ?_
  subst hZ
  clear hK K
  refine kAll_nil (fun W3 hW hF => ?_)
  clear hF
  have hk_4 : Keep (fun _ => False) _ W3 := hW
  have K_5 := Lib.hid (keep0_trans _ _ _ K_2.out hk_4)
  clear hk_4 K_2
  clear hW
  go_upto_region 5 with (fail)
  refine wp_region_kord (Keep (fun _ => False)) (Keep.refl _) keep0_trans 11 (Ts := [some (.inl (memV ⟨1, 2, 1, 0⟩)), some (.inl (memV ⟨2, 1, 2, 0⟩)), some (.inl (memV ⟨3, 1, 3, 1⟩)), some (.inl (memV ⟨4, 1, 4, 1099511627776⟩)), some (.inl (memV ⟨5, 1, 5, 0⟩)), some (.inl (memV ⟨6, 1, 6, 3⟩)), some (.inr (fun v W => IsM W v [(⟨1, 2, 1, 0⟩ : Mem), (⟨2, 1, 2, 0⟩ : Mem), (⟨3, 1, 3, 1⟩ : Mem), (⟨4, 1, 4, 1099511627776⟩ : Mem), (⟨5, 1, 5, 0⟩ : Mem), (⟨6, 1, 6, 3⟩ : Mem)])), none, none, some (.inr (fun v W => IsF W v ([(1, 1), (9, 4)] : List ID))), some (.inr (fun v W => IsL W v [(⟨1, 2, 1, 0⟩ : Mem), (⟨2, 1, 2, 0⟩ : Mem), (⟨3, 1, 3, 1⟩ : Mem), (⟨4, 1, 4, 1099511627776⟩ : Mem), (⟨5, 1, 5, 0⟩ : Mem), (⟨6, 1, 6, 3⟩ : Mem)] ([(1, 1), (9, 4)] : List ID)))]) ?_
  simp only [List.take, List.drop]
  refine kAll_dn _ (fun W hW hF => kStep_of fun K Q hK => ?_) (fun K hK => ?_)
  · go_simp
    refine (one_any 1 2 1 0 W).mono ?_
    rintro e w' ⟨rfl, hk⟩
    exact hK _ _ hk rfl
  go_simp
  generalize hZ : (Act.mk _ _) = Z
  refine hK Z ?_
  subst hZ
  clear hK K
  refine kAll_dn _ (fun W hW hF => kStep_of fun K Q hK => ?_) (fun K hK => ?_)
  · go_simp
    refine (one_any 2 1 2 0 W).mono ?_
    rintro e w' ⟨rfl, hk⟩
    exact hK _ _ hk rfl
  go_simp
  generalize hZ : (Act.mk _ _) = Z
  refine hK Z ?_
  subst hZ
  clear hK K
  refine kAll_dn _ (fun W hW hF => kStep_of fun K Q hK => ?_) (fun K hK => ?_)
  · go_simp
    refine (one_any 3 1 3 1 W).mono ?_
    rintro e w' ⟨rfl, hk⟩
    exact hK _ _ hk rfl
  go_simp
  generalize hZ : (Act.mk _ _) = Z
  refine hK Z ?_
  subst hZ
  clear hK K
  refine kAll_dn _ (fun W hW hF => kStep_of fun K Q hK => ?_) (fun K hK => ?_)
  · go_simp
    refine (one_any 4 1 4 1099511627776 W).mono ?_
    rintro e w' ⟨rfl, hk⟩
    exact hK _ _ hk rfl
  go_simp
  generalize hZ : (Act.mk _ _) = Z
  refine hK Z ?_
  subst hZ
  clear hK K
  refine kAll_dn _ (fun W hW hF => kStep_of fun K Q hK => ?_) (fun K hK => ?_)
  · go_simp
    refine (one_any 5 1 5 0 W).mono ?_
    rintro e w' ⟨rfl, hk⟩
    exact hK _ _ hk rfl
  go_simp
  generalize hZ : (Act.mk _ _) = Z
  refine hK Z ?_
  subst hZ
  clear hK K
  refine kAll_dn _ (fun W hW hF => kStep_of fun K Q hK => ?_) (fun K hK => ?_)
  · go_simp
    refine (one_any 6 1 6 3 W).mono ?_
    rintro e w' ⟨rfl, hk⟩
    exact hK _ _ hk rfl
  go_simp
  generalize hZ : (Act.mk _ _) = Z
  refine hK Z ?_
  subst hZ
  clear hK K
  refine kAll_tn _ (fun v W W' hk h => h.keep0 hk) (fun W hW hF => kStep_of fun K Q hK => ?_) (fun u0 K hK => ?_)
  · go_simp
    exact hK _ _ ((Keep.refl _ _).alloc _) ⟨_, _, _, rfl, rfl, RdK.of_blk (Blk.new _ _ _) 6 4 rfl⟩
  go_simp
  generalize hZ : (Act.mk _ _) = Z
  refine hK Z ?_
  subst hZ
  clear hK K
  refine kAll_p (fun K hK => ?_)
  go_simp
  generalize hZ : (Act.mk _ _) = Z
  refine hK Z ?_
  subst hZ
  clear hK K
  refine kAll_p (fun K hK => ?_)
  go_simp
  generalize hZ : (Act.mk _ _) = Z
  refine hK Z ?_
  subst hZ
  clear hK K
  refine kAll_tn _ (fun v W W' hk h => h.keep0 hk) (fun W hW hF => kStep_of fun K Q hK => ?_) (fun u1 K hK => ?_)
  · go_simp
    exact hK _ _ ((Keep.refl _ _).alloc _) ⟨_, _, _, rfl, rfl, RdK.of_blk (Blk.new _ _ _) 2 2 rfl⟩
  go_simp
  generalize hZ : (Act.mk _ _) = Z
  refine hK Z ?_
  subst hZ
  clear hK K
  refine kAll_tn _ (fun v W W' hk h => h.keep0 hk) (fun W hW hF => kStep_of fun K Q hK => ?_) (fun u2 K hK => ?_)
  · obtain ⟨A0, n0, c0, rfl, hm⟩ := (show IsM W u0 [(⟨1, 2, 1, 0⟩ : Mem), (⟨2, 1, 2, 0⟩ : Mem), (⟨3, 1, 3, 1⟩ : Mem), (⟨4, 1, 4, 1099511627776⟩ : Mem), (⟨5, 1, 5, 0⟩ : Mem), (⟨6, 1, 6, 3⟩ : Mem)] from kHas_at hF 1 rfl (by kernel_rfl))
    obtain ⟨A1, n1, c1, rfl, hf⟩ := (show IsF W u1 ([(1, 1), (9, 4)] : List ID) from kHas_at hF 0 rfl (by kernel_rfl))
    go_simp
    exact hK _ _ (Keep.refl _ _) ⟨_, _, _, _, _, _, rfl, hm, hf⟩
  go_simp
  generalize hZ : (Act.mk _ _) = Z
  refine hK Z ?_
  subst hZ
  clear hK K
  refine kAll_nil (fun W6 hW hF => ?_)
  have hgood : (fun v W => IsL W v [(⟨1, 2, 1, 0⟩ : Mem), (⟨2, 1, 2, 0⟩ : Mem), (⟨3, 1, 3, 1⟩ : Mem), (⟨4, 1, 4, 1099511627776⟩ : Mem), (⟨5, 1, 5, 0⟩ : Mem), (⟨6, 1, 6, 3⟩ : Mem)] ([(1, 1), (9, 4)] : List ID)) u2 W6 := kAllHas_at hF 0 rfl
  obtain ⟨A1, n1, c1, A2, n2, c2, e1, hg1, hg2⟩ := hgood
  subst e1
  have FG : Hid (∀ W, Keep (fun _ => False) W6 W → IsL W (.agg #[.slice A1 n1 c1, .slice A2 n2 c2]) [(⟨1, 2, 1, 0⟩ : Mem), (⟨2, 1, 2, 0⟩ : Mem), (⟨3, 1, 3, 1⟩ : Mem), (⟨4, 1, 4, 1099511627776⟩ : Mem), (⟨5, 1, 5, 0⟩ : Mem), (⟨6, 1, 6, 3⟩ : Mem)] ([(1, 1), (9, 4)] : List ID)) := Lib.hid fun W h => ⟨_, _, _, _, _, _, rfl, hg1.keep0 h, hg2.keep0 h⟩
  clear hg1 hg2
  clear hF
  have hk_7 : Keep (fun _ => False) _ W6 := hW
  have K_8 := Lib.hid (keep0_trans _ _ _ K_5.out hk_7)
  clear hk_7 K_5
  clear hW
  go_upto_region 6 with (fail)
  have hb_9 := Blk.new W6 25 #[.slice A1 n1 c1, .slice A2 n2 c2]
  have hq_11 : Keep (fun _ => False) W6 (W6.alloc (.cells #[.slice A1 n1 c1, .slice A2 n2 c2] 25)) := (Keep.refl _ _).alloc _
  generalize hw : W6.alloc (.cells #[.slice A1 n1 c1, .slice A2 n2 c2] 25) = w_10 at *
  clear hw
  have B_13 := Lib.hid hb_9
  clear hb_9
  have hk_14 : Keep (fun _ => False) _ w_10 := hq_11
  have F_15 := Lib.hid (fun W h => FG.out W (keep0_trans _ _ _ hk_14 h))
  have K_16 := Lib.hid (keep0_trans _ _ _ K_8.out hk_14)
  clear hk_14 FG K_8
  clear hq_11
  refine wp_region_kord (Keep (fun _ => False)) (Keep.refl _) keep0_trans 10 (Ts := [none, some (.inl (.slice A1 n1 c1)), none, some (.inl (.slice A2 n2 c2)), some (.inl (.bool true)), none, none, some (.inl (.bool true)), none, none]) ?_
  simp only [List.take, List.drop]
  refine kAll_p (fun K hK => ?_)
  go_simp
  generalize hZ : (Act.mk _ _) = Z
  refine hK Z ?_
  subst hZ
  clear hK K
  refine kAll_dn _ (fun W hW hF => kStep_of fun K Q hK => ?_) (fun K hK => ?_)
  · have e0 := (B_13.out.keep hW (fun h => h)).cell 0
    simp at e0
    go_simp
    exact hK _ _ (Keep.refl _ _) rfl
  go_simp
  generalize hZ : (Act.mk _ _) = Z
  refine hK Z ?_
  subst hZ
  clear hK K
  refine kAll_p (fun K hK => ?_)
  go_simp
  generalize hZ : (Act.mk _ _) = Z
  refine hK Z ?_
  subst hZ
  clear hK K
  refine kAll_dn _ (fun W hW hF => kStep_of fun K Q hK => ?_) (fun K hK => ?_)
  · have e1 := (B_13.out.keep hW (fun h => h)).cell 1
    simp at e1
    go_simp
    exact hK _ _ (Keep.refl _ _) rfl
  go_simp
  generalize hZ : (Act.mk _ _) = Z
  refine hK Z ?_
  subst hZ
  clear hK K
  refine kAll_dn _ (fun W hW hF => kStep_of fun K Q hK => ?_) (fun K hK => ?_)
  · have h0 := F_15.out W hW
    go_simp
    refine (rmay_is _ _ [(⟨1, 2, 1, 0⟩ : Mem), (⟨2, 1, 2, 0⟩ : Mem), (⟨3, 1, 3, 1⟩ : Mem), (⟨4, 1, 4, 1099511627776⟩ : Mem), (⟨5, 1, 5, 0⟩ : Mem), (⟨6, 1, 6, 3⟩ : Mem)] ([(1, 1), (9, 4)] : List ID) W true (isM_of h0) (isF_of h0) (by simp) (by simp) (by decide +kernel)).mono ?_
    rintro e w' ⟨rfl, hk⟩
    exact hK _ _ hk rfl
  go_simp
  generalize hZ : (Act.mk _ _) = Z
  refine hK Z ?_
  subst hZ
  clear hK K
  refine kAll_p (fun K hK => ?_)
  go_simp
  generalize hZ : (Act.mk _ _) = Z
  refine hK Z ?_
  subst hZ
  clear hK K
  refine kAll_p (fun K hK => ?_)
  go_simp
  generalize hZ : (Act.mk _ _) = Z
  refine hK Z ?_
  subst hZ
  clear hK K
  refine kAll_dn _ (fun W hW hF => kStep_w (by kernel_rfl) fun K Q hK => ?_) (fun K hK => ?_)
  · go_simp
    refine (rmay_is _ _ [] [] W true ⟨_, _, _, rfl, RdMem.nil_ _⟩ ⟨_, _, _, rfl, RdI.nil_ _⟩ (by simp) (by simp) (by decide +kernel)).mono ?_
    rintro e w' ⟨rfl, hk⟩
    exact hK _ _ hk rfl
  go_simp
  generalize hZ : (Act.mk _ _) = Z
  refine hK Z ?_
  subst hZ
  clear hK K
  refine kAll_pw (by kernel_rfl) (fun K hK => ?_)
  go_simp
  generalize hZ : (Act.mk _ _) = Z
  refine hK Z ?_
  subst hZ
  clear hK K
  refine kAll_p (fun K hK => ?_)
  go_simp
  generalize hZ : (Act.mk _ _) = Z
  refine hK Z ?_
  subst hZ
  clear hK K
  refine kAll_nil (fun W17 hW hF => ?_)
  clear hF
  have hk_18 : Keep (fun _ => False) _ W17 := hW
  have B_19 := Lib.hid (B_13.out.keep hk_18 (fun h => h))
  have F_20 := Lib.hid (fun W h => F_15.out W (keep0_trans _ _ _ hk_18 h))
  have K_21 := Lib.hid (keep0_trans _ _ _ K_16.out hk_18)
  clear hk_18 B_13 F_15 K_16
  clear hW
  go_upto_region 8 with (fail)
  refine wp_region_kord (Keep (fun _ => False)) (Keep.refl _) keep0_trans 45 (Ts := [some (.inl (memV ⟨1, 1, 1, 1⟩)), some (.inr (fun v W => IsM W v [(⟨1, 1, 1, 1⟩ : Mem)])), some (.inr (fun v W => IsL W v [(⟨1, 1, 1, 1⟩ : Mem)] ([] : List ID))), some (.inl (memV ⟨1, 1, 3, 0⟩)), some (.inr (fun v W => IsM W v [(⟨1, 1, 3, 0⟩ : Mem)])), some (.inr (fun v W => IsL W v [(⟨1, 1, 3, 0⟩ : Mem)] ([] : List ID))), some (.inl (memV ⟨1, 1, 3, 1099511627777⟩)), some (.inr (fun v W => IsM W v [(⟨1, 1, 3, 1099511627777⟩ : Mem)])), some (.inr (fun v W => IsL W v [(⟨1, 1, 3, 1099511627777⟩ : Mem)] ([] : List ID))), some (.inl (memV ⟨1, 1, 7, 0⟩)), some (.inr (fun v W => IsM W v [(⟨1, 1, 7, 0⟩ : Mem)])), some (.inr (fun v W => IsL W v [(⟨1, 1, 7, 0⟩ : Mem)] ([] : List ID))), some (.inl (memV ⟨1, 1, 0, 0⟩)), some (.inr (fun v W => IsM W v [(⟨1, 1, 0, 0⟩ : Mem)])), some (.inr (fun v W => IsL W v [(⟨1, 1, 0, 0⟩ : Mem)] ([] : List ID))), some (.inl (memV ⟨1, 1, 6, (-1)⟩)), some (.inr (fun v W => IsM W v [(⟨1, 1, 6, (-1)⟩ : Mem)])), some (.inr (fun v W => IsL W v [(⟨1, 1, 6, (-1)⟩ : Mem)] ([] : List ID))), some (.inl (memV ⟨2, 1, 2, 0⟩)), some (.inl (memV ⟨1, 1, 2, 0⟩)), some (.inr (fun v W => IsM W v [(⟨2, 1, 2, 0⟩ : Mem), (⟨1, 1, 2, 0⟩ : Mem)])), some (.inr (fun v W => IsL W v [(⟨2, 1, 2, 0⟩ : Mem), (⟨1, 1, 2, 0⟩ : Mem)] ([] : List ID))), some (.inl (memV ⟨1, 1, 6, 0⟩)), some (.inl (memV ⟨1, 2, 2, 0⟩)), some (.inr (fun v W => IsM W v [(⟨1, 1, 6, 0⟩ : Mem), (⟨1, 2, 2, 0⟩ : Mem)])), some (.inr (fun v W => IsL W v [(⟨1, 1, 6, 0⟩ : Mem), (⟨1, 2, 2, 0⟩ : Mem)] ([] : List ID))), some (.inl (memV ⟨0, 1, 2, 0⟩)), some (.inr (fun v W => IsM W v [(⟨0, 1, 2, 0⟩ : Mem)])), some (.inr (fun v W => IsL W v [(⟨0, 1, 2, 0⟩ : Mem)] ([] : List ID))), none, none, some (.inr (fun v W => IsF W v ([(2, 1), (1, 1)] : List ID))), some (.inr (fun v W => IsL W v [] ([(2, 1), (1, 1)] : List ID))), none, none, some (.inr (fun v W => IsF W v ([(2, 1), (2, 2)] : List ID))), some (.inr (fun v W => IsL W v [] ([(2, 1), (2, 2)] : List ID))), none, some (.inr (fun v W => IsF W v ([(2, 0)] : List ID))), some (.inr (fun v W => IsL W v [] ([(2, 0)] : List ID))), some (.inl (memV ⟨1, 1, 2, 0⟩)), some (.inr (fun v W => IsM W v [(⟨1, 1, 2, 0⟩ : Mem)])), some (.inr (fun v W => IsF W v ([(1, 1)] : List ID))), some (.inr (fun v W => IsL W v [(⟨1, 1, 2, 0⟩ : Mem)] ([(1, 1)] : List ID))), some (.inr (fun v W => IsLv W v [([(⟨1, 1, 1, 1⟩ : Mem)], ([] : List ID)), ([(⟨1, 1, 3, 0⟩ : Mem)], ([] : List ID)), ([(⟨1, 1, 3, 1099511627777⟩ : Mem)], ([] : List ID)), ([(⟨1, 1, 7, 0⟩ : Mem)], ([] : List ID)), ([(⟨1, 1, 0, 0⟩ : Mem)], ([] : List ID)), ([(⟨1, 1, 6, (-1)⟩ : Mem)], ([] : List ID)), ([(⟨2, 1, 2, 0⟩ : Mem), (⟨1, 1, 2, 0⟩ : Mem)], ([] : List ID)), ([(⟨1, 1, 6, 0⟩ : Mem), (⟨1, 2, 2, 0⟩ : Mem)], ([] : List ID)), ([(⟨0, 1, 2, 0⟩ : Mem)], ([] : List ID)), ([], ([(2, 1), (1, 1)] : List ID)), ([], ([(2, 1), (2, 2)] : List ID)), ([], ([(2, 0)] : List ID)), ([(⟨1, 1, 2, 0⟩ : Mem)], ([(1, 1)] : List ID))]))]) ?_
  simp only [List.take, List.drop]
  refine kAll_dn _ (fun W hW hF => kStep_of fun K Q hK => ?_) (fun K hK => ?_)
  · go_simp
    refine (one_any 1 1 1 1 W).mono ?_
    rintro e w' ⟨rfl, hk⟩
    exact hK _ _ hk rfl
  go_simp
  generalize hZ : (Act.mk _ _) = Z
  refine hK Z ?_
  subst hZ
  clear hK K
  refine kAll_tn _ (fun v W W' hk h => h.keep0 hk) (fun W hW hF => kStep_of fun K Q hK => ?_) (fun u0 K hK => ?_)
  · go_simp
    exact hK _ _ ((Keep.refl _ _).alloc _) ⟨_, _, _, rfl, rfl, RdK.of_blk (Blk.new _ _ _) 1 4 rfl⟩
  go_simp
  generalize hZ : (Act.mk _ _) = Z
  refine hK Z ?_
  subst hZ
  clear hK K
  refine kAll_tn _ (fun v W W' hk h => h.keep0 hk) (fun W hW hF => kStep_of fun K Q hK => ?_) (fun u1 K hK => ?_)
  · have h0 : (fun v W => IsM W v [(⟨1, 1, 1, 1⟩ : Mem)]) u0 W := kHas_at hF 0 rfl (by kernel_rfl)
    go_simp
    refine (of_any _ [(⟨1, 1, 1, 1⟩ : Mem)] W h0).mono ?_
    rintro e w' ⟨u, rfl, hu, hk⟩
    exact hK _ _ hk hu
  go_simp
  generalize hZ : (Act.mk _ _) = Z
  refine hK Z ?_
  subst hZ
  clear hK K
  refine kAll_dn _ (fun W hW hF => kStep_of fun K Q hK => ?_) (fun K hK => ?_)
  · go_simp
    refine (one_any 1 1 3 0 W).mono ?_
    rintro e w' ⟨rfl, hk⟩
    exact hK _ _ hk rfl
  go_simp
  generalize hZ : (Act.mk _ _) = Z
  refine hK Z ?_
  subst hZ
  clear hK K
  refine kAll_tn _ (fun v W W' hk h => h.keep0 hk) (fun W hW hF => kStep_of fun K Q hK => ?_) (fun u2 K hK => ?_)
  · go_simp
    exact hK _ _ ((Keep.refl _ _).alloc _) ⟨_, _, _, rfl, rfl, RdK.of_blk (Blk.new _ _ _) 1 4 rfl⟩
  go_simp
  generalize hZ : (Act.mk _ _) = Z
  refine hK Z ?_
  subst hZ
  clear hK K
  refine kAll_tn _ (fun v W W' hk h => h.keep0 hk) (fun W hW hF => kStep_of fun K Q hK => ?_) (fun u3 K hK => ?_)
  · have h0 : (fun v W => IsM W v [(⟨1, 1, 3, 0⟩ : Mem)]) u2 W := kHas_at hF 0 rfl (by kernel_rfl)
    go_simp
    refine (of_any _ [(⟨1, 1, 3, 0⟩ : Mem)] W h0).mono ?_
    rintro e w' ⟨u, rfl, hu, hk⟩
    exact hK _ _ hk hu
  go_simp
  generalize hZ : (Act.mk _ _) = Z
  refine hK Z ?_
  subst hZ
  clear hK K
  refine kAll_dn _ (fun W hW hF => kStep_of fun K Q hK => ?_) (fun K hK => ?_)
  · go_simp
    refine (one_any 1 1 3 1099511627777 W).mono ?_
    rintro e w' ⟨rfl, hk⟩
    exact hK _ _ hk rfl
  go_simp
  generalize hZ : (Act.mk _ _) = Z
  refine hK Z ?_
  subst hZ
  clear hK K
  refine kAll_tn _ (fun v W W' hk h => h.keep0 hk) (fun W hW hF => kStep_of fun K Q hK => ?_) (fun u4 K hK => ?_)
  · go_simp
    exact hK _ _ ((Keep.refl _ _).alloc _) ⟨_, _, _, rfl, rfl, RdK.of_blk (Blk.new _ _ _) 1 4 rfl⟩
  go_simp
  generalize hZ : (Act.mk _ _) = Z
  refine hK Z ?_
  subst hZ
  clear hK K
  refine kAll_tn _ (fun v W W' hk h => h.keep0 hk) (fun W hW hF => kStep_of fun K Q hK => ?_) (fun u5 K hK => ?_)
  · have h0 : (fun v W => IsM W v [(⟨1, 1, 3, 1099511627777⟩ : Mem)]) u4 W := kHas_at hF 0 rfl (by kernel_rfl)
    go_simp
    refine (of_any _ [(⟨1, 1, 3, 1099511627777⟩ : Mem)] W h0).mono ?_
    rintro e w' ⟨u, rfl, hu, hk⟩
    exact hK _ _ hk hu
  go_simp
  generalize hZ : (Act.mk _ _) = Z
  refine hK Z ?_
  subst hZ
  clear hK K
  refine kAll_dn _ (fun W hW hF => kStep_of fun K Q hK => ?_) (fun K hK => ?_)
  · go_simp
    refine (one_any 1 1 7 0 W).mono ?_
    rintro e w' ⟨rfl, hk⟩
    exact hK _ _ hk rfl
  go_simp
  generalize hZ : (Act.mk _ _) = Z
  refine hK Z ?_
  subst hZ
  clear hK K
  refine kAll_tn _ (fun v W W' hk h => h.keep0 hk) (fun W hW hF => kStep_of fun K Q hK => ?_) (fun u6 K hK => ?_)
  · go_simp
    exact hK _ _ ((Keep.refl _ _).alloc _) ⟨_, _, _, rfl, rfl, RdK.of_blk (Blk.new _ _ _) 1 4 rfl⟩
  go_simp
  generalize hZ : (Act.mk _ _) = Z
  refine hK Z ?_
  subst hZ
  clear hK K
  refine kAll_tn _ (fun v W W' hk h => h.keep0 hk) (fun W hW hF => kStep_of fun K Q hK => ?_) (fun u7 K hK => ?_)
  · have h0 : (fun v W => IsM W v [(⟨1, 1, 7, 0⟩ : Mem)]) u6 W := kHas_at hF 0 rfl (by kernel_rfl)
    go_simp
    refine (of_any _ [(⟨1, 1, 7, 0⟩ : Mem)] W h0).mono ?_
    rintro e w' ⟨u, rfl, hu, hk⟩
    exact hK _ _ hk hu
  go_simp
  generalize hZ : (Act.mk _ _) = Z
  refine hK Z ?_
  subst hZ
  clear hK K
  refine kAll_dn _ (fun W hW hF => kStep_of fun K Q hK => ?_) (fun K hK => ?_)
  · go_simp
    refine (one_any 1 1 0 0 W).mono ?_
    rintro e w' ⟨rfl, hk⟩
    exact hK _ _ hk rfl
  go_simp
  generalize hZ : (Act.mk _ _) = Z
  refine hK Z ?_
  subst hZ
  clear hK K
  refine kAll_tn _ (fun v W W' hk h => h.keep0 hk) (fun W hW hF => kStep_of fun K Q hK => ?_) (fun u8 K hK => ?_)
  · go_simp
    exact hK _ _ ((Keep.refl _ _).alloc _) ⟨_, _, _, rfl, rfl, RdK.of_blk (Blk.new _ _ _) 1 4 rfl⟩
  go_simp
  generalize hZ : (Act.mk _ _) = Z
  refine hK Z ?_
  subst hZ
  clear hK K
  refine kAll_tn _ (fun v W W' hk h => h.keep0 hk) (fun W hW hF => kStep_of fun K Q hK => ?_) (fun u9 K hK => ?_)
  · have h0 : (fun v W => IsM W v [(⟨1, 1, 0, 0⟩ : Mem)]) u8 W := kHas_at hF 0 rfl (by kernel_rfl)
    go_simp
    refine (of_any _ [(⟨1, 1, 0, 0⟩ : Mem)] W h0).mono ?_
    rintro e w' ⟨u, rfl, hu, hk⟩
    exact hK _ _ hk hu
  go_simp
  generalize hZ : (Act.mk _ _) = Z
  refine hK Z ?_
  subst hZ
  clear hK K
  refine kAll_dn _ (fun W hW hF => kStep_of fun K Q hK => ?_) (fun K hK => ?_)
  · go_simp
    refine (one_any 1 1 6 (-1) W).mono ?_
    rintro e w' ⟨rfl, hk⟩
    exact hK _ _ hk rfl
  go_simp
  generalize hZ : (Act.mk _ _) = Z
  refine hK Z ?_
  subst hZ
  clear hK K
  refine kAll_tn _ (fun v W W' hk h => h.keep0 hk) (fun W hW hF => kStep_of fun K Q hK => ?_) (fun u10 K hK => ?_)
  · go_simp
    exact hK _ _ ((Keep.refl _ _).alloc _) ⟨_, _, _, rfl, rfl, RdK.of_blk (Blk.new _ _ _) 1 4 rfl⟩
  go_simp
  generalize hZ : (Act.mk _ _) = Z
  refine hK Z ?_
  subst hZ
  clear hK K
  refine kAll_tn _ (fun v W W' hk h => h.keep0 hk) (fun W hW hF => kStep_of fun K Q hK => ?_) (fun u11 K hK => ?_)
  · have h0 : (fun v W => IsM W v [(⟨1, 1, 6, (-1)⟩ : Mem)]) u10 W := kHas_at hF 0 rfl (by kernel_rfl)
    go_simp
    refine (of_any _ [(⟨1, 1, 6, (-1)⟩ : Mem)] W h0).mono ?_
    rintro e w' ⟨u, rfl, hu, hk⟩
    exact hK _ _ hk hu
  go_simp
  generalize hZ : (Act.mk _ _) = Z
  refine hK Z ?_
  subst hZ
  clear hK K
  refine kAll_dn _ (fun W hW hF => kStep_of fun K Q hK => ?_) (fun K hK => ?_)
  · go_simp
    refine (one_any 2 1 2 0 W).mono ?_
    rintro e w' ⟨rfl, hk⟩
    exact hK _ _ hk rfl
  go_simp
  generalize hZ : (Act.mk _ _) = Z
  refine hK Z ?_
  subst hZ
  clear hK K
  refine kAll_dn _ (fun W hW hF => kStep_of fun K Q hK => ?_) (fun K hK => ?_)
  · go_simp
    refine (one_any 1 1 2 0 W).mono ?_
    rintro e w' ⟨rfl, hk⟩
    exact hK _ _ hk rfl
  go_simp
  generalize hZ : (Act.mk _ _) = Z
  refine hK Z ?_
  subst hZ
  clear hK K
  refine kAll_tn _ (fun v W W' hk h => h.keep0 hk) (fun W hW hF => kStep_of fun K Q hK => ?_) (fun u12 K hK => ?_)
  · go_simp
    exact hK _ _ ((Keep.refl _ _).alloc _) ⟨_, _, _, rfl, rfl, RdK.of_blk (Blk.new _ _ _) 2 4 rfl⟩
  go_simp
  generalize hZ : (Act.mk _ _) = Z
  refine hK Z ?_
  subst hZ
  clear hK K
  refine kAll_tn _ (fun v W W' hk h => h.keep0 hk) (fun W hW hF => kStep_of fun K Q hK => ?_) (fun u13 K hK => ?_)
  · have h0 : (fun v W => IsM W v [(⟨2, 1, 2, 0⟩ : Mem), (⟨1, 1, 2, 0⟩ : Mem)]) u12 W := kHas_at hF 0 rfl (by kernel_rfl)
    go_simp
    refine (of_any _ [(⟨2, 1, 2, 0⟩ : Mem), (⟨1, 1, 2, 0⟩ : Mem)] W h0).mono ?_
    rintro e w' ⟨u, rfl, hu, hk⟩
    exact hK _ _ hk hu
  go_simp
  generalize hZ : (Act.mk _ _) = Z
  refine hK Z ?_
  subst hZ
  clear hK K
  refine kAll_dn _ (fun W hW hF => kStep_of fun K Q hK => ?_) (fun K hK => ?_)
  · go_simp
    refine (one_any 1 1 6 0 W).mono ?_
    rintro e w' ⟨rfl, hk⟩
    exact hK _ _ hk rfl
  go_simp
  generalize hZ : (Act.mk _ _) = Z
  refine hK Z ?_
  subst hZ
  clear hK K
  refine kAll_dn _ (fun W hW hF => kStep_of fun K Q hK => ?_) (fun K hK => ?_)
  · go_simp
    refine (one_any 1 2 2 0 W).mono ?_
    rintro e w' ⟨rfl, hk⟩
    exact hK _ _ hk rfl
  go_simp
  generalize hZ : (Act.mk _ _) = Z
  refine hK Z ?_
  subst hZ
  clear hK K
  refine kAll_tn _ (fun v W W' hk h => h.keep0 hk) (fun W hW hF => kStep_of fun K Q hK => ?_) (fun u14 K hK => ?_)
  · go_simp
    exact hK _ _ ((Keep.refl _ _).alloc _) ⟨_, _, _, rfl, rfl, RdK.of_blk (Blk.new _ _ _) 2 4 rfl⟩
  go_simp
  generalize hZ : (Act.mk _ _) = Z
  refine hK Z ?_
  subst hZ
  clear hK K
  refine kAll_tn _ (fun v W W' hk h => h.keep0 hk) (fun W hW hF => kStep_of fun K Q hK => ?_) (fun u15 K hK => ?_)
  · have h0 : (fun v W => IsM W v [(⟨1, 1, 6, 0⟩ : Mem), (⟨1, 2, 2, 0⟩ : Mem)]) u14 W := kHas_at hF 0 rfl (by kernel_rfl)
    go_simp
    refine (of_any _ [(⟨1, 1, 6, 0⟩ : Mem), (⟨1, 2, 2, 0⟩ : Mem)] W h0).mono ?_
    rintro e w' ⟨u, rfl, hu, hk⟩
    exact hK _ _ hk hu
  go_simp
  generalize hZ : (Act.mk _ _) = Z
  refine hK Z ?_
  subst hZ
  clear hK K
  refine kAll_dn _ (fun W hW hF => kStep_of fun K Q hK => ?_) (fun K hK => ?_)
  · go_simp
    refine (one_any 0 1 2 0 W).mono ?_
    rintro e w' ⟨rfl, hk⟩
    exact hK _ _ hk rfl
  go_simp
  generalize hZ : (Act.mk _ _) = Z
  refine hK Z ?_
  subst hZ
  clear hK K
  refine kAll_tn _ (fun v W W' hk h => h.keep0 hk) (fun W hW hF => kStep_of fun K Q hK => ?_) (fun u16 K hK => ?_)
  · go_simp
    exact hK _ _ ((Keep.refl _ _).alloc _) ⟨_, _, _, rfl, rfl, RdK.of_blk (Blk.new _ _ _) 1 4 rfl⟩
  go_simp
  generalize hZ : (Act.mk _ _) = Z
  refine hK Z ?_
  subst hZ
  clear hK K
  refine kAll_tn _ (fun v W W' hk h => h.keep0 hk) (fun W hW hF => kStep_of fun K Q hK => ?_) (fun u17 K hK => ?_)
  · have h0 : (fun v W => IsM W v [(⟨0, 1, 2, 0⟩ : Mem)]) u16 W := kHas_at hF 0 rfl (by kernel_rfl)
    go_simp
    refine (of_any _ [(⟨0, 1, 2, 0⟩ : Mem)] W h0).mono ?_
    rintro e w' ⟨u, rfl, hu, hk⟩
    exact hK _ _ hk hu
  go_simp
  generalize hZ : (Act.mk _ _) = Z
  refine hK Z ?_
  subst hZ
  clear hK K
  refine kAll_p (fun K hK => ?_)
  go_simp
  generalize hZ : (Act.mk _ _) = Z
  refine hK Z ?_
  subst hZ
  clear hK K
  refine kAll_p (fun K hK => ?_)
  go_simp
  generalize hZ : (Act.mk _ _) = Z
  refine hK Z ?_
  subst hZ
  clear hK K
  refine kAll_tn _ (fun v W W' hk h => h.keep0 hk) (fun W hW hF => kStep_of fun K Q hK => ?_) (fun u18 K hK => ?_)
  · go_simp
    exact hK _ _ ((Keep.refl _ _).alloc _) ⟨_, _, _, rfl, rfl, RdK.of_blk (Blk.new _ _ _) 2 2 rfl⟩
  go_simp
  generalize hZ : (Act.mk _ _) = Z
  refine hK Z ?_
  subst hZ
  clear hK K
  refine kAll_tn _ (fun v W W' hk h => h.keep0 hk) (fun W hW hF => kStep_of fun K Q hK => ?_) (fun u19 K hK => ?_)
  · obtain ⟨A1, n1, c1, rfl, hf⟩ := (show IsF W u18 ([(2, 1), (1, 1)] : List ID) from kHas_at hF 0 rfl (by kernel_rfl))
    go_simp
    exact hK _ _ (Keep.refl _ _) ⟨_, _, _, _, _, _, rfl, RdMem.nil_ _, hf⟩
  go_simp
  generalize hZ : (Act.mk _ _) = Z
  refine hK Z ?_
  subst hZ
  clear hK K
  refine kAll_p (fun K hK => ?_)
  go_simp
  generalize hZ : (Act.mk _ _) = Z
  refine hK Z ?_
  subst hZ
  clear hK K
  refine kAll_p (fun K hK => ?_)
  go_simp
  generalize hZ : (Act.mk _ _) = Z
  refine hK Z ?_
  subst hZ
  clear hK K
  refine kAll_tn _ (fun v W W' hk h => h.keep0 hk) (fun W hW hF => kStep_of fun K Q hK => ?_) (fun u20 K hK => ?_)
  · go_simp
    exact hK _ _ ((Keep.refl _ _).alloc _) ⟨_, _, _, rfl, rfl, RdK.of_blk (Blk.new _ _ _) 2 2 rfl⟩
  go_simp
  generalize hZ : (Act.mk _ _) = Z
  refine hK Z ?_
  subst hZ
  clear hK K
  refine kAll_tn _ (fun v W W' hk h => h.keep0 hk) (fun W hW hF => kStep_of fun K Q hK => ?_) (fun u21 K hK => ?_)
  · obtain ⟨A1, n1, c1, rfl, hf⟩ := (show IsF W u20 ([(2, 1), (2, 2)] : List ID) from kHas_at hF 0 rfl (by kernel_rfl))
    go_simp
    exact hK _ _ (Keep.refl _ _) ⟨_, _, _, _, _, _, rfl, RdMem.nil_ _, hf⟩
  go_simp
  generalize hZ : (Act.mk _ _) = Z
  refine hK Z ?_
  subst hZ
  clear hK K
  refine kAll_p (fun K hK => ?_)
  go_simp
  generalize hZ : (Act.mk _ _) = Z
  refine hK Z ?_
  subst hZ
  clear hK K
  refine kAll_tn _ (fun v W W' hk h => h.keep0 hk) (fun W hW hF => kStep_of fun K Q hK => ?_) (fun u22 K hK => ?_)
  · go_simp
    exact hK _ _ ((Keep.refl _ _).alloc _) ⟨_, _, _, rfl, rfl, RdK.of_blk (Blk.new _ _ _) 1 2 rfl⟩
  go_simp
  generalize hZ : (Act.mk _ _) = Z
  refine hK Z ?_
  subst hZ
  clear hK K
  refine kAll_tn _ (fun v W W' hk h => h.keep0 hk) (fun W hW hF => kStep_of fun K Q hK => ?_) (fun u23 K hK => ?_)
  · obtain ⟨A1, n1, c1, rfl, hf⟩ := (show IsF W u22 ([(2, 0)] : List ID) from kHas_at hF 0 rfl (by kernel_rfl))
    go_simp
    exact hK _ _ (Keep.refl _ _) ⟨_, _, _, _, _, _, rfl, RdMem.nil_ _, hf⟩
  go_simp
  generalize hZ : (Act.mk _ _) = Z
  refine hK Z ?_
  subst hZ
  clear hK K
  refine kAll_dn _ (fun W hW hF => kStep_of fun K Q hK => ?_) (fun K hK => ?_)
  · go_simp
    refine (one_any 1 1 2 0 W).mono ?_
    rintro e w' ⟨rfl, hk⟩
    exact hK _ _ hk rfl
  go_simp
  generalize hZ : (Act.mk _ _) = Z
  refine hK Z ?_
  subst hZ
  clear hK K
  refine kAll_tn _ (fun v W W' hk h => h.keep0 hk) (fun W hW hF => kStep_of fun K Q hK => ?_) (fun u24 K hK => ?_)
  · go_simp
    exact hK _ _ ((Keep.refl _ _).alloc _) ⟨_, _, _, rfl, rfl, RdK.of_blk (Blk.new _ _ _) 1 4 rfl⟩
  go_simp
  generalize hZ : (Act.mk _ _) = Z
  refine hK Z ?_
  subst hZ
  clear hK K
  refine kAll_tn _ (fun v W W' hk h => h.keep0 hk) (fun W hW hF => kStep_of fun K Q hK => ?_) (fun u25 K hK => ?_)
  · go_simp
    refine (low_any 1 1 W).mono ?_
    rintro e w' ⟨u, rfl, hu, hk⟩
    exact hK _ _ hk hu
  go_simp
  generalize hZ : (Act.mk _ _) = Z
  refine hK Z ?_
  subst hZ
  clear hK K
  refine kAll_tn _ (fun v W W' hk h => h.keep0 hk) (fun W hW hF => kStep_of fun K Q hK => ?_) (fun u26 K hK => ?_)
  · obtain ⟨A0, n0, c0, rfl, hm⟩ := (show IsM W u24 [(⟨1, 1, 2, 0⟩ : Mem)] from kHas_at hF 1 rfl (by kernel_rfl))
    obtain ⟨A1, n1, c1, rfl, hf⟩ := (show IsF W u25 ([(1, 1)] : List ID) from kHas_at hF 0 rfl (by kernel_rfl))
    go_simp
    exact hK _ _ (Keep.refl _ _) ⟨_, _, _, _, _, _, rfl, hm, hf⟩
  go_simp
  generalize hZ : (Act.mk _ _) = Z
  refine hK Z ?_
  subst hZ
  clear hK K
  refine kAll_tn _ (fun v W W' hk h => h.keep0 hk) (fun W hW hF => kStep_of fun K Q hK => ?_) (fun u27 K hK => ?_)
  · obtain ⟨A0, n0, c0, B0, m0, d0, rfl, p0, q0⟩ := (show IsL W u1 [(⟨1, 1, 1, 1⟩ : Mem)] ([] : List ID) from kHas_at hF 25 rfl (by kernel_rfl))
    obtain ⟨A1, n1, c1, B1, m1, d1, rfl, p1, q1⟩ := (show IsL W u3 [(⟨1, 1, 3, 0⟩ : Mem)] ([] : List ID) from kHas_at hF 23 rfl (by kernel_rfl))
    obtain ⟨A2, n2, c2, B2, m2, d2, rfl, p2, q2⟩ := (show IsL W u5 [(⟨1, 1, 3, 1099511627777⟩ : Mem)] ([] : List ID) from kHas_at hF 21 rfl (by kernel_rfl))
    obtain ⟨A3, n3, c3, B3, m3, d3, rfl, p3, q3⟩ := (show IsL W u7 [(⟨1, 1, 7, 0⟩ : Mem)] ([] : List ID) from kHas_at hF 19 rfl (by kernel_rfl))
    obtain ⟨A4, n4, c4, B4, m4, d4, rfl, p4, q4⟩ := (show IsL W u9 [(⟨1, 1, 0, 0⟩ : Mem)] ([] : List ID) from kHas_at hF 17 rfl (by kernel_rfl))
    obtain ⟨A5, n5, c5, B5, m5, d5, rfl, p5, q5⟩ := (show IsL W u11 [(⟨1, 1, 6, (-1)⟩ : Mem)] ([] : List ID) from kHas_at hF 15 rfl (by kernel_rfl))
    obtain ⟨A6, n6, c6, B6, m6, d6, rfl, p6, q6⟩ := (show IsL W u13 [(⟨2, 1, 2, 0⟩ : Mem), (⟨1, 1, 2, 0⟩ : Mem)] ([] : List ID) from kHas_at hF 13 rfl (by kernel_rfl))
    obtain ⟨A7, n7, c7, B7, m7, d7, rfl, p7, q7⟩ := (show IsL W u15 [(⟨1, 1, 6, 0⟩ : Mem), (⟨1, 2, 2, 0⟩ : Mem)] ([] : List ID) from kHas_at hF 11 rfl (by kernel_rfl))
    obtain ⟨A8, n8, c8, B8, m8, d8, rfl, p8, q8⟩ := (show IsL W u17 [(⟨0, 1, 2, 0⟩ : Mem)] ([] : List ID) from kHas_at hF 9 rfl (by kernel_rfl))
    obtain ⟨A9, n9, c9, B9, m9, d9, rfl, p9, q9⟩ := (show IsL W u19 [] ([(2, 1), (1, 1)] : List ID) from kHas_at hF 7 rfl (by kernel_rfl))
    obtain ⟨A10, n10, c10, B10, m10, d10, rfl, p10, q10⟩ := (show IsL W u21 [] ([(2, 1), (2, 2)] : List ID) from kHas_at hF 5 rfl (by kernel_rfl))
    obtain ⟨A11, n11, c11, B11, m11, d11, rfl, p11, q11⟩ := (show IsL W u23 [] ([(2, 0)] : List ID) from kHas_at hF 3 rfl (by kernel_rfl))
    obtain ⟨A12, n12, c12, B12, m12, d12, rfl, p12, q12⟩ := (show IsL W u26 [(⟨1, 1, 2, 0⟩ : Mem)] ([(1, 1)] : List ID) from kHas_at hF 0 rfl (by kernel_rfl))
    go_simp
    refine hK _ _ ((Keep.refl _ _).alloc _) ?_
    have hk := (Keep.refl (fun _ => False) W).alloc (.cells #[.slice A0 n0 c0, .slice B0 m0 d0, .slice A1 n1 c1, .slice B1 m1 d1, .slice A2 n2 c2, .slice B2 m2 d2, .slice A3 n3 c3, .slice B3 m3 d3, .slice A4 n4 c4, .slice B4 m4 d4, .slice A5 n5 c5, .slice B5 m5 d5, .slice A6 n6 c6, .slice B6 m6 d6, .slice A7 n7 c7, .slice B7 m7 d7, .slice A8 n8 c8, .slice B8 m8 d8, .slice A9 n9 c9, .slice B9 m9 d9, .slice A10 n10 c10, .slice B10 m10 d10, .slice A11 n11 c11, .slice B11 m11 d11, .slice A12 n12 c12, .slice B12 m12 d12] 25)
    refine ⟨_, _, _, rfl, isLs_cells (l := [([(⟨1, 1, 1, 1⟩ : Mem)], ([] : List ID)), ([(⟨1, 1, 3, 0⟩ : Mem)], ([] : List ID)), ([(⟨1, 1, 3, 1099511627777⟩ : Mem)], ([] : List ID)), ([(⟨1, 1, 7, 0⟩ : Mem)], ([] : List ID)), ([(⟨1, 1, 0, 0⟩ : Mem)], ([] : List ID)), ([(⟨1, 1, 6, (-1)⟩ : Mem)], ([] : List ID)), ([(⟨2, 1, 2, 0⟩ : Mem), (⟨1, 1, 2, 0⟩ : Mem)], ([] : List ID)), ([(⟨1, 1, 6, 0⟩ : Mem), (⟨1, 2, 2, 0⟩ : Mem)], ([] : List ID)), ([(⟨0, 1, 2, 0⟩ : Mem)], ([] : List ID)), ([], ([(2, 1), (1, 1)] : List ID)), ([], ([(2, 1), (2, 2)] : List ID)), ([], ([(2, 0)] : List ID)), ([(⟨1, 1, 2, 0⟩ : Mem)], ([(1, 1)] : List ID))]) (Blk.new _ _ _) fun i hi => ?_⟩
    match i, hi with
    | 0, _ => exact ⟨A0, n0, c0, B0, m0, d0, rfl, rfl, p0.keep0 hk, q0.keep0 hk⟩
    | 1, _ => exact ⟨A1, n1, c1, B1, m1, d1, rfl, rfl, p1.keep0 hk, q1.keep0 hk⟩
    | 2, _ => exact ⟨A2, n2, c2, B2, m2, d2, rfl, rfl, p2.keep0 hk, q2.keep0 hk⟩
    | 3, _ => exact ⟨A3, n3, c3, B3, m3, d3, rfl, rfl, p3.keep0 hk, q3.keep0 hk⟩
    | 4, _ => exact ⟨A4, n4, c4, B4, m4, d4, rfl, rfl, p4.keep0 hk, q4.keep0 hk⟩
    | 5, _ => exact ⟨A5, n5, c5, B5, m5, d5, rfl, rfl, p5.keep0 hk, q5.keep0 hk⟩
    | 6, _ => exact ⟨A6, n6, c6, B6, m6, d6, rfl, rfl, p6.keep0 hk, q6.keep0 hk⟩
    | 7, _ => exact ⟨A7, n7, c7, B7, m7, d7, rfl, rfl, p7.keep0 hk, q7.keep0 hk⟩
    | 8, _ => exact ⟨A8, n8, c8, B8, m8, d8, rfl, rfl, p8.keep0 hk, q8.keep0 hk⟩
    | 9, _ => exact ⟨A9, n9, c9, B9, m9, d9, rfl, rfl, p9.keep0 hk, q9.keep0 hk⟩
    | 10, _ => exact ⟨A10, n10, c10, B10, m10, d10, rfl, rfl, p10.keep0 hk, q10.keep0 hk⟩
    | 11, _ => exact ⟨A11, n11, c11, B11, m11, d11, rfl, rfl, p11.keep0 hk, q11.keep0 hk⟩
    | 12, _ => exact ⟨A12, n12, c12, B12, m12, d12, rfl, rfl, p12.keep0 hk, q12.keep0 hk⟩
  go_simp
  generalize hZ : (Act.mk _ _) = Z
  refine hK Z ?_
  subst hZ
  clear hK K
  refine kAll_nil (fun W22 hW hF => ?_)
  have h13 : (fun v W => IsLv W v [([(⟨1, 1, 1, 1⟩ : Mem)], ([] : List ID)), ([(⟨1, 1, 3, 0⟩ : Mem)], ([] : List ID)), ([(⟨1, 1, 3, 1099511627777⟩ : Mem)], ([] : List ID)), ([(⟨1, 1, 7, 0⟩ : Mem)], ([] : List ID)), ([(⟨1, 1, 0, 0⟩ : Mem)], ([] : List ID)), ([(⟨1, 1, 6, (-1)⟩ : Mem)], ([] : List ID)), ([(⟨2, 1, 2, 0⟩ : Mem), (⟨1, 1, 2, 0⟩ : Mem)], ([] : List ID)), ([(⟨1, 1, 6, 0⟩ : Mem), (⟨1, 2, 2, 0⟩ : Mem)], ([] : List ID)), ([(⟨0, 1, 2, 0⟩ : Mem)], ([] : List ID)), ([], ([(2, 1), (1, 1)] : List ID)), ([], ([(2, 1), (2, 2)] : List ID)), ([], ([(2, 0)] : List ID)), ([(⟨1, 1, 2, 0⟩ : Mem)], ([(1, 1)] : List ID))]) u27 W22 := kAllHas_at hF 0 rfl
  obtain ⟨A13, n13, c13, e13, h13⟩ := h13
  subst e13
  have hn13 : n13 = 13 := h13.1.symm
  subst hn13
  have F13 : Hid (∀ W, Keep (fun _ => False) W22 W → IsLs W A13 13 [([(⟨1, 1, 1, 1⟩ : Mem)], ([] : List ID)), ([(⟨1, 1, 3, 0⟩ : Mem)], ([] : List ID)), ([(⟨1, 1, 3, 1099511627777⟩ : Mem)], ([] : List ID)), ([(⟨1, 1, 7, 0⟩ : Mem)], ([] : List ID)), ([(⟨1, 1, 0, 0⟩ : Mem)], ([] : List ID)), ([(⟨1, 1, 6, (-1)⟩ : Mem)], ([] : List ID)), ([(⟨2, 1, 2, 0⟩ : Mem), (⟨1, 1, 2, 0⟩ : Mem)], ([] : List ID)), ([(⟨1, 1, 6, 0⟩ : Mem), (⟨1, 2, 2, 0⟩ : Mem)], ([] : List ID)), ([(⟨0, 1, 2, 0⟩ : Mem)], ([] : List ID)), ([], ([(2, 1), (1, 1)] : List ID)), ([], ([(2, 1), (2, 2)] : List ID)), ([], ([(2, 0)] : List ID)), ([(⟨1, 1, 2, 0⟩ : Mem)], ([(1, 1)] : List ID))]) := Lib.hid fun W h => h13.keep0 h
  have HB13 : Hid (∀ k, k < 13 → mayT (([([(⟨1, 1, 1, 1⟩ : Mem)], ([] : List ID)), ([(⟨1, 1, 3, 0⟩ : Mem)], ([] : List ID)), ([(⟨1, 1, 3, 1099511627777⟩ : Mem)], ([] : List ID)), ([(⟨1, 1, 7, 0⟩ : Mem)], ([] : List ID)), ([(⟨1, 1, 0, 0⟩ : Mem)], ([] : List ID)), ([(⟨1, 1, 6, (-1)⟩ : Mem)], ([] : List ID)), ([(⟨2, 1, 2, 0⟩ : Mem), (⟨1, 1, 2, 0⟩ : Mem)], ([] : List ID)), ([(⟨1, 1, 6, 0⟩ : Mem), (⟨1, 2, 2, 0⟩ : Mem)], ([] : List ID)), ([(⟨0, 1, 2, 0⟩ : Mem)], ([] : List ID)), ([], ([(2, 1), (1, 1)] : List ID)), ([], ([(2, 1), (2, 2)] : List ID)), ([], ([(2, 0)] : List ID)), ([(⟨1, 1, 2, 0⟩ : Mem)], ([(1, 1)] : List ID))] : List LI).getD k ([], [])).1 (([([(⟨1, 1, 1, 1⟩ : Mem)], ([] : List ID)), ([(⟨1, 1, 3, 0⟩ : Mem)], ([] : List ID)), ([(⟨1, 1, 3, 1099511627777⟩ : Mem)], ([] : List ID)), ([(⟨1, 1, 7, 0⟩ : Mem)], ([] : List ID)), ([(⟨1, 1, 0, 0⟩ : Mem)], ([] : List ID)), ([(⟨1, 1, 6, (-1)⟩ : Mem)], ([] : List ID)), ([(⟨2, 1, 2, 0⟩ : Mem), (⟨1, 1, 2, 0⟩ : Mem)], ([] : List ID)), ([(⟨1, 1, 6, 0⟩ : Mem), (⟨1, 2, 2, 0⟩ : Mem)], ([] : List ID)), ([(⟨0, 1, 2, 0⟩ : Mem)], ([] : List ID)), ([], ([(2, 1), (1, 1)] : List ID)), ([], ([(2, 1), (2, 2)] : List ID)), ([], ([(2, 0)] : List ID)), ([(⟨1, 1, 2, 0⟩ : Mem)], ([(1, 1)] : List ID))] : List LI).getD k ([], [])).2 = false ∧ (([([(⟨1, 1, 1, 1⟩ : Mem)], ([] : List ID)), ([(⟨1, 1, 3, 0⟩ : Mem)], ([] : List ID)), ([(⟨1, 1, 3, 1099511627777⟩ : Mem)], ([] : List ID)), ([(⟨1, 1, 7, 0⟩ : Mem)], ([] : List ID)), ([(⟨1, 1, 0, 0⟩ : Mem)], ([] : List ID)), ([(⟨1, 1, 6, (-1)⟩ : Mem)], ([] : List ID)), ([(⟨2, 1, 2, 0⟩ : Mem), (⟨1, 1, 2, 0⟩ : Mem)], ([] : List ID)), ([(⟨1, 1, 6, 0⟩ : Mem), (⟨1, 2, 2, 0⟩ : Mem)], ([] : List ID)), ([(⟨0, 1, 2, 0⟩ : Mem)], ([] : List ID)), ([], ([(2, 1), (1, 1)] : List ID)), ([], ([(2, 1), (2, 2)] : List ID)), ([], ([(2, 0)] : List ID)), ([(⟨1, 1, 2, 0⟩ : Mem)], ([(1, 1)] : List ID))] : List LI).getD k ([], [])).1.length ≤ 100 ∧ (([([(⟨1, 1, 1, 1⟩ : Mem)], ([] : List ID)), ([(⟨1, 1, 3, 0⟩ : Mem)], ([] : List ID)), ([(⟨1, 1, 3, 1099511627777⟩ : Mem)], ([] : List ID)), ([(⟨1, 1, 7, 0⟩ : Mem)], ([] : List ID)), ([(⟨1, 1, 0, 0⟩ : Mem)], ([] : List ID)), ([(⟨1, 1, 6, (-1)⟩ : Mem)], ([] : List ID)), ([(⟨2, 1, 2, 0⟩ : Mem), (⟨1, 1, 2, 0⟩ : Mem)], ([] : List ID)), ([(⟨1, 1, 6, 0⟩ : Mem), (⟨1, 2, 2, 0⟩ : Mem)], ([] : List ID)), ([(⟨0, 1, 2, 0⟩ : Mem)], ([] : List ID)), ([], ([(2, 1), (1, 1)] : List ID)), ([], ([(2, 1), (2, 2)] : List ID)), ([], ([(2, 0)] : List ID)), ([(⟨1, 1, 2, 0⟩ : Mem)], ([(1, 1)] : List ID))] : List LI).getD k ([], [])).2.length ≤ 100) := Lib.hid (by decide +kernel)
  clear h13
  generalize [([(⟨1, 1, 1, 1⟩ : Mem)], ([] : List ID)), ([(⟨1, 1, 3, 0⟩ : Mem)], ([] : List ID)), ([(⟨1, 1, 3, 1099511627777⟩ : Mem)], ([] : List ID)), ([(⟨1, 1, 7, 0⟩ : Mem)], ([] : List ID)), ([(⟨1, 1, 0, 0⟩ : Mem)], ([] : List ID)), ([(⟨1, 1, 6, (-1)⟩ : Mem)], ([] : List ID)), ([(⟨2, 1, 2, 0⟩ : Mem), (⟨1, 1, 2, 0⟩ : Mem)], ([] : List ID)), ([(⟨1, 1, 6, 0⟩ : Mem), (⟨1, 2, 2, 0⟩ : Mem)], ([] : List ID)), ([(⟨0, 1, 2, 0⟩ : Mem)], ([] : List ID)), ([], ([(2, 1), (1, 1)] : List ID)), ([], ([(2, 1), (2, 2)] : List ID)), ([], ([(2, 0)] : List ID)), ([(⟨1, 1, 2, 0⟩ : Mem)], ([(1, 1)] : List ID))] = L13 at *
  clear hF
  have hk_23 : Keep (fun _ => False) _ W22 := hW
  have B_24 := Lib.hid (B_19.out.keep hk_23 (fun h => h))
  have F_25 := Lib.hid (fun W h => F_20.out W (keep0_trans _ _ _ hk_23 h))
  have K_26 := Lib.hid (keep0_trans _ _ _ K_21.out hk_23)
  clear hk_23 B_19 F_20 K_21
  clear hW
  go_wp2_with fail
  go_loopw [132] (fun i wr => ∃ k : Nat, k ≤ 13 ∧ i = .int .i64 (k : Int) ∧ Hid (Keep (fun _ => False) W22 wr)) (fun i _ => 13 - (intOf i).toNat)
  case atStart => exact ⟨0, by omega, rfl, Lib.hid (Keep.refl _ _)⟩
  case round =>
    obtain ⟨k, hk, rfl, HKR⟩ := hrel
    by_cases hlt : k < 13
    · have AnR := HKR
      have hk_27 : Keep (fun _ => False) _ wr := HKR.out
      have B_28 := Lib.hid (B_24.out.keep hk_27 (fun h => h))
      have F_29 := Lib.hid (fun W h => F_25.out W (keep0_trans _ _ _ hk_27 h))
      have F_30 := Lib.hid (fun W h => F13.out W (keep0_trans _ _ _ hk_27 h))
      have K_31 := Lib.hid (keep0_trans _ _ _ K_26.out hk_27)
      clear hk_27 B_24 F_25 F13 K_26
      obtain ⟨g, off, A1b, n1b, c1b, A2b, n2b, c2b, eA, hc0, hc1, hr0, hr1⟩ := (F_30.out _ (Keep.refl _ _)).2 k hlt
      obtain ⟨hb0, hb1, hb2⟩ := HB13.out k hlt
      generalize L13.getD k ([], []) = x at *
      subst eA
      have hr0' := Lib.hid (fun W h => hr0.keep0 (w' := W) h)
      have hr1' := Lib.hid (fun W h => hr1.keep0 (w' := W) h)
      have HB0 := Lib.hid hb0
      have HB1 := Lib.hid hb1
      have HB2 := Lib.hid hb2
      have hlg := World.block_lt_of_cell? wr _ hc0
      have hkI : (k : Int) < 13 := by omega
      have hkJ : (0 : Int) ≤ (k : Int) := by omega
      clear hr0 hr1 hb0 hb1 hb2
      go_upto_region 11 with (fail)
      clear hc0 hc1 hlg
      have hb_32 := Blk.new wr 25 #[.slice A1b n1b c1b, .slice A2b n2b c2b]
      have hq_34 : Keep (fun _ => False) wr (wr.alloc (.cells #[.slice A1b n1b c1b, .slice A2b n2b c2b] 25)) := (Keep.refl _ _).alloc _
      generalize hw : wr.alloc (.cells #[.slice A1b n1b c1b, .slice A2b n2b c2b] 25) = w_33 at *
      clear hw
      have B_36 := Lib.hid hb_32
      clear hb_32
      have hk_37 : Keep (fun _ => False) _ w_33 := hq_34
      have B_38 := Lib.hid (B_28.out.keep hk_37 (fun h => h))
      have F_39 := Lib.hid (fun W h => F_29.out W (keep0_trans _ _ _ hk_37 h))
      have F_40 := Lib.hid (fun W h => F_30.out W (keep0_trans _ _ _ hk_37 h))
      have F_41 := Lib.hid (fun W h => hr0'.out W (keep0_trans _ _ _ hk_37 h))
      have F_42 := Lib.hid (fun W h => hr1'.out W (keep0_trans _ _ _ hk_37 h))
      have K_43 := Lib.hid (keep0_trans _ _ _ K_31.out hk_37)
      have An_44 := Lib.hid (keep0_trans _ _ _ AnR.out hk_37)
      clear hk_37 B_28 F_29 F_30 hr0' hr1' K_31 AnR
      clear hq_34
      have y0 := B_36.out.cell 0
      have y1 := B_36.out.cell 1
      simp at y0 y1
      have ylt := B_36.out.lt
      go_wp2_with fail
      refine (rmay_is _ _ x.1 x.2 _ false ⟨_, _, _, rfl, F_41.out _ (Keep.refl _ _)⟩ ⟨_, _, _, rfl, F_42.out _ (Keep.refl _ _)⟩ (by have := HB1.out; omega) (by have := HB2.out; omega) HB0.out).mono ?_
      rintro e v9 ⟨rfl, hk9⟩
      clear y0 y1 ylt
      have hk_45 : Keep (fun _ => False) _ v9 := hk9
      have B_46 := Lib.hid (B_38.out.keep hk_45 (fun h => h))
      have B_47 := Lib.hid (B_36.out.keep hk_45 (fun h => h))
      have F_48 := Lib.hid (fun W h => F_39.out W (keep0_trans _ _ _ hk_45 h))
      have F_49 := Lib.hid (fun W h => F_40.out W (keep0_trans _ _ _ hk_45 h))
      have F_50 := Lib.hid (fun W h => F_41.out W (keep0_trans _ _ _ hk_45 h))
      have F_51 := Lib.hid (fun W h => F_42.out W (keep0_trans _ _ _ hk_45 h))
      have K_52 := Lib.hid (keep0_trans _ _ _ K_43.out hk_45)
      have An_53 := Lib.hid (keep0_trans _ _ _ An_44.out hk_45)
      clear hk_45 B_38 B_36 F_39 F_40 F_41 F_42 K_43 An_44
      clear hk9
      go_wp2
      go_roundw
      case rel => exact ⟨k + 1, by omega, by go_num, An_53⟩
      case measure => simp [intOf]; omega
    · obtain rfl : k = 13 := by omega
      have hk_54 : Keep (fun _ => False) _ wr := HKR.out
      have B_55 := Lib.hid (B_24.out.keep hk_54 (fun h => h))
      have F_56 := Lib.hid (fun W h => F_25.out W (keep0_trans _ _ _ hk_54 h))
      have F_57 := Lib.hid (fun W h => F13.out W (keep0_trans _ _ _ hk_54 h))
      have K_58 := Lib.hid (keep0_trans _ _ _ K_26.out hk_54)
      clear hk_54 B_24 F_25 F13 K_26
      go_upto_region 14 with (fail)
      refine wp_region_kord (Keep (fun _ => False)) (Keep.refl _) keep0_trans 7 (Ts := [some (.inl (memV ⟨1, 1, 2, 0⟩)), some (.inl (memV ⟨2, 1, 3, (-1)⟩)), some (.inr (fun v W => IsM W v [(⟨1, 1, 2, 0⟩ : Mem), (⟨2, 1, 3, (-1)⟩ : Mem)])), some (.inl (.tuple #[memV (⟨0, 0, 0, 0⟩ : Mem), .bool false])), none, none, none]) ?_
      simp only [List.take, List.drop]
      refine kAll_dn _ (fun W hW hF => kStep_of fun K Q hK => ?_) (fun K hK => ?_)
      · go_simp
        refine (one_any 1 1 2 0 W).mono ?_
        rintro e w' ⟨rfl, hk⟩
        exact hK _ _ hk rfl
      go_simp
      generalize hZ : (Act.mk _ _) = Z
      refine hK Z ?_
      subst hZ
      clear hK K
      refine kAll_dn _ (fun W hW hF => kStep_of fun K Q hK => ?_) (fun K hK => ?_)
      · go_simp
        refine (one_any 2 1 3 (-1) W).mono ?_
        rintro e w' ⟨rfl, hk⟩
        exact hK _ _ hk rfl
      go_simp
      generalize hZ : (Act.mk _ _) = Z
      refine hK Z ?_
      subst hZ
      clear hK K
      refine kAll_tn _ (fun v W W' hk h => h.keep0 hk) (fun W hW hF => kStep_of fun K Q hK => ?_) (fun u0 K hK => ?_)
      · go_simp
        exact hK _ _ ((Keep.refl _ _).alloc _) ⟨_, _, _, rfl, rfl, RdK.of_blk (Blk.new _ _ _) 2 4 rfl⟩
      go_simp
      generalize hZ : (Act.mk _ _) = Z
      refine hK Z ?_
      subst hZ
      clear hK K
      refine kAll_dn _ (fun W hW hF => kStep_of fun K Q hK => ?_) (fun K hK => ?_)
      · have h0 : (fun v W => IsM W v [(⟨1, 1, 2, 0⟩ : Mem), (⟨2, 1, 3, (-1)⟩ : Mem)]) u0 W := kHas_at hF 0 rfl (by kernel_rfl)
        go_simp
        refine (old_is2 _ [(⟨1, 1, 2, 0⟩ : Mem), (⟨2, 1, 3, (-1)⟩ : Mem)] W (⟨0, 0, 0, 0⟩ : Mem) false h0 (by simp) (by decide +kernel) (by decide)).mono ?_
        rintro e w' ⟨rfl, hk⟩
        exact hK _ _ hk rfl
      go_simp
      generalize hZ : (Act.mk _ _) = Z
      refine hK Z ?_
      subst hZ
      clear hK K
      refine kAll_p (fun K hK => ?_)
      go_simp
      generalize hZ : (Act.mk _ _) = Z
      refine hK Z ?_
      subst hZ
      clear hK K
      refine kAll_p (fun K hK => ?_)
      go_simp
      generalize hZ : (Act.mk _ _) = Z
      refine hK Z ?_
      subst hZ
      clear hK K
      refine kAll_p (fun K hK => ?_)
      go_simp
      generalize hZ : (Act.mk _ _) = Z
      refine hK Z ?_
      subst hZ
      clear hK K
      refine kAll_nil (fun W59 hW hF => ?_)
      clear hF
      have hk_60 : Keep (fun _ => False) _ W59 := hW
      have B_61 := Lib.hid (B_55.out.keep hk_60 (fun h => h))
      have F_62 := Lib.hid (fun W h => F_56.out W (keep0_trans _ _ _ hk_60 h))
      have F_63 := Lib.hid (fun W h => F_57.out W (keep0_trans _ _ _ hk_60 h))
      have K_64 := Lib.hid (keep0_trans _ _ _ K_58.out hk_60)
      clear hk_60 B_55 F_56 F_57 K_58
      clear hW
      go_upto_region 15 with (fail)
      have hb_65 := Blk.new W59 32 #[.int .i64 0, .int .i64 0, .int .u8 0, .int .i64 0]
      have hq_67 : Keep (fun _ => False) W59 (W59.alloc (.cells #[.int .i64 0, .int .i64 0, .int .u8 0, .int .i64 0] 32)) := (Keep.refl _ _).alloc _
      generalize hw : W59.alloc (.cells #[.int .i64 0, .int .i64 0, .int .u8 0, .int .i64 0] 32) = w_66 at *
      clear hw
      have B_69 := Lib.hid hb_65
      clear hb_65
      have hk_70 : Keep (fun _ => False) _ w_66 := hq_67
      have B_71 := Lib.hid (B_61.out.keep hk_70 (fun h => h))
      have F_72 := Lib.hid (fun W h => F_62.out W (keep0_trans _ _ _ hk_70 h))
      have F_73 := Lib.hid (fun W h => F_63.out W (keep0_trans _ _ _ hk_70 h))
      have K_74 := Lib.hid (keep0_trans _ _ _ K_64.out hk_70)
      clear hk_70 B_61 F_62 F_63 K_64
      clear hq_67
      refine wp_region_kord (Keep (fun _ => False)) (Keep.refl _) keep0_trans 8 (Ts := [some (.inl (memV ⟨3, 1, 3, 5⟩)), some (.inl (memV ⟨2, 2, 6, 5⟩)), some (.inl (memV ⟨1, 1, 3, 6⟩)), some (.inr (fun v W => IsM W v [(⟨3, 1, 3, 5⟩ : Mem), (⟨2, 2, 6, 5⟩ : Mem), (⟨1, 1, 3, 6⟩ : Mem)])), some (.inl (.tuple #[memV (⟨2, 2, 6, 5⟩ : Mem), .bool true])), none, none, none]) ?_
      simp only [List.take, List.drop]
      refine kAll_dn _ (fun W hW hF => kStep_of fun K Q hK => ?_) (fun K hK => ?_)
      · go_simp
        refine (one_any 3 1 3 5 W).mono ?_
        rintro e w' ⟨rfl, hk⟩
        exact hK _ _ hk rfl
      go_simp
      generalize hZ : (Act.mk _ _) = Z
      refine hK Z ?_
      subst hZ
      clear hK K
      refine kAll_dn _ (fun W hW hF => kStep_of fun K Q hK => ?_) (fun K hK => ?_)
      · go_simp
        refine (one_any 2 2 6 5 W).mono ?_
        rintro e w' ⟨rfl, hk⟩
        exact hK _ _ hk rfl
      go_simp
      generalize hZ : (Act.mk _ _) = Z
      refine hK Z ?_
      subst hZ
      clear hK K
      refine kAll_dn _ (fun W hW hF => kStep_of fun K Q hK => ?_) (fun K hK => ?_)
      · go_simp
        refine (one_any 1 1 3 6 W).mono ?_
        rintro e w' ⟨rfl, hk⟩
        exact hK _ _ hk rfl
      go_simp
      generalize hZ : (Act.mk _ _) = Z
      refine hK Z ?_
      subst hZ
      clear hK K
      refine kAll_tn _ (fun v W W' hk h => h.keep0 hk) (fun W hW hF => kStep_of fun K Q hK => ?_) (fun u0 K hK => ?_)
      · go_simp
        exact hK _ _ ((Keep.refl _ _).alloc _) ⟨_, _, _, rfl, rfl, RdK.of_blk (Blk.new _ _ _) 3 4 rfl⟩
      go_simp
      generalize hZ : (Act.mk _ _) = Z
      refine hK Z ?_
      subst hZ
      clear hK K
      refine kAll_dn _ (fun W hW hF => kStep_of fun K Q hK => ?_) (fun K hK => ?_)
      · have h0 : (fun v W => IsM W v [(⟨3, 1, 3, 5⟩ : Mem), (⟨2, 2, 6, 5⟩ : Mem), (⟨1, 1, 3, 6⟩ : Mem)]) u0 W := kHas_at hF 0 rfl (by kernel_rfl)
        go_simp
        refine (old_is2 _ [(⟨3, 1, 3, 5⟩ : Mem), (⟨2, 2, 6, 5⟩ : Mem), (⟨1, 1, 3, 6⟩ : Mem)] W (⟨2, 2, 6, 5⟩ : Mem) true h0 (by simp) (by decide +kernel) (by decide)).mono ?_
        rintro e w' ⟨rfl, hk⟩
        exact hK _ _ hk rfl
      go_simp
      generalize hZ : (Act.mk _ _) = Z
      refine hK Z ?_
      subst hZ
      clear hK K
      refine kAll_p (fun K hK => ?_)
      go_simp
      generalize hZ : (Act.mk _ _) = Z
      refine hK Z ?_
      subst hZ
      clear hK K
      refine kAll_p (fun K hK => ?_)
      go_simp
      generalize hZ : (Act.mk _ _) = Z
      refine hK Z ?_
      subst hZ
      clear hK K
      refine kAll_p (fun K hK => ?_)
      go_simp
      generalize hZ : (Act.mk _ _) = Z
      refine hK Z ?_
      subst hZ
      clear hK K
      refine kAll_nil (fun W75 hW hF => ?_)
      clear hF
      have hk_76 : Keep (fun _ => False) _ W75 := hW
      have B_77 := Lib.hid (B_71.out.keep hk_76 (fun h => h))
      have B_78 := Lib.hid (B_69.out.keep hk_76 (fun h => h))
      have F_79 := Lib.hid (fun W h => F_72.out W (keep0_trans _ _ _ hk_76 h))
      have F_80 := Lib.hid (fun W h => F_73.out W (keep0_trans _ _ _ hk_76 h))
      have K_81 := Lib.hid (keep0_trans _ _ _ K_74.out hk_76)
      clear hk_76 B_71 B_69 F_72 F_73 K_74
      clear hW
      go_upto_region 16 with (fail)
      have hb_82 := Blk.new W75 32 #[.int .i64 2, .int .i64 2, .int .u8 6, .int .i64 5]
      have hq_84 : Keep (fun _ => False) W75 (W75.alloc (.cells #[.int .i64 2, .int .i64 2, .int .u8 6, .int .i64 5] 32)) := (Keep.refl _ _).alloc _
      generalize hw : W75.alloc (.cells #[.int .i64 2, .int .i64 2, .int .u8 6, .int .i64 5] 32) = w_83 at *
      clear hw
      have B_86 := Lib.hid hb_82
      clear hb_82
      have hk_87 : Keep (fun _ => False) _ w_83 := hq_84
      have B_88 := Lib.hid (B_77.out.keep hk_87 (fun h => h))
      have B_89 := Lib.hid (B_78.out.keep hk_87 (fun h => h))
      have F_90 := Lib.hid (fun W h => F_79.out W (keep0_trans _ _ _ hk_87 h))
      have F_91 := Lib.hid (fun W h => F_80.out W (keep0_trans _ _ _ hk_87 h))
      have K_92 := Lib.hid (keep0_trans _ _ _ K_81.out hk_87)
      clear hk_87 B_77 B_78 F_79 F_80 K_81
      clear hq_84
      refine wp_region_kord (Keep (fun _ => False)) (Keep.refl _) keep0_trans 8 (Ts := [some (.inl (memV ⟨3, 1, 3, 5⟩)), some (.inl (memV ⟨3, 4, 2, 0⟩)), some (.inl (memV ⟨3, 2, 3, 1⟩)), some (.inr (fun v W => IsM W v [(⟨3, 1, 3, 5⟩ : Mem), (⟨3, 4, 2, 0⟩ : Mem), (⟨3, 2, 3, 1⟩ : Mem)])), some (.inl (.tuple #[memV (⟨3, 4, 2, 0⟩ : Mem), .bool true])), none, none, none]) ?_
      simp only [List.take, List.drop]
      refine kAll_dn _ (fun W hW hF => kStep_of fun K Q hK => ?_) (fun K hK => ?_)
      · go_simp
        refine (one_any 3 1 3 5 W).mono ?_
        rintro e w' ⟨rfl, hk⟩
        exact hK _ _ hk rfl
      go_simp
      generalize hZ : (Act.mk _ _) = Z
      refine hK Z ?_
      subst hZ
      clear hK K
      refine kAll_dn _ (fun W hW hF => kStep_of fun K Q hK => ?_) (fun K hK => ?_)
      · go_simp
        refine (one_any 3 4 2 0 W).mono ?_
        rintro e w' ⟨rfl, hk⟩
        exact hK _ _ hk rfl
      go_simp
      generalize hZ : (Act.mk _ _) = Z
      refine hK Z ?_
      subst hZ
      clear hK K
      refine kAll_dn _ (fun W hW hF => kStep_of fun K Q hK => ?_) (fun K hK => ?_)
      · go_simp
        refine (one_any 3 2 3 1 W).mono ?_
        rintro e w' ⟨rfl, hk⟩
        exact hK _ _ hk rfl
      go_simp
      generalize hZ : (Act.mk _ _) = Z
      refine hK Z ?_
      subst hZ
      clear hK K
      refine kAll_tn _ (fun v W W' hk h => h.keep0 hk) (fun W hW hF => kStep_of fun K Q hK => ?_) (fun u0 K hK => ?_)
      · go_simp
        exact hK _ _ ((Keep.refl _ _).alloc _) ⟨_, _, _, rfl, rfl, RdK.of_blk (Blk.new _ _ _) 3 4 rfl⟩
      go_simp
      generalize hZ : (Act.mk _ _) = Z
      refine hK Z ?_
      subst hZ
      clear hK K
      refine kAll_dn _ (fun W hW hF => kStep_of fun K Q hK => ?_) (fun K hK => ?_)
      · have h0 : (fun v W => IsM W v [(⟨3, 1, 3, 5⟩ : Mem), (⟨3, 4, 2, 0⟩ : Mem), (⟨3, 2, 3, 1⟩ : Mem)]) u0 W := kHas_at hF 0 rfl (by kernel_rfl)
        go_simp
        refine (at_is _ [(⟨3, 1, 3, 5⟩ : Mem), (⟨3, 4, 2, 0⟩ : Mem), (⟨3, 2, 3, 1⟩ : Mem)] 3 W (some (⟨3, 4, 2, 0⟩ : Mem)) h0 (by simp) (by decide +kernel)).mono ?_
        rintro e w' ⟨rfl, hk⟩
        exact hK _ _ hk rfl
      go_simp
      generalize hZ : (Act.mk _ _) = Z
      refine hK Z ?_
      subst hZ
      clear hK K
      refine kAll_p (fun K hK => ?_)
      go_simp
      generalize hZ : (Act.mk _ _) = Z
      refine hK Z ?_
      subst hZ
      clear hK K
      refine kAll_p (fun K hK => ?_)
      go_simp
      generalize hZ : (Act.mk _ _) = Z
      refine hK Z ?_
      subst hZ
      clear hK K
      refine kAll_p (fun K hK => ?_)
      go_simp
      generalize hZ : (Act.mk _ _) = Z
      refine hK Z ?_
      subst hZ
      clear hK K
      refine kAll_nil (fun W93 hW hF => ?_)
      clear hF
      have hk_94 : Keep (fun _ => False) _ W93 := hW
      have B_95 := Lib.hid (B_88.out.keep hk_94 (fun h => h))
      have B_96 := Lib.hid (B_89.out.keep hk_94 (fun h => h))
      have B_97 := Lib.hid (B_86.out.keep hk_94 (fun h => h))
      have F_98 := Lib.hid (fun W h => F_90.out W (keep0_trans _ _ _ hk_94 h))
      have F_99 := Lib.hid (fun W h => F_91.out W (keep0_trans _ _ _ hk_94 h))
      have K_100 := Lib.hid (keep0_trans _ _ _ K_92.out hk_94)
      clear hk_94 B_88 B_89 B_86 F_90 F_91 K_92
      clear hW
      go_upto_region 17 with (fail)
      have hb_101 := Blk.new W93 32 #[.int .i64 3, .int .i64 4, .int .u8 2, .int .i64 0]
      have hq_103 : Keep (fun _ => False) W93 (W93.alloc (.cells #[.int .i64 3, .int .i64 4, .int .u8 2, .int .i64 0] 32)) := (Keep.refl _ _).alloc _
      generalize hw : W93.alloc (.cells #[.int .i64 3, .int .i64 4, .int .u8 2, .int .i64 0] 32) = w_102 at *
      clear hw
      have B_105 := Lib.hid hb_101
      clear hb_101
      have hk_106 : Keep (fun _ => False) _ w_102 := hq_103
      have B_107 := Lib.hid (B_95.out.keep hk_106 (fun h => h))
      have B_108 := Lib.hid (B_96.out.keep hk_106 (fun h => h))
      have B_109 := Lib.hid (B_97.out.keep hk_106 (fun h => h))
      have F_110 := Lib.hid (fun W h => F_98.out W (keep0_trans _ _ _ hk_106 h))
      have F_111 := Lib.hid (fun W h => F_99.out W (keep0_trans _ _ _ hk_106 h))
      have K_112 := Lib.hid (keep0_trans _ _ _ K_100.out hk_106)
      clear hk_106 B_95 B_96 B_97 F_98 F_99 K_100
      clear hq_103
      refine wp_region_kord (Keep (fun _ => False)) (Keep.refl _) keep0_trans 5 (Ts := [none, some (.inl (.tuple #[memV (⟨0, 0, 0, 0⟩ : Mem), .bool false])), none, none, none]) ?_
      simp only [List.take, List.drop]
      refine kAll_p (fun K hK => ?_)
      go_simp
      generalize hZ : (Act.mk _ _) = Z
      refine hK Z ?_
      subst hZ
      clear hK K
      refine kAll_dn _ (fun W hW hF => kStep_of fun K Q hK => ?_) (fun K hK => ?_)
      · have h0 : IsM W (.slice none 0 0) [] := ⟨_, _, _, rfl, RdMem.nil_ _⟩
        go_simp
        refine (get_is _ [] (0, 0) W none h0 (by simp) (by decide)).mono ?_
        rintro e w' ⟨rfl, hk⟩
        exact hK _ _ hk rfl
      go_simp
      generalize hZ : (Act.mk _ _) = Z
      refine hK Z ?_
      subst hZ
      clear hK K
      refine kAll_p (fun K hK => ?_)
      go_simp
      generalize hZ : (Act.mk _ _) = Z
      refine hK Z ?_
      subst hZ
      clear hK K
      refine kAll_p (fun K hK => ?_)
      go_simp
      generalize hZ : (Act.mk _ _) = Z
      refine hK Z ?_
      subst hZ
      clear hK K
      refine kAll_p (fun K hK => ?_)
      go_simp
      generalize hZ : (Act.mk _ _) = Z
      refine hK Z ?_
      subst hZ
      clear hK K
      refine kAll_nil (fun W113 hW hF => ?_)
      clear hF
      have hk_114 : Keep (fun _ => False) _ W113 := hW
      have B_115 := Lib.hid (B_107.out.keep hk_114 (fun h => h))
      have B_116 := Lib.hid (B_108.out.keep hk_114 (fun h => h))
      have B_117 := Lib.hid (B_109.out.keep hk_114 (fun h => h))
      have B_118 := Lib.hid (B_105.out.keep hk_114 (fun h => h))
      have F_119 := Lib.hid (fun W h => F_110.out W (keep0_trans _ _ _ hk_114 h))
      have F_120 := Lib.hid (fun W h => F_111.out W (keep0_trans _ _ _ hk_114 h))
      have K_121 := Lib.hid (keep0_trans _ _ _ K_112.out hk_114)
      clear hk_114 B_107 B_108 B_109 B_105 F_110 F_111 K_112
      clear hW
      go_upto_region 18 with (fail)
      have hb_122 := Blk.new W113 32 #[.int .i64 0, .int .i64 0, .int .u8 0, .int .i64 0]
      have hq_124 : Keep (fun _ => False) W113 (W113.alloc (.cells #[.int .i64 0, .int .i64 0, .int .u8 0, .int .i64 0] 32)) := (Keep.refl _ _).alloc _
      generalize hw : W113.alloc (.cells #[.int .i64 0, .int .i64 0, .int .u8 0, .int .i64 0] 32) = w_123 at *
      clear hw
      have B_126 := Lib.hid hb_122
      clear hb_122
      have hk_127 : Keep (fun _ => False) _ w_123 := hq_124
      have B_128 := Lib.hid (B_115.out.keep hk_127 (fun h => h))
      have B_129 := Lib.hid (B_116.out.keep hk_127 (fun h => h))
      have B_130 := Lib.hid (B_117.out.keep hk_127 (fun h => h))
      have B_131 := Lib.hid (B_118.out.keep hk_127 (fun h => h))
      have F_132 := Lib.hid (fun W h => F_119.out W (keep0_trans _ _ _ hk_127 h))
      have F_133 := Lib.hid (fun W h => F_120.out W (keep0_trans _ _ _ hk_127 h))
      have K_134 := Lib.hid (keep0_trans _ _ _ K_121.out hk_127)
      clear hk_127 B_115 B_116 B_117 B_118 F_119 F_120 K_121
      clear hq_124
      refine wp_region_kord (Keep (fun _ => False)) (Keep.refl _) keep0_trans 49 (Ts := [none, none, none, none, none, none, none, none, some (.inl (.int .i64 2)), none, none, none, none, none, none, none, none, some (.inl (.int .i64 4)), none, none, none, none, none, none, none, some (.inl (.int .i64 1)), none, none, none, some (.inl (memV ⟨1, 1, 3, 1099511627776⟩)), some (.inr (fun v W => IsM W v [(⟨1, 1, 3, 1099511627776⟩ : Mem)])), some (.inl (.int .i64 1099511627776)), none, none, none, some (.inr (fun v W => IsF W v ([(1, 3)] : List ID))), none, some (.inl (.bool true)), none, none, some (.inr (fun v W => IsF W v ([(1, 3)] : List ID))), none, some (.inl (.bool false)), none, none, none, some (.inl (.int .i64 0)), none, none]) ?_
      simp only [List.take, List.drop]
      refine kAll_p (fun K hK => ?_)
      go_simp
      generalize hZ : (Act.mk _ _) = Z
      refine hK Z ?_
      subst hZ
      clear hK K
      refine kAll_p (fun K hK => ?_)
      go_simp
      generalize hZ : (Act.mk _ _) = Z
      refine hK Z ?_
      subst hZ
      clear hK K
      refine kAll_p (fun K hK => ?_)
      go_simp
      generalize hZ : (Act.mk _ _) = Z
      refine hK Z ?_
      subst hZ
      clear hK K
      refine kAll_pw (by kernel_rfl) (fun K hK => ?_)
      go_simp
      generalize hZ : (Act.mk _ _) = Z
      refine hK Z ?_
      subst hZ
      clear hK K
      refine kAll_p (fun K hK => ?_)
      go_simp
      generalize hZ : (Act.mk _ _) = Z
      refine hK Z ?_
      subst hZ
      clear hK K
      refine kAll_p (fun K hK => ?_)
      go_simp
      generalize hZ : (Act.mk _ _) = Z
      refine hK Z ?_
      subst hZ
      clear hK K
      refine kAll_pw (by kernel_rfl) (fun K hK => ?_)
      go_simp
      generalize hZ : (Act.mk _ _) = Z
      refine hK Z ?_
      subst hZ
      clear hK K
      refine kAll_pw (by kernel_rfl) (fun K hK => ?_)
      go_simp
      generalize hZ : (Act.mk _ _) = Z
      refine hK Z ?_
      subst hZ
      clear hK K
      refine kAll_dn _ (fun W hW hF => kStep_w (by kernel_rfl) fun K Q hK => ?_) (fun K hK => ?_)
      · have e0 := (B_130.out.keep hW (fun h => h)).cell 0
        simp at e0
        go_simp
        exact hK _ _ (Keep.refl _ _) rfl
      go_simp
      generalize hZ : (Act.mk _ _) = Z
      refine hK Z ?_
      subst hZ
      clear hK K
      refine kAll_pw (by kernel_rfl) (fun K hK => ?_)
      go_simp
      generalize hZ : (Act.mk _ _) = Z
      refine hK Z ?_
      subst hZ
      clear hK K
      refine kAll_p (fun K hK => ?_)
      go_simp
      generalize hZ : (Act.mk _ _) = Z
      refine hK Z ?_
      subst hZ
      clear hK K
      refine kAll_p (fun K hK => ?_)
      go_simp
      generalize hZ : (Act.mk _ _) = Z
      refine hK Z ?_
      subst hZ
      clear hK K
      refine kAll_pw (by kernel_rfl) (fun K hK => ?_)
      go_simp
      generalize hZ : (Act.mk _ _) = Z
      refine hK Z ?_
      subst hZ
      clear hK K
      refine kAll_p (fun K hK => ?_)
      go_simp
      generalize hZ : (Act.mk _ _) = Z
      refine hK Z ?_
      subst hZ
      clear hK K
      refine kAll_p (fun K hK => ?_)
      go_simp
      generalize hZ : (Act.mk _ _) = Z
      refine hK Z ?_
      subst hZ
      clear hK K
      refine kAll_pw (by kernel_rfl) (fun K hK => ?_)
      go_simp
      generalize hZ : (Act.mk _ _) = Z
      refine hK Z ?_
      subst hZ
      clear hK K
      refine kAll_pw (by kernel_rfl) (fun K hK => ?_)
      go_simp
      generalize hZ : (Act.mk _ _) = Z
      refine hK Z ?_
      subst hZ
      clear hK K
      refine kAll_dn _ (fun W hW hF => kStep_w (by kernel_rfl) fun K Q hK => ?_) (fun K hK => ?_)
      · have e1 := (B_131.out.keep hW (fun h => h)).cell 1
        simp at e1
        go_simp
        exact hK _ _ (Keep.refl _ _) rfl
      go_simp
      generalize hZ : (Act.mk _ _) = Z
      refine hK Z ?_
      subst hZ
      clear hK K
      refine kAll_pw (by kernel_rfl) (fun K hK => ?_)
      go_simp
      generalize hZ : (Act.mk _ _) = Z
      refine hK Z ?_
      subst hZ
      clear hK K
      refine kAll_p (fun K hK => ?_)
      go_simp
      generalize hZ : (Act.mk _ _) = Z
      refine hK Z ?_
      subst hZ
      clear hK K
      refine kAll_p (fun K hK => ?_)
      go_simp
      generalize hZ : (Act.mk _ _) = Z
      refine hK Z ?_
      subst hZ
      clear hK K
      refine kAll_pw (by kernel_rfl) (fun K hK => ?_)
      go_simp
      generalize hZ : (Act.mk _ _) = Z
      refine hK Z ?_
      subst hZ
      clear hK K
      refine kAll_pw (by kernel_rfl) (fun K hK => ?_)
      go_simp
      generalize hZ : (Act.mk _ _) = Z
      refine hK Z ?_
      subst hZ
      clear hK K
      refine kAll_p (fun K hK => ?_)
      go_simp
      generalize hZ : (Act.mk _ _) = Z
      refine hK Z ?_
      subst hZ
      clear hK K
      refine kAll_p (fun K hK => ?_)
      go_simp
      generalize hZ : (Act.mk _ _) = Z
      refine hK Z ?_
      subst hZ
      clear hK K
      refine kAll_dn _ (fun W hW hF => kStep_w (by kernel_rfl) fun K Q hK => ?_) (fun K hK => ?_)
      · have h0 : IsM W (.slice none 0 0) [] := ⟨_, _, _, rfl, RdMem.nil_ _⟩
        go_simp
        refine (next_is _ [] 1 W h0 (by decide) (by decide +kernel)).mono ?_
        rintro e w' ⟨rfl, hk⟩
        exact hK _ _ hk rfl
      go_simp
      generalize hZ : (Act.mk _ _) = Z
      refine hK Z ?_
      subst hZ
      clear hK K
      refine kAll_pw (by kernel_rfl) (fun K hK => ?_)
      go_simp
      generalize hZ : (Act.mk _ _) = Z
      refine hK Z ?_
      subst hZ
      clear hK K
      refine kAll_p (fun K hK => ?_)
      go_simp
      generalize hZ : (Act.mk _ _) = Z
      refine hK Z ?_
      subst hZ
      clear hK K
      refine kAll_p (fun K hK => ?_)
      go_simp
      generalize hZ : (Act.mk _ _) = Z
      refine hK Z ?_
      subst hZ
      clear hK K
      refine kAll_dn _ (fun W hW hF => kStep_w (by kernel_rfl) fun K Q hK => ?_) (fun K hK => ?_)
      · go_simp
        refine (one_any 1 1 3 1099511627776 W).mono ?_
        rintro e w' ⟨rfl, hk⟩
        exact hK _ _ hk rfl
      go_simp
      generalize hZ : (Act.mk _ _) = Z
      refine hK Z ?_
      subst hZ
      clear hK K
      refine kAll_tn _ (fun v W W' hk h => h.keep0 hk) (fun W hW hF => kStep_w (by kernel_rfl) fun K Q hK => ?_) (fun u0 K hK => ?_)
      · go_simp
        exact hK _ _ ((Keep.refl _ _).alloc _) ⟨_, _, _, rfl, rfl, RdK.of_blk (Blk.new _ _ _) 1 4 rfl⟩
      go_simp
      generalize hZ : (Act.mk _ _) = Z
      refine hK Z ?_
      subst hZ
      clear hK K
      refine kAll_dn _ (fun W hW hF => kStep_w (by kernel_rfl) fun K Q hK => ?_) (fun K hK => ?_)
      · have h0 : (fun v W => IsM W v [(⟨1, 1, 3, 1099511627776⟩ : Mem)]) u0 W := kHas_at hF 0 rfl (by kernel_rfl)
        go_simp
        refine (next_is _ [(⟨1, 1, 3, 1099511627776⟩ : Mem)] 1099511627776 W h0 (by decide) (by decide +kernel)).mono ?_
        rintro e w' ⟨rfl, hk⟩
        exact hK _ _ hk rfl
      go_simp
      generalize hZ : (Act.mk _ _) = Z
      refine hK Z ?_
      subst hZ
      clear hK K
      refine kAll_pw (by kernel_rfl) (fun K hK => ?_)
      go_simp
      generalize hZ : (Act.mk _ _) = Z
      refine hK Z ?_
      subst hZ
      clear hK K
      refine kAll_p (fun K hK => ?_)
      go_simp
      generalize hZ : (Act.mk _ _) = Z
      refine hK Z ?_
      subst hZ
      clear hK K
      refine kAll_p (fun K hK => ?_)
      go_simp
      generalize hZ : (Act.mk _ _) = Z
      refine hK Z ?_
      subst hZ
      clear hK K
      refine kAll_tn _ (fun v W W' hk h => h.keep0 hk) (fun W hW hF => kStep_w (by kernel_rfl) fun K Q hK => ?_) (fun u1 K hK => ?_)
      · go_simp
        refine (low_any 1 3 W).mono ?_
        rintro e w' ⟨u, rfl, hu, hk⟩
        exact hK _ _ hk hu
      go_simp
      generalize hZ : (Act.mk _ _) = Z
      refine hK Z ?_
      subst hZ
      clear hK K
      refine kAll_pw (by kernel_rfl) (fun K hK => ?_)
      go_simp
      generalize hZ : (Act.mk _ _) = Z
      refine hK Z ?_
      subst hZ
      clear hK K
      refine kAll_dn _ (fun W hW hF => kStep_w (by kernel_rfl) fun K Q hK => ?_) (fun K hK => ?_)
      · have h0 : (fun v W => IsF W v ([(1, 3)] : List ID)) u1 W := kHas_at hF 0 rfl (by kernel_rfl)
        go_simp
        refine (gone_is _ ([(1, 3)] : List ID) (1, 3) W true h0 (by simp) (by decide +kernel)).mono ?_
        rintro e w' ⟨rfl, hk⟩
        exact hK _ _ hk rfl
      go_simp
      generalize hZ : (Act.mk _ _) = Z
      refine hK Z ?_
      subst hZ
      clear hK K
      refine kAll_p (fun K hK => ?_)
      go_simp
      generalize hZ : (Act.mk _ _) = Z
      refine hK Z ?_
      subst hZ
      clear hK K
      refine kAll_p (fun K hK => ?_)
      go_simp
      generalize hZ : (Act.mk _ _) = Z
      refine hK Z ?_
      subst hZ
      clear hK K
      refine kAll_tn _ (fun v W W' hk h => h.keep0 hk) (fun W hW hF => kStep_w (by kernel_rfl) fun K Q hK => ?_) (fun u2 K hK => ?_)
      · go_simp
        refine (low_any 1 3 W).mono ?_
        rintro e w' ⟨u, rfl, hu, hk⟩
        exact hK _ _ hk hu
      go_simp
      generalize hZ : (Act.mk _ _) = Z
      refine hK Z ?_
      subst hZ
      clear hK K
      refine kAll_pw (by kernel_rfl) (fun K hK => ?_)
      go_simp
      generalize hZ : (Act.mk _ _) = Z
      refine hK Z ?_
      subst hZ
      clear hK K
      refine kAll_dn _ (fun W hW hF => kStep_w (by kernel_rfl) fun K Q hK => ?_) (fun K hK => ?_)
      · have h0 : (fun v W => IsF W v ([(1, 3)] : List ID)) u2 W := kHas_at hF 0 rfl (by kernel_rfl)
        go_simp
        refine (gone_is _ ([(1, 3)] : List ID) (1, 4) W false h0 (by simp) (by decide +kernel)).mono ?_
        rintro e w' ⟨rfl, hk⟩
        exact hK _ _ hk rfl
      go_simp
      generalize hZ : (Act.mk _ _) = Z
      refine hK Z ?_
      subst hZ
      clear hK K
      refine kAll_pw (by kernel_rfl) (fun K hK => ?_)
      go_simp
      generalize hZ : (Act.mk _ _) = Z
      refine hK Z ?_
      subst hZ
      clear hK K
      refine kAll_p (fun K hK => ?_)
      go_simp
      generalize hZ : (Act.mk _ _) = Z
      refine hK Z ?_
      subst hZ
      clear hK K
      refine kAll_p (fun K hK => ?_)
      go_simp
      generalize hZ : (Act.mk _ _) = Z
      refine hK Z ?_
      subst hZ
      clear hK K
      refine kAll_dn _ (fun W hW hF => kStep_w (by kernel_rfl) fun K Q hK => ?_) (fun K hK => ?_)
      · have h0 : IsF W (.slice none 0 0) [] := ⟨_, _, _, rfl, RdI.nil_ _⟩
        go_simp
        refine (floor_is _ [] 1 W 0 h0 (by simp) (by decide)).mono ?_
        rintro e w' ⟨rfl, hk⟩
        exact hK _ _ hk rfl
      go_simp
      generalize hZ : (Act.mk _ _) = Z
      refine hK Z ?_
      subst hZ
      clear hK K
      refine kAll_pw (by kernel_rfl) (fun K hK => ?_)
      go_simp
      generalize hZ : (Act.mk _ _) = Z
      refine hK Z ?_
      subst hZ
      clear hK K
      refine kAll_p (fun K hK => ?_)
      go_simp
      generalize hZ : (Act.mk _ _) = Z
      refine hK Z ?_
      subst hZ
      clear hK K
      refine kAll_nil (fun W135 hW hF => ?_)
      clear hF
      have hk_136 : Keep (fun _ => False) _ W135 := hW
      have B_137 := Lib.hid (B_128.out.keep hk_136 (fun h => h))
      have B_138 := Lib.hid (B_129.out.keep hk_136 (fun h => h))
      have B_139 := Lib.hid (B_130.out.keep hk_136 (fun h => h))
      have B_140 := Lib.hid (B_131.out.keep hk_136 (fun h => h))
      have B_141 := Lib.hid (B_126.out.keep hk_136 (fun h => h))
      have F_142 := Lib.hid (fun W h => F_132.out W (keep0_trans _ _ _ hk_136 h))
      have F_143 := Lib.hid (fun W h => F_133.out W (keep0_trans _ _ _ hk_136 h))
      have K_144 := Lib.hid (keep0_trans _ _ _ K_134.out hk_136)
      clear hk_136 B_128 B_129 B_130 B_131 B_126 F_132 F_133 K_134
      clear hW
      go_wp2
      go_ret
      exact ⟨rfl, K_144.out⟩
theorem walkRosterNames {w : World} : Calls Try.prog 8 #[] w fun e w' => e = .returned (.bool true) ∧ Below w.heap.size w w' :=
  (names_any w).mono fun _ _ ⟨he, hk⟩ => ⟨he, hk.b⟩
end Go.Proofs.Ythlfgjlnjmjppaa
