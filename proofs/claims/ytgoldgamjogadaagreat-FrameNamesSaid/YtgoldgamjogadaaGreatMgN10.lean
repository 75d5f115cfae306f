/-
  view.May.
  frame.May.
-/
import Derived.Test.YtgoldgamjogadaaGreatMgN9
namespace Go.Proofs.YtgoldgamjogadaaGreat
open Go.RowKit Go
set_option maxRecDepth 100000
attribute [local irreducible] kAll
attribute [local go_sem] kQuiet kQuietUpon

/-- may a view be? -/
def mayV (v : VwM) : Bool := mayT v.mem v.fl && mayR v.rows && sameRs (goneM v.rows v.fl) v.rows && mayCk v.clk && risB v.seen && v.seen.all mayID
theorem goneM_len (l : List RowM) (F : List ID) : (goneM l F).length ≤ l.length := by unfold goneM; rw [List.length_map]; exact List.length_filter_le _ _
theorem goneM_no {l : List RowM} (F : List ID) {k : Nat} (h : ∀ r ∈ l, r.no.length ≤ k) : ∀ r ∈ goneM l F, r.no.length ≤ k := fun r hr => by
  unfold goneM at hr
  obtain ⟨x, hx, rfl⟩ := List.mem_map.1 hr
  exact Nat.le_trans (List.length_filter_le _ _) (h x (List.mem_filter.1 hx).1)
set_option maxHeartbeats 8000000 in
theorem viewMay_any (m f r c s : Value) (v : VwM) (w : World) (hv : IsV w m f r c s v) (hf : Few v) :
    Calls Tryz.prog 19 #[.agg #[m, f, r, c, s]] w (Tell (.bool (mayV v)) w) := by
  obtain ⟨mem, fl, rows, clk, seen⟩ := v
  obtain ⟨⟨Am, nm, cm, rfl, hm⟩, ⟨Af, nf, cf, rfl, hfl⟩, ⟨Ar, nr, cr, rfl, hr⟩, ⟨Ac, nc, cc, rfl, hc⟩, ⟨As, ns, cs, rfl, hs⟩, hst⟩ := hv
  obtain ⟨n1, n2, n3, n4, n5, n6⟩ := hf
  simp only at n1 n2 n3 n4 n5 hm hfl hr hc hs n6
  rw [hm.1] at n1
  rw [hfl.1] at n2
  have HGL := Lib.hid (Nat.le_trans (goneM_len rows fl) n3)
  rw [hr.1] at n3
  rw [hc.1] at n4
  rw [hs.1] at n5
  have kx := (Keep.refl (fun _ => False) w).alloc (.cells #[.slice Am nm cm, .slice Af nf cf, .slice Ar nr cr, .slice Ac nc cc, .slice As ns cs] 33)
  have KX := Lib.hid kx
  have HM := Lib.hid (hm.keep0 kx)
  have HF := Lib.hid (hfl.keep0 kx)
  have HR := Lib.hid (hr.keep0 kx)
  have HC := Lib.hid (hc.keep0 kx)
  have HS := Lib.hid (hs.keep0 kx)
  have HNo := Lib.hid n6
  have HGN := Lib.hid (goneM_no fl n6)
  have BX := Lib.hid (Blk.new w 33 #[.slice Am nm cm, .slice Af nf cf, .slice Ar nr cr, .slice Ac nc cc, .slice As ns cs])
  have HO := Lib.hid (show mayV ⟨mem, fl, rows, clk, seen⟩ = (mayT mem fl && mayR rows && sameRs (goneM rows fl) rows && mayCk clk && risB seen && seen.all mayID) from rfl)
  clear hm hfl hr hc hs hst n6 kx
  go_enter Tryz.func19, Tryz.ntmps19
  rcases Bool.eq_false_or_eq_true (mayT mem fl) with h0 | h0
  · have HT0 := Lib.hid h0
    rw [h0] at HO
    clear h0
    rcases Bool.eq_false_or_eq_true (mayR rows) with h1 | h1
    · have HT1 := Lib.hid h1
      rw [h1] at HO
      clear h1
      rcases Bool.eq_false_or_eq_true (sameRs (goneM rows fl) rows) with h2 | h2
      · have HT2 := Lib.hid h2
        rw [h2] at HO
        clear h2
        rcases Bool.eq_false_or_eq_true (mayCk clk) with h3 | h3
        · have HT3 := Lib.hid h3
          rw [h3] at HO
          clear h3
          rcases Bool.eq_false_or_eq_true (risB seen) with h4 | h4
          · have HT4 := Lib.hid h4
            rw [h4] at HO
            clear h4
            rcases Bool.eq_false_or_eq_true (seen.all mayID) with h5 | h5
            · have HT5 := Lib.hid h5
              rw [h5] at HO
              clear h5
              go_wp2_with fail
              refine wp_region_krip (Keep (fun _ => False)) (Keep.refl _) keep0_trans 36 (by kernel_rfl) (by kernel_rfl) (Ts := [none, some (.inl (.slice Am nm cm)), none, some (.inl (.slice Af nf cf)), some (.inl (.bool true)), none, none, some (.inl (.slice Ar nr cr)), some (.inl (.bool true)), none, none, none, some (.inl (.slice Ar nr cr)), none, some (.inl (.slice Af nf cf)), some (.inr (fun v W => ∃ A1 c1, v = .slice A1 (goneM rows fl).length c1 ∧ RdRow W A1 (goneM rows fl).length (goneM rows fl))), none, some (.inl (.slice Ar nr cr)), some (.inl (.bool true)), none, none, none, some (.inl (.slice Ac nc cc)), some (.inl (.bool true)), none, none, none, some (.inl (.slice As ns cs)), some (.inl (.bool true)), none, none, none, some (.inl (.slice As ns cs)), some (.inl (.bool true)), none, none]) ?_
              simp only [List.take, List.drop]
              refine kAll_p (fun K hK => ?_)
              go_simp
              generalize hZ : (Act.mk _ _) = Z
              refine hK Z ?_
              subst hZ
              clear hK K
              refine kAll_dn _ (fun W hW hF => kStep_of fun K Q hK => ?_) (fun K hK => ?_)
              · have c0 := (BX.out.drew.keep hW (fun h => h)).cell 0
                simp at c0
                go_simp
                exact hK _ _ (Keep.refl _ _) rfl
              go_simp
              generalize hZ : (Act.mk _ _) = Z
              refine hK Z ?_
              subst hZ
              clear hK K
              refine kAll_p (fun K hK => ?_)
              go_simp
              generalize hZ : (Act.mk _ _) = Z
              refine hK Z ?_
              subst hZ
              clear hK K
              refine kAll_dn _ (fun W hW hF => kStep_of fun K Q hK => ?_) (fun K hK => ?_)
              · have c0 := (BX.out.drew.keep hW (fun h => h)).cell 1
                simp at c0
                go_simp
                exact hK _ _ (Keep.refl _ _) rfl
              go_simp
              generalize hZ : (Act.mk _ _) = Z
              refine hK Z ?_
              subst hZ
              clear hK K
              refine kAll_dn _ (fun W hW hF => kStep_of fun K Q hK => ?_) (fun K hK => ?_)
              · go_simp
                refine (rmay_any Am Af nm cm nf cf mem fl W (HM.out.keep0 (keepD (Keep.refl _ _) hW)) (HF.out.keep0 (keepD (Keep.refl _ _) hW)) (by omega) (by omega)).mono ?_
                rintro e w' ⟨rfl, hk⟩
                rw [HT0.out]
                exact hK _ _ hk rfl
              go_simp
              generalize hZ : (Act.mk _ _) = Z
              refine hK Z ?_
              subst hZ
              clear hK K
              refine kAll_p (fun K hK => ?_)
              go_simp
              generalize hZ : (Act.mk _ _) = Z
              refine hK Z ?_
              subst hZ
              clear hK K
              refine kAll_pw (by kernel_rfl) (fun K hK => ?_)
              go_simp
              generalize hZ : (Act.mk _ _) = Z
              refine hK Z ?_
              subst hZ
              clear hK K
              refine kAll_dn _ (fun W hW hF => kStep_w (by kernel_rfl) fun K Q hK => ?_) (fun K hK => ?_)
              · have c0 := (BX.out.drew.keep hW (fun h => h)).cell 2
                simp at c0
                go_simp
                exact hK _ _ (Keep.refl _ _) rfl
              go_simp
              generalize hZ : (Act.mk _ _) = Z
              refine hK Z ?_
              subst hZ
              clear hK K
              refine kAll_dn _ (fun W hW hF => kStep_w (by kernel_rfl) fun K Q hK => ?_) (fun K hK => ?_)
              · go_simp
                refine (rowsMay_any Ar nr cr rows W (HR.out.keep0 (keepD (Keep.refl _ _) hW)) (by omega) HNo.out).mono ?_
                rintro e w' ⟨rfl, hk⟩
                rw [HT1.out]
                exact hK _ _ hk rfl
              go_simp
              generalize hZ : (Act.mk _ _) = Z
              refine hK Z ?_
              subst hZ
              clear hK K
              refine kAll_p (fun K hK => ?_)
              go_simp
              generalize hZ : (Act.mk _ _) = Z
              refine hK Z ?_
              subst hZ
              clear hK K
              refine kAll_p (fun K hK => ?_)
              go_simp
              generalize hZ : (Act.mk _ _) = Z
              refine hK Z ?_
              subst hZ
              clear hK K
              refine kAll_pw (by kernel_rfl) (fun K hK => ?_)
              go_simp
              generalize hZ : (Act.mk _ _) = Z
              refine hK Z ?_
              subst hZ
              clear hK K
              refine kAll_dn _ (fun W hW hF => kStep_w (by kernel_rfl) fun K Q hK => ?_) (fun K hK => ?_)
              · have c0 := (BX.out.drew.keep hW (fun h => h)).cell 2
                simp at c0
                go_simp
                exact hK _ _ (Keep.refl _ _) rfl
              go_simp
              generalize hZ : (Act.mk _ _) = Z
              refine hK Z ?_
              subst hZ
              clear hK K
              refine kAll_pw (by kernel_rfl) (fun K hK => ?_)
              go_simp
              generalize hZ : (Act.mk _ _) = Z
              refine hK Z ?_
              subst hZ
              clear hK K
              refine kAll_dn _ (fun W hW hF => kStep_w (by kernel_rfl) fun K Q hK => ?_) (fun K hK => ?_)
              · have c0 := (BX.out.drew.keep hW (fun h => h)).cell 1
                simp at c0
                go_simp
                exact hK _ _ (Keep.refl _ _) rfl
              go_simp
              generalize hZ : (Act.mk _ _) = Z
              refine hK Z ?_
              subst hZ
              clear hK K
              refine kAll_tn _ (fun v W W' hk h => by obtain ⟨A1, c1, e, h⟩ := h; exact ⟨A1, c1, e, h.keep0 hk⟩) (fun W hW hF => kStep_w (by kernel_rfl) fun K Q hK => ?_) (fun u0 K hK => ?_)
              · go_simp
                refine (rgone_any Ar nr cr rows Af nf cf fl W (HR.out.keep0 (keepD (Keep.refl _ _) hW)) (by omega) HNo.out (HF.out.keep0 (keepD (Keep.refl _ _) hW)) (by omega)).mono ?_
                rintro e w' ⟨⟨A1, c1, rfl, h1⟩, hk⟩
                exact hK _ _ hk ⟨A1, c1, rfl, h1⟩
              go_simp
              generalize hZ : (Act.mk _ _) = Z
              refine hK Z ?_
              subst hZ
              clear hK K
              refine kAll_pw (by kernel_rfl) (fun K hK => ?_)
              go_simp
              generalize hZ : (Act.mk _ _) = Z
              refine hK Z ?_
              subst hZ
              clear hK K
              refine kAll_dn _ (fun W hW hF => kStep_w (by kernel_rfl) fun K Q hK => ?_) (fun K hK => ?_)
              · have c0 := (BX.out.drew.keep hW (fun h => h)).cell 2
                simp at c0
                go_simp
                exact hK _ _ (Keep.refl _ _) rfl
              go_simp
              generalize hZ : (Act.mk _ _) = Z
              refine hK Z ?_
              subst hZ
              clear hK K
              refine kAll_dn _ (fun W hW hF => kStep_w (by kernel_rfl) fun K Q hK => ?_) (fun K hK => ?_)
              · have h0 : (fun v W => ∃ A1 c1, v = .slice A1 (goneM rows fl).length c1 ∧ RdRow W A1 (goneM rows fl).length (goneM rows fl)) u0 W := kHas_at hF 0 rfl (by kernel_rfl)
                obtain ⟨A1, c1, rfl, h1⟩ := h0
                go_simp
                refine (rowsSame_any A1 Ar _ nr c1 cr (goneM rows fl) rows W h1 (HR.out.keep0 (keepD (Keep.refl _ _) hW)) (by have := HGL.out; omega) (by omega) HGN.out HNo.out).mono ?_
                rintro e w' ⟨rfl, hk⟩
                rw [HT2.out]
                exact hK _ _ hk rfl
              go_simp
              generalize hZ : (Act.mk _ _) = Z
              refine hK Z ?_
              subst hZ
              clear hK K
              refine kAll_p (fun K hK => ?_)
              go_simp
              generalize hZ : (Act.mk _ _) = Z
              refine hK Z ?_
              subst hZ
              clear hK K
              refine kAll_p (fun K hK => ?_)
              go_simp
              generalize hZ : (Act.mk _ _) = Z
              refine hK Z ?_
              subst hZ
              clear hK K
              refine kAll_pw (by kernel_rfl) (fun K hK => ?_)
              go_simp
              generalize hZ : (Act.mk _ _) = Z
              refine hK Z ?_
              subst hZ
              clear hK K
              refine kAll_dn _ (fun W hW hF => kStep_w (by kernel_rfl) fun K Q hK => ?_) (fun K hK => ?_)
              · have c0 := (BX.out.drew.keep hW (fun h => h)).cell 3
                simp at c0
                go_simp
                exact hK _ _ (Keep.refl _ _) rfl
              go_simp
              generalize hZ : (Act.mk _ _) = Z
              refine hK Z ?_
              subst hZ
              clear hK K
              refine kAll_dn _ (fun W hW hF => kStep_w (by kernel_rfl) fun K Q hK => ?_) (fun K hK => ?_)
              · go_simp
                refine (mayC_any Ac nc cc clk W (HC.out.keep0 (keepD (Keep.refl _ _) hW)) (by omega)).mono ?_
                rintro e w' ⟨rfl, hk⟩
                rw [HT3.out]
                exact hK _ _ hk rfl
              go_simp
              generalize hZ : (Act.mk _ _) = Z
              refine hK Z ?_
              subst hZ
              clear hK K
              refine kAll_p (fun K hK => ?_)
              go_simp
              generalize hZ : (Act.mk _ _) = Z
              refine hK Z ?_
              subst hZ
              clear hK K
              refine kAll_p (fun K hK => ?_)
              go_simp
              generalize hZ : (Act.mk _ _) = Z
              refine hK Z ?_
              subst hZ
              clear hK K
              refine kAll_pw (by kernel_rfl) (fun K hK => ?_)
              go_simp
              generalize hZ : (Act.mk _ _) = Z
              refine hK Z ?_
              subst hZ
              clear hK K
              refine kAll_dn _ (fun W hW hF => kStep_w (by kernel_rfl) fun K Q hK => ?_) (fun K hK => ?_)
              · have c0 := (BX.out.drew.keep hW (fun h => h)).cell 4
                simp at c0
                go_simp
                exact hK _ _ (Keep.refl _ _) rfl
              go_simp
              generalize hZ : (Act.mk _ _) = Z
              refine hK Z ?_
              subst hZ
              clear hK K
              refine kAll_dn _ (fun W hW hF => kStep_w (by kernel_rfl) fun K Q hK => ?_) (fun K hK => ?_)
              · go_simp
                refine (rising_any As ns cs seen W (HS.out.keep0 (keepD (Keep.refl _ _) hW)) (by omega)).mono ?_
                rintro e w' ⟨rfl, hk⟩
                rw [HT4.out]
                exact hK _ _ hk rfl
              go_simp
              generalize hZ : (Act.mk _ _) = Z
              refine hK Z ?_
              subst hZ
              clear hK K
              refine kAll_p (fun K hK => ?_)
              go_simp
              generalize hZ : (Act.mk _ _) = Z
              refine hK Z ?_
              subst hZ
              clear hK K
              refine kAll_p (fun K hK => ?_)
              go_simp
              generalize hZ : (Act.mk _ _) = Z
              refine hK Z ?_
              subst hZ
              clear hK K
              refine kAll_pw (by kernel_rfl) (fun K hK => ?_)
              go_simp
              generalize hZ : (Act.mk _ _) = Z
              refine hK Z ?_
              subst hZ
              clear hK K
              refine kAll_dn _ (fun W hW hF => kStep_w (by kernel_rfl) fun K Q hK => ?_) (fun K hK => ?_)
              · have c0 := (BX.out.drew.keep hW (fun h => h)).cell 4
                simp at c0
                go_simp
                exact hK _ _ (Keep.refl _ _) rfl
              go_simp
              generalize hZ : (Act.mk _ _) = Z
              refine hK Z ?_
              subst hZ
              clear hK K
              refine kAll_dn _ (fun W hW hF => kStep_w (by kernel_rfl) fun K Q hK => ?_) (fun K hK => ?_)
              · go_simp
                refine (each_any As ns cs seen W (HS.out.keep0 (keepD (Keep.refl _ _) hW)) (by omega)).mono ?_
                rintro e w' ⟨rfl, hk⟩
                rw [HT5.out]
                exact hK _ _ hk rfl
              go_simp
              generalize hZ : (Act.mk _ _) = Z
              refine hK Z ?_
              subst hZ
              clear hK K
              refine kAll_p (fun K hK => ?_)
              go_simp
              generalize hZ : (Act.mk _ _) = Z
              refine hK Z ?_
              subst hZ
              clear hK K
              refine kAll_p (fun K hK => ?_)
              go_simp
              generalize hZ : (Act.mk _ _) = Z
              refine hK Z ?_
              subst hZ
              clear hK K
              refine kAll_nil (fun W hW hF => ?_)
              clear hF
              have HW := Lib.hid (keep0_trans _ _ _ KX.out (keepD (Keep.refl _ _) hW))
              clear hW
              have HB := Lib.hid (show mayV ⟨mem, fl, rows, clk, seen⟩ = true from HO.out)
              go_wp2
              go_ret
              exact ⟨ret_bool HB.out.symm, HW.out⟩
            · have HT5 := Lib.hid h5
              have HB := Lib.hid (show mayV ⟨mem, fl, rows, clk, seen⟩ = false by rw [HO.out, h5]; simp)
              clear h5
              go_wp2_with fail
              refine wp_region_krip (Keep (fun _ => False)) (Keep.refl _) keep0_trans 36 (by kernel_rfl) (by kernel_rfl) (Ts := [none, some (.inl (.slice Am nm cm)), none, some (.inl (.slice Af nf cf)), some (.inl (.bool true)), none, none, some (.inl (.slice Ar nr cr)), some (.inl (.bool true)), none, none, none, some (.inl (.slice Ar nr cr)), none, some (.inl (.slice Af nf cf)), some (.inr (fun v W => ∃ A1 c1, v = .slice A1 (goneM rows fl).length c1 ∧ RdRow W A1 (goneM rows fl).length (goneM rows fl))), none, some (.inl (.slice Ar nr cr)), some (.inl (.bool true)), none, none, none, some (.inl (.slice Ac nc cc)), some (.inl (.bool true)), none, none, none, some (.inl (.slice As ns cs)), some (.inl (.bool true)), none, none, none, some (.inl (.slice As ns cs)), some (.inl (.bool false)), none, none]) ?_
              simp only [List.take, List.drop]
              refine kAll_p (fun K hK => ?_)
              go_simp
              generalize hZ : (Act.mk _ _) = Z
              refine hK Z ?_
              subst hZ
              clear hK K
              refine kAll_dn _ (fun W hW hF => kStep_of fun K Q hK => ?_) (fun K hK => ?_)
              · have c0 := (BX.out.drew.keep hW (fun h => h)).cell 0
                simp at c0
                go_simp
                exact hK _ _ (Keep.refl _ _) rfl
              go_simp
              generalize hZ : (Act.mk _ _) = Z
              refine hK Z ?_
              subst hZ
              clear hK K
              refine kAll_p (fun K hK => ?_)
              go_simp
              generalize hZ : (Act.mk _ _) = Z
              refine hK Z ?_
              subst hZ
              clear hK K
              refine kAll_dn _ (fun W hW hF => kStep_of fun K Q hK => ?_) (fun K hK => ?_)
              · have c0 := (BX.out.drew.keep hW (fun h => h)).cell 1
                simp at c0
                go_simp
                exact hK _ _ (Keep.refl _ _) rfl
              go_simp
              generalize hZ : (Act.mk _ _) = Z
              refine hK Z ?_
              subst hZ
              clear hK K
              refine kAll_dn _ (fun W hW hF => kStep_of fun K Q hK => ?_) (fun K hK => ?_)
              · go_simp
                refine (rmay_any Am Af nm cm nf cf mem fl W (HM.out.keep0 (keepD (Keep.refl _ _) hW)) (HF.out.keep0 (keepD (Keep.refl _ _) hW)) (by omega) (by omega)).mono ?_
                rintro e w' ⟨rfl, hk⟩
                rw [HT0.out]
                exact hK _ _ hk rfl
              go_simp
              generalize hZ : (Act.mk _ _) = Z
              refine hK Z ?_
              subst hZ
              clear hK K
              refine kAll_p (fun K hK => ?_)
              go_simp
              generalize hZ : (Act.mk _ _) = Z
              refine hK Z ?_
              subst hZ
              clear hK K
              refine kAll_pw (by kernel_rfl) (fun K hK => ?_)
              go_simp
              generalize hZ : (Act.mk _ _) = Z
              refine hK Z ?_
              subst hZ
              clear hK K
              refine kAll_dn _ (fun W hW hF => kStep_w (by kernel_rfl) fun K Q hK => ?_) (fun K hK => ?_)
              · have c0 := (BX.out.drew.keep hW (fun h => h)).cell 2
                simp at c0
                go_simp
                exact hK _ _ (Keep.refl _ _) rfl
              go_simp
              generalize hZ : (Act.mk _ _) = Z
              refine hK Z ?_
              subst hZ
              clear hK K
              refine kAll_dn _ (fun W hW hF => kStep_w (by kernel_rfl) fun K Q hK => ?_) (fun K hK => ?_)
              · go_simp
                refine (rowsMay_any Ar nr cr rows W (HR.out.keep0 (keepD (Keep.refl _ _) hW)) (by omega) HNo.out).mono ?_
                rintro e w' ⟨rfl, hk⟩
                rw [HT1.out]
                exact hK _ _ hk rfl
              go_simp
              generalize hZ : (Act.mk _ _) = Z
              refine hK Z ?_
              subst hZ
              clear hK K
              refine kAll_p (fun K hK => ?_)
              go_simp
              generalize hZ : (Act.mk _ _) = Z
              refine hK Z ?_
              subst hZ
              clear hK K
              refine kAll_p (fun K hK => ?_)
              go_simp
              generalize hZ : (Act.mk _ _) = Z
              refine hK Z ?_
              subst hZ
              clear hK K
              refine kAll_pw (by kernel_rfl) (fun K hK => ?_)
              go_simp
              generalize hZ : (Act.mk _ _) = Z
              refine hK Z ?_
              subst hZ
              clear hK K
              refine kAll_dn _ (fun W hW hF => kStep_w (by kernel_rfl) fun K Q hK => ?_) (fun K hK => ?_)
              · have c0 := (BX.out.drew.keep hW (fun h => h)).cell 2
                simp at c0
                go_simp
                exact hK _ _ (Keep.refl _ _) rfl
              go_simp
              generalize hZ : (Act.mk _ _) = Z
              refine hK Z ?_
              subst hZ
              clear hK K
              refine kAll_pw (by kernel_rfl) (fun K hK => ?_)
              go_simp
              generalize hZ : (Act.mk _ _) = Z
              refine hK Z ?_
              subst hZ
              clear hK K
              refine kAll_dn _ (fun W hW hF => kStep_w (by kernel_rfl) fun K Q hK => ?_) (fun K hK => ?_)
              · have c0 := (BX.out.drew.keep hW (fun h => h)).cell 1
                simp at c0
                go_simp
                exact hK _ _ (Keep.refl _ _) rfl
              go_simp
              generalize hZ : (Act.mk _ _) = Z
              refine hK Z ?_
              subst hZ
              clear hK K
              refine kAll_tn _ (fun v W W' hk h => by obtain ⟨A1, c1, e, h⟩ := h; exact ⟨A1, c1, e, h.keep0 hk⟩) (fun W hW hF => kStep_w (by kernel_rfl) fun K Q hK => ?_) (fun u0 K hK => ?_)
              · go_simp
                refine (rgone_any Ar nr cr rows Af nf cf fl W (HR.out.keep0 (keepD (Keep.refl _ _) hW)) (by omega) HNo.out (HF.out.keep0 (keepD (Keep.refl _ _) hW)) (by omega)).mono ?_
                rintro e w' ⟨⟨A1, c1, rfl, h1⟩, hk⟩
                exact hK _ _ hk ⟨A1, c1, rfl, h1⟩
              go_simp
              generalize hZ : (Act.mk _ _) = Z
              refine hK Z ?_
              subst hZ
              clear hK K
              refine kAll_pw (by kernel_rfl) (fun K hK => ?_)
              go_simp
              generalize hZ : (Act.mk _ _) = Z
              refine hK Z ?_
              subst hZ
              clear hK K
              refine kAll_dn _ (fun W hW hF => kStep_w (by kernel_rfl) fun K Q hK => ?_) (fun K hK => ?_)
              · have c0 := (BX.out.drew.keep hW (fun h => h)).cell 2
                simp at c0
                go_simp
                exact hK _ _ (Keep.refl _ _) rfl
              go_simp
              generalize hZ : (Act.mk _ _) = Z
              refine hK Z ?_
              subst hZ
              clear hK K
              refine kAll_dn _ (fun W hW hF => kStep_w (by kernel_rfl) fun K Q hK => ?_) (fun K hK => ?_)
              · have h0 : (fun v W => ∃ A1 c1, v = .slice A1 (goneM rows fl).length c1 ∧ RdRow W A1 (goneM rows fl).length (goneM rows fl)) u0 W := kHas_at hF 0 rfl (by kernel_rfl)
                obtain ⟨A1, c1, rfl, h1⟩ := h0
                go_simp
                refine (rowsSame_any A1 Ar _ nr c1 cr (goneM rows fl) rows W h1 (HR.out.keep0 (keepD (Keep.refl _ _) hW)) (by have := HGL.out; omega) (by omega) HGN.out HNo.out).mono ?_
                rintro e w' ⟨rfl, hk⟩
                rw [HT2.out]
                exact hK _ _ hk rfl
              go_simp
              generalize hZ : (Act.mk _ _) = Z
              refine hK Z ?_
              subst hZ
              clear hK K
              refine kAll_p (fun K hK => ?_)
              go_simp
              generalize hZ : (Act.mk _ _) = Z
              refine hK Z ?_
              subst hZ
              clear hK K
              refine kAll_p (fun K hK => ?_)
              go_simp
              generalize hZ : (Act.mk _ _) = Z
              refine hK Z ?_
              subst hZ
              clear hK K
              refine kAll_pw (by kernel_rfl) (fun K hK => ?_)
              go_simp
              generalize hZ : (Act.mk _ _) = Z
              refine hK Z ?_
              subst hZ
              clear hK K
              refine kAll_dn _ (fun W hW hF => kStep_w (by kernel_rfl) fun K Q hK => ?_) (fun K hK => ?_)
              · have c0 := (BX.out.drew.keep hW (fun h => h)).cell 3
                simp at c0
                go_simp
                exact hK _ _ (Keep.refl _ _) rfl
              go_simp
              generalize hZ : (Act.mk _ _) = Z
              refine hK Z ?_
              subst hZ
              clear hK K
              refine kAll_dn _ (fun W hW hF => kStep_w (by kernel_rfl) fun K Q hK => ?_) (fun K hK => ?_)
              · go_simp
                refine (mayC_any Ac nc cc clk W (HC.out.keep0 (keepD (Keep.refl _ _) hW)) (by omega)).mono ?_
                rintro e w' ⟨rfl, hk⟩
                rw [HT3.out]
                exact hK _ _ hk rfl
              go_simp
              generalize hZ : (Act.mk _ _) = Z
              refine hK Z ?_
              subst hZ
              clear hK K
              refine kAll_p (fun K hK => ?_)
              go_simp
              generalize hZ : (Act.mk _ _) = Z
              refine hK Z ?_
              subst hZ
              clear hK K
              refine kAll_p (fun K hK => ?_)
              go_simp
              generalize hZ : (Act.mk _ _) = Z
              refine hK Z ?_
              subst hZ
              clear hK K
              refine kAll_pw (by kernel_rfl) (fun K hK => ?_)
              go_simp
              generalize hZ : (Act.mk _ _) = Z
              refine hK Z ?_
              subst hZ
              clear hK K
              refine kAll_dn _ (fun W hW hF => kStep_w (by kernel_rfl) fun K Q hK => ?_) (fun K hK => ?_)
              · have c0 := (BX.out.drew.keep hW (fun h => h)).cell 4
                simp at c0
                go_simp
                exact hK _ _ (Keep.refl _ _) rfl
              go_simp
              generalize hZ : (Act.mk _ _) = Z
              refine hK Z ?_
              subst hZ
              clear hK K
              refine kAll_dn _ (fun W hW hF => kStep_w (by kernel_rfl) fun K Q hK => ?_) (fun K hK => ?_)
              · go_simp
                refine (rising_any As ns cs seen W (HS.out.keep0 (keepD (Keep.refl _ _) hW)) (by omega)).mono ?_
                rintro e w' ⟨rfl, hk⟩
                rw [HT4.out]
                exact hK _ _ hk rfl
              go_simp
              generalize hZ : (Act.mk _ _) = Z
              refine hK Z ?_
              subst hZ
              clear hK K
              refine kAll_p (fun K hK => ?_)
              go_simp
              generalize hZ : (Act.mk _ _) = Z
              refine hK Z ?_
              subst hZ
              clear hK K
              refine kAll_p (fun K hK => ?_)
              go_simp
              generalize hZ : (Act.mk _ _) = Z
              refine hK Z ?_
              subst hZ
              clear hK K
              refine kAll_pw (by kernel_rfl) (fun K hK => ?_)
              go_simp
              generalize hZ : (Act.mk _ _) = Z
              refine hK Z ?_
              subst hZ
              clear hK K
              refine kAll_dn _ (fun W hW hF => kStep_w (by kernel_rfl) fun K Q hK => ?_) (fun K hK => ?_)
              · have c0 := (BX.out.drew.keep hW (fun h => h)).cell 4
                simp at c0
                go_simp
                exact hK _ _ (Keep.refl _ _) rfl
              go_simp
              generalize hZ : (Act.mk _ _) = Z
              refine hK Z ?_
              subst hZ
              clear hK K
              refine kAll_dn _ (fun W hW hF => kStep_w (by kernel_rfl) fun K Q hK => ?_) (fun K hK => ?_)
              · go_simp
                refine (each_any As ns cs seen W (HS.out.keep0 (keepD (Keep.refl _ _) hW)) (by omega)).mono ?_
                rintro e w' ⟨rfl, hk⟩
                rw [HT5.out]
                exact hK _ _ hk rfl
              go_simp
              generalize hZ : (Act.mk _ _) = Z
              refine hK Z ?_
              subst hZ
              clear hK K
              refine kAll_p (fun K hK => ?_)
              go_simp
              generalize hZ : (Act.mk _ _) = Z
              refine hK Z ?_
              subst hZ
              clear hK K
              refine kAll_p (fun K hK => ?_)
              go_simp
              generalize hZ : (Act.mk _ _) = Z
              refine hK Z ?_
              subst hZ
              clear hK K
              refine kAll_nil (fun W hW hF => ?_)
              clear hF
              have HW := Lib.hid (keep0_trans _ _ _ KX.out (keepD (Keep.refl _ _) hW))
              clear hW
              go_wp2
              go_ret
              exact ⟨ret_bool HB.out.symm, HW.out⟩
          · have HT4 := Lib.hid h4
            have HB := Lib.hid (show mayV ⟨mem, fl, rows, clk, seen⟩ = false by rw [HO.out, h4]; simp)
            clear h4
            go_wp2_with fail
            refine wp_region_krip (Keep (fun _ => False)) (Keep.refl _) keep0_trans 36 (by kernel_rfl) (by kernel_rfl) (Ts := [none, some (.inl (.slice Am nm cm)), none, some (.inl (.slice Af nf cf)), some (.inl (.bool true)), none, none, some (.inl (.slice Ar nr cr)), some (.inl (.bool true)), none, none, none, some (.inl (.slice Ar nr cr)), none, some (.inl (.slice Af nf cf)), some (.inr (fun v W => ∃ A1 c1, v = .slice A1 (goneM rows fl).length c1 ∧ RdRow W A1 (goneM rows fl).length (goneM rows fl))), none, some (.inl (.slice Ar nr cr)), some (.inl (.bool true)), none, none, none, some (.inl (.slice Ac nc cc)), some (.inl (.bool true)), none, none, none, some (.inl (.slice As ns cs)), some (.inl (.bool false)), none, none, none, none, none, none, none]) ?_
            simp only [List.take, List.drop]
            refine kAll_p (fun K hK => ?_)
            go_simp
            generalize hZ : (Act.mk _ _) = Z
            refine hK Z ?_
            subst hZ
            clear hK K
            refine kAll_dn _ (fun W hW hF => kStep_of fun K Q hK => ?_) (fun K hK => ?_)
            · have c0 := (BX.out.drew.keep hW (fun h => h)).cell 0
              simp at c0
              go_simp
              exact hK _ _ (Keep.refl _ _) rfl
            go_simp
            generalize hZ : (Act.mk _ _) = Z
            refine hK Z ?_
            subst hZ
            clear hK K
            refine kAll_p (fun K hK => ?_)
            go_simp
            generalize hZ : (Act.mk _ _) = Z
            refine hK Z ?_
            subst hZ
            clear hK K
            refine kAll_dn _ (fun W hW hF => kStep_of fun K Q hK => ?_) (fun K hK => ?_)
            · have c0 := (BX.out.drew.keep hW (fun h => h)).cell 1
              simp at c0
              go_simp
              exact hK _ _ (Keep.refl _ _) rfl
            go_simp
            generalize hZ : (Act.mk _ _) = Z
            refine hK Z ?_
            subst hZ
            clear hK K
            refine kAll_dn _ (fun W hW hF => kStep_of fun K Q hK => ?_) (fun K hK => ?_)
            · go_simp
              refine (rmay_any Am Af nm cm nf cf mem fl W (HM.out.keep0 (keepD (Keep.refl _ _) hW)) (HF.out.keep0 (keepD (Keep.refl _ _) hW)) (by omega) (by omega)).mono ?_
              rintro e w' ⟨rfl, hk⟩
              rw [HT0.out]
              exact hK _ _ hk rfl
            go_simp
            generalize hZ : (Act.mk _ _) = Z
            refine hK Z ?_
            subst hZ
            clear hK K
            refine kAll_p (fun K hK => ?_)
            go_simp
            generalize hZ : (Act.mk _ _) = Z
            refine hK Z ?_
            subst hZ
            clear hK K
            refine kAll_pw (by kernel_rfl) (fun K hK => ?_)
            go_simp
            generalize hZ : (Act.mk _ _) = Z
            refine hK Z ?_
            subst hZ
            clear hK K
            refine kAll_dn _ (fun W hW hF => kStep_w (by kernel_rfl) fun K Q hK => ?_) (fun K hK => ?_)
            · have c0 := (BX.out.drew.keep hW (fun h => h)).cell 2
              simp at c0
              go_simp
              exact hK _ _ (Keep.refl _ _) rfl
            go_simp
            generalize hZ : (Act.mk _ _) = Z
            refine hK Z ?_
            subst hZ
            clear hK K
            refine kAll_dn _ (fun W hW hF => kStep_w (by kernel_rfl) fun K Q hK => ?_) (fun K hK => ?_)
            · go_simp
              refine (rowsMay_any Ar nr cr rows W (HR.out.keep0 (keepD (Keep.refl _ _) hW)) (by omega) HNo.out).mono ?_
              rintro e w' ⟨rfl, hk⟩
              rw [HT1.out]
              exact hK _ _ hk rfl
            go_simp
            generalize hZ : (Act.mk _ _) = Z
            refine hK Z ?_
            subst hZ
            clear hK K
            refine kAll_p (fun K hK => ?_)
            go_simp
            generalize hZ : (Act.mk _ _) = Z
            refine hK Z ?_
            subst hZ
            clear hK K
            refine kAll_p (fun K hK => ?_)
            go_simp
            generalize hZ : (Act.mk _ _) = Z
            refine hK Z ?_
            subst hZ
            clear hK K
            refine kAll_pw (by kernel_rfl) (fun K hK => ?_)
            go_simp
            generalize hZ : (Act.mk _ _) = Z
            refine hK Z ?_
            subst hZ
            clear hK K
            refine kAll_dn _ (fun W hW hF => kStep_w (by kernel_rfl) fun K Q hK => ?_) (fun K hK => ?_)
            · have c0 := (BX.out.drew.keep hW (fun h => h)).cell 2
              simp at c0
              go_simp
              exact hK _ _ (Keep.refl _ _) rfl
            go_simp
            generalize hZ : (Act.mk _ _) = Z
            refine hK Z ?_
            subst hZ
            clear hK K
            refine kAll_pw (by kernel_rfl) (fun K hK => ?_)
            go_simp
            generalize hZ : (Act.mk _ _) = Z
            refine hK Z ?_
            subst hZ
            clear hK K
            refine kAll_dn _ (fun W hW hF => kStep_w (by kernel_rfl) fun K Q hK => ?_) (fun K hK => ?_)
            · have c0 := (BX.out.drew.keep hW (fun h => h)).cell 1
              simp at c0
              go_simp
              exact hK _ _ (Keep.refl _ _) rfl
            go_simp
            generalize hZ : (Act.mk _ _) = Z
            refine hK Z ?_
            subst hZ
            clear hK K
            refine kAll_tn _ (fun v W W' hk h => by obtain ⟨A1, c1, e, h⟩ := h; exact ⟨A1, c1, e, h.keep0 hk⟩) (fun W hW hF => kStep_w (by kernel_rfl) fun K Q hK => ?_) (fun u0 K hK => ?_)
            · go_simp
              refine (rgone_any Ar nr cr rows Af nf cf fl W (HR.out.keep0 (keepD (Keep.refl _ _) hW)) (by omega) HNo.out (HF.out.keep0 (keepD (Keep.refl _ _) hW)) (by omega)).mono ?_
              rintro e w' ⟨⟨A1, c1, rfl, h1⟩, hk⟩
              exact hK _ _ hk ⟨A1, c1, rfl, h1⟩
            go_simp
            generalize hZ : (Act.mk _ _) = Z
            refine hK Z ?_
            subst hZ
            clear hK K
            refine kAll_pw (by kernel_rfl) (fun K hK => ?_)
            go_simp
            generalize hZ : (Act.mk _ _) = Z
            refine hK Z ?_
            subst hZ
            clear hK K
            refine kAll_dn _ (fun W hW hF => kStep_w (by kernel_rfl) fun K Q hK => ?_) (fun K hK => ?_)
            · have c0 := (BX.out.drew.keep hW (fun h => h)).cell 2
              simp at c0
              go_simp
              exact hK _ _ (Keep.refl _ _) rfl
            go_simp
            generalize hZ : (Act.mk _ _) = Z
            refine hK Z ?_
            subst hZ
            clear hK K
            refine kAll_dn _ (fun W hW hF => kStep_w (by kernel_rfl) fun K Q hK => ?_) (fun K hK => ?_)
            · have h0 : (fun v W => ∃ A1 c1, v = .slice A1 (goneM rows fl).length c1 ∧ RdRow W A1 (goneM rows fl).length (goneM rows fl)) u0 W := kHas_at hF 0 rfl (by kernel_rfl)
              obtain ⟨A1, c1, rfl, h1⟩ := h0
              go_simp
              refine (rowsSame_any A1 Ar _ nr c1 cr (goneM rows fl) rows W h1 (HR.out.keep0 (keepD (Keep.refl _ _) hW)) (by have := HGL.out; omega) (by omega) HGN.out HNo.out).mono ?_
              rintro e w' ⟨rfl, hk⟩
              rw [HT2.out]
              exact hK _ _ hk rfl
            go_simp
            generalize hZ : (Act.mk _ _) = Z
            refine hK Z ?_
            subst hZ
            clear hK K
            refine kAll_p (fun K hK => ?_)
            go_simp
            generalize hZ : (Act.mk _ _) = Z
            refine hK Z ?_
            subst hZ
            clear hK K
            refine kAll_p (fun K hK => ?_)
            go_simp
            generalize hZ : (Act.mk _ _) = Z
            refine hK Z ?_
            subst hZ
            clear hK K
            refine kAll_pw (by kernel_rfl) (fun K hK => ?_)
            go_simp
            generalize hZ : (Act.mk _ _) = Z
            refine hK Z ?_
            subst hZ
            clear hK K
            refine kAll_dn _ (fun W hW hF => kStep_w (by kernel_rfl) fun K Q hK => ?_) (fun K hK => ?_)
            · have c0 := (BX.out.drew.keep hW (fun h => h)).cell 3
              simp at c0
              go_simp
              exact hK _ _ (Keep.refl _ _) rfl
            go_simp
            generalize hZ : (Act.mk _ _) = Z
            refine hK Z ?_
            subst hZ
            clear hK K
            refine kAll_dn _ (fun W hW hF => kStep_w (by kernel_rfl) fun K Q hK => ?_) (fun K hK => ?_)
            · go_simp
              refine (mayC_any Ac nc cc clk W (HC.out.keep0 (keepD (Keep.refl _ _) hW)) (by omega)).mono ?_
              rintro e w' ⟨rfl, hk⟩
              rw [HT3.out]
              exact hK _ _ hk rfl
            go_simp
            generalize hZ : (Act.mk _ _) = Z
            refine hK Z ?_
            subst hZ
            clear hK K
            refine kAll_p (fun K hK => ?_)
            go_simp
            generalize hZ : (Act.mk _ _) = Z
            refine hK Z ?_
            subst hZ
            clear hK K
            refine kAll_p (fun K hK => ?_)
            go_simp
            generalize hZ : (Act.mk _ _) = Z
            refine hK Z ?_
            subst hZ
            clear hK K
            refine kAll_pw (by kernel_rfl) (fun K hK => ?_)
            go_simp
            generalize hZ : (Act.mk _ _) = Z
            refine hK Z ?_
            subst hZ
            clear hK K
            refine kAll_dn _ (fun W hW hF => kStep_w (by kernel_rfl) fun K Q hK => ?_) (fun K hK => ?_)
            · have c0 := (BX.out.drew.keep hW (fun h => h)).cell 4
              simp at c0
              go_simp
              exact hK _ _ (Keep.refl _ _) rfl
            go_simp
            generalize hZ : (Act.mk _ _) = Z
            refine hK Z ?_
            subst hZ
            clear hK K
            refine kAll_dn _ (fun W hW hF => kStep_w (by kernel_rfl) fun K Q hK => ?_) (fun K hK => ?_)
            · go_simp
              refine (rising_any As ns cs seen W (HS.out.keep0 (keepD (Keep.refl _ _) hW)) (by omega)).mono ?_
              rintro e w' ⟨rfl, hk⟩
              rw [HT4.out]
              exact hK _ _ hk rfl
            go_simp
            generalize hZ : (Act.mk _ _) = Z
            refine hK Z ?_
            subst hZ
            clear hK K
            refine kAll_p (fun K hK => ?_)
            go_simp
            generalize hZ : (Act.mk _ _) = Z
            refine hK Z ?_
            subst hZ
            clear hK K
            refine kAll_p (fun K hK => ?_)
            go_simp
            generalize hZ : (Act.mk _ _) = Z
            refine hK Z ?_
            subst hZ
            clear hK K
            refine kAll_skip (by kernel_rfl) ?_
            refine kAll_skip (by kernel_rfl) ?_
            refine kAll_skip (by kernel_rfl) ?_
            refine kAll_p (fun K hK => ?_)
            go_simp
            generalize hZ : (Act.mk _ _) = Z
            refine hK Z ?_
            subst hZ
            clear hK K
            refine kAll_p (fun K hK => ?_)
            go_simp
            generalize hZ : (Act.mk _ _) = Z
            refine hK Z ?_
            subst hZ
            clear hK K
            refine kAll_nil (fun W hW hF => ?_)
            clear hF
            have HW := Lib.hid (keep0_trans _ _ _ KX.out (keepD (Keep.refl _ _) hW))
            clear hW
            go_wp2
            go_ret
            exact ⟨ret_bool HB.out.symm, HW.out⟩
        · have HT3 := Lib.hid h3
          have HB := Lib.hid (show mayV ⟨mem, fl, rows, clk, seen⟩ = false by rw [HO.out, h3]; simp)
          clear h3
          go_wp2_with fail
          refine wp_region_krip (Keep (fun _ => False)) (Keep.refl _) keep0_trans 36 (by kernel_rfl) (by kernel_rfl) (Ts := [none, some (.inl (.slice Am nm cm)), none, some (.inl (.slice Af nf cf)), some (.inl (.bool true)), none, none, some (.inl (.slice Ar nr cr)), some (.inl (.bool true)), none, none, none, some (.inl (.slice Ar nr cr)), none, some (.inl (.slice Af nf cf)), some (.inr (fun v W => ∃ A1 c1, v = .slice A1 (goneM rows fl).length c1 ∧ RdRow W A1 (goneM rows fl).length (goneM rows fl))), none, some (.inl (.slice Ar nr cr)), some (.inl (.bool true)), none, none, none, some (.inl (.slice Ac nc cc)), some (.inl (.bool false)), none, none, none, none, none, none, none, none, none, none, none, none]) ?_
          simp only [List.take, List.drop]
          refine kAll_p (fun K hK => ?_)
          go_simp
          generalize hZ : (Act.mk _ _) = Z
          refine hK Z ?_
          subst hZ
          clear hK K
          refine kAll_dn _ (fun W hW hF => kStep_of fun K Q hK => ?_) (fun K hK => ?_)
          · have c0 := (BX.out.drew.keep hW (fun h => h)).cell 0
            simp at c0
            go_simp
            exact hK _ _ (Keep.refl _ _) rfl
          go_simp
          generalize hZ : (Act.mk _ _) = Z
          refine hK Z ?_
          subst hZ
          clear hK K
          refine kAll_p (fun K hK => ?_)
          go_simp
          generalize hZ : (Act.mk _ _) = Z
          refine hK Z ?_
          subst hZ
          clear hK K
          refine kAll_dn _ (fun W hW hF => kStep_of fun K Q hK => ?_) (fun K hK => ?_)
          · have c0 := (BX.out.drew.keep hW (fun h => h)).cell 1
            simp at c0
            go_simp
            exact hK _ _ (Keep.refl _ _) rfl
          go_simp
          generalize hZ : (Act.mk _ _) = Z
          refine hK Z ?_
          subst hZ
          clear hK K
          refine kAll_dn _ (fun W hW hF => kStep_of fun K Q hK => ?_) (fun K hK => ?_)
          · go_simp
            refine (rmay_any Am Af nm cm nf cf mem fl W (HM.out.keep0 (keepD (Keep.refl _ _) hW)) (HF.out.keep0 (keepD (Keep.refl _ _) hW)) (by omega) (by omega)).mono ?_
            rintro e w' ⟨rfl, hk⟩
            rw [HT0.out]
            exact hK _ _ hk rfl
          go_simp
          generalize hZ : (Act.mk _ _) = Z
          refine hK Z ?_
          subst hZ
          clear hK K
          refine kAll_p (fun K hK => ?_)
          go_simp
          generalize hZ : (Act.mk _ _) = Z
          refine hK Z ?_
          subst hZ
          clear hK K
          refine kAll_pw (by kernel_rfl) (fun K hK => ?_)
          go_simp
          generalize hZ : (Act.mk _ _) = Z
          refine hK Z ?_
          subst hZ
          clear hK K
          refine kAll_dn _ (fun W hW hF => kStep_w (by kernel_rfl) fun K Q hK => ?_) (fun K hK => ?_)
          · have c0 := (BX.out.drew.keep hW (fun h => h)).cell 2
            simp at c0
            go_simp
            exact hK _ _ (Keep.refl _ _) rfl
          go_simp
          generalize hZ : (Act.mk _ _) = Z
          refine hK Z ?_
          subst hZ
          clear hK K
          refine kAll_dn _ (fun W hW hF => kStep_w (by kernel_rfl) fun K Q hK => ?_) (fun K hK => ?_)
          · go_simp
            refine (rowsMay_any Ar nr cr rows W (HR.out.keep0 (keepD (Keep.refl _ _) hW)) (by omega) HNo.out).mono ?_
            rintro e w' ⟨rfl, hk⟩
            rw [HT1.out]
            exact hK _ _ hk rfl
          go_simp
          generalize hZ : (Act.mk _ _) = Z
          refine hK Z ?_
          subst hZ
          clear hK K
          refine kAll_p (fun K hK => ?_)
          go_simp
          generalize hZ : (Act.mk _ _) = Z
          refine hK Z ?_
          subst hZ
          clear hK K
          refine kAll_p (fun K hK => ?_)
          go_simp
          generalize hZ : (Act.mk _ _) = Z
          refine hK Z ?_
          subst hZ
          clear hK K
          refine kAll_pw (by kernel_rfl) (fun K hK => ?_)
          go_simp
          generalize hZ : (Act.mk _ _) = Z
          refine hK Z ?_
          subst hZ
          clear hK K
          refine kAll_dn _ (fun W hW hF => kStep_w (by kernel_rfl) fun K Q hK => ?_) (fun K hK => ?_)
          · have c0 := (BX.out.drew.keep hW (fun h => h)).cell 2
            simp at c0
            go_simp
            exact hK _ _ (Keep.refl _ _) rfl
          go_simp
          generalize hZ : (Act.mk _ _) = Z
          refine hK Z ?_
          subst hZ
          clear hK K
          refine kAll_pw (by kernel_rfl) (fun K hK => ?_)
          go_simp
          generalize hZ : (Act.mk _ _) = Z
          refine hK Z ?_
          subst hZ
          clear hK K
          refine kAll_dn _ (fun W hW hF => kStep_w (by kernel_rfl) fun K Q hK => ?_) (fun K hK => ?_)
          · have c0 := (BX.out.drew.keep hW (fun h => h)).cell 1
            simp at c0
            go_simp
            exact hK _ _ (Keep.refl _ _) rfl
          go_simp
          generalize hZ : (Act.mk _ _) = Z
          refine hK Z ?_
          subst hZ
          clear hK K
          refine kAll_tn _ (fun v W W' hk h => by obtain ⟨A1, c1, e, h⟩ := h; exact ⟨A1, c1, e, h.keep0 hk⟩) (fun W hW hF => kStep_w (by kernel_rfl) fun K Q hK => ?_) (fun u0 K hK => ?_)
          · go_simp
            refine (rgone_any Ar nr cr rows Af nf cf fl W (HR.out.keep0 (keepD (Keep.refl _ _) hW)) (by omega) HNo.out (HF.out.keep0 (keepD (Keep.refl _ _) hW)) (by omega)).mono ?_
            rintro e w' ⟨⟨A1, c1, rfl, h1⟩, hk⟩
            exact hK _ _ hk ⟨A1, c1, rfl, h1⟩
          go_simp
          generalize hZ : (Act.mk _ _) = Z
          refine hK Z ?_
          subst hZ
          clear hK K
          refine kAll_pw (by kernel_rfl) (fun K hK => ?_)
          go_simp
          generalize hZ : (Act.mk _ _) = Z
          refine hK Z ?_
          subst hZ
          clear hK K
          refine kAll_dn _ (fun W hW hF => kStep_w (by kernel_rfl) fun K Q hK => ?_) (fun K hK => ?_)
          · have c0 := (BX.out.drew.keep hW (fun h => h)).cell 2
            simp at c0
            go_simp
            exact hK _ _ (Keep.refl _ _) rfl
          go_simp
          generalize hZ : (Act.mk _ _) = Z
          refine hK Z ?_
          subst hZ
          clear hK K
          refine kAll_dn _ (fun W hW hF => kStep_w (by kernel_rfl) fun K Q hK => ?_) (fun K hK => ?_)
          · have h0 : (fun v W => ∃ A1 c1, v = .slice A1 (goneM rows fl).length c1 ∧ RdRow W A1 (goneM rows fl).length (goneM rows fl)) u0 W := kHas_at hF 0 rfl (by kernel_rfl)
            obtain ⟨A1, c1, rfl, h1⟩ := h0
            go_simp
            refine (rowsSame_any A1 Ar _ nr c1 cr (goneM rows fl) rows W h1 (HR.out.keep0 (keepD (Keep.refl _ _) hW)) (by have := HGL.out; omega) (by omega) HGN.out HNo.out).mono ?_
            rintro e w' ⟨rfl, hk⟩
            rw [HT2.out]
            exact hK _ _ hk rfl
          go_simp
          generalize hZ : (Act.mk _ _) = Z
          refine hK Z ?_
          subst hZ
          clear hK K
          refine kAll_p (fun K hK => ?_)
          go_simp
          generalize hZ : (Act.mk _ _) = Z
          refine hK Z ?_
          subst hZ
          clear hK K
          refine kAll_p (fun K hK => ?_)
          go_simp
          generalize hZ : (Act.mk _ _) = Z
          refine hK Z ?_
          subst hZ
          clear hK K
          refine kAll_pw (by kernel_rfl) (fun K hK => ?_)
          go_simp
          generalize hZ : (Act.mk _ _) = Z
          refine hK Z ?_
          subst hZ
          clear hK K
          refine kAll_dn _ (fun W hW hF => kStep_w (by kernel_rfl) fun K Q hK => ?_) (fun K hK => ?_)
          · have c0 := (BX.out.drew.keep hW (fun h => h)).cell 3
            simp at c0
            go_simp
            exact hK _ _ (Keep.refl _ _) rfl
          go_simp
          generalize hZ : (Act.mk _ _) = Z
          refine hK Z ?_
          subst hZ
          clear hK K
          refine kAll_dn _ (fun W hW hF => kStep_w (by kernel_rfl) fun K Q hK => ?_) (fun K hK => ?_)
          · go_simp
            refine (mayC_any Ac nc cc clk W (HC.out.keep0 (keepD (Keep.refl _ _) hW)) (by omega)).mono ?_
            rintro e w' ⟨rfl, hk⟩
            rw [HT3.out]
            exact hK _ _ hk rfl
          go_simp
          generalize hZ : (Act.mk _ _) = Z
          refine hK Z ?_
          subst hZ
          clear hK K
          refine kAll_p (fun K hK => ?_)
          go_simp
          generalize hZ : (Act.mk _ _) = Z
          refine hK Z ?_
          subst hZ
          clear hK K
          refine kAll_p (fun K hK => ?_)
          go_simp
          generalize hZ : (Act.mk _ _) = Z
          refine hK Z ?_
          subst hZ
          clear hK K
          refine kAll_skip (by kernel_rfl) ?_
          refine kAll_skip (by kernel_rfl) ?_
          refine kAll_skip (by kernel_rfl) ?_
          refine kAll_p (fun K hK => ?_)
          go_simp
          generalize hZ : (Act.mk _ _) = Z
          refine hK Z ?_
          subst hZ
          clear hK K
          refine kAll_p (fun K hK => ?_)
          go_simp
          generalize hZ : (Act.mk _ _) = Z
          refine hK Z ?_
          subst hZ
          clear hK K
          refine kAll_skip (by kernel_rfl) ?_
          refine kAll_skip (by kernel_rfl) ?_
          refine kAll_skip (by kernel_rfl) ?_
          refine kAll_p (fun K hK => ?_)
          go_simp
          generalize hZ : (Act.mk _ _) = Z
          refine hK Z ?_
          subst hZ
          clear hK K
          refine kAll_p (fun K hK => ?_)
          go_simp
          generalize hZ : (Act.mk _ _) = Z
          refine hK Z ?_
          subst hZ
          clear hK K
          refine kAll_nil (fun W hW hF => ?_)
          clear hF
          have HW := Lib.hid (keep0_trans _ _ _ KX.out (keepD (Keep.refl _ _) hW))
          clear hW
          go_wp2
          go_ret
          exact ⟨ret_bool HB.out.symm, HW.out⟩
      · have HT2 := Lib.hid h2
        have HB := Lib.hid (show mayV ⟨mem, fl, rows, clk, seen⟩ = false by rw [HO.out, h2]; simp)
        clear h2
        go_wp2_with fail
        refine wp_region_krip (Keep (fun _ => False)) (Keep.refl _) keep0_trans 36 (by kernel_rfl) (by kernel_rfl) (Ts := [none, some (.inl (.slice Am nm cm)), none, some (.inl (.slice Af nf cf)), some (.inl (.bool true)), none, none, some (.inl (.slice Ar nr cr)), some (.inl (.bool true)), none, none, none, some (.inl (.slice Ar nr cr)), none, some (.inl (.slice Af nf cf)), some (.inr (fun v W => ∃ A1 c1, v = .slice A1 (goneM rows fl).length c1 ∧ RdRow W A1 (goneM rows fl).length (goneM rows fl))), none, some (.inl (.slice Ar nr cr)), some (.inl (.bool false)), none, none, none, none, none, none, none, none, none, none, none, none, none, none, none, none, none]) ?_
        simp only [List.take, List.drop]
        refine kAll_p (fun K hK => ?_)
        go_simp
        generalize hZ : (Act.mk _ _) = Z
        refine hK Z ?_
        subst hZ
        clear hK K
        refine kAll_dn _ (fun W hW hF => kStep_of fun K Q hK => ?_) (fun K hK => ?_)
        · have c0 := (BX.out.drew.keep hW (fun h => h)).cell 0
          simp at c0
          go_simp
          exact hK _ _ (Keep.refl _ _) rfl
        go_simp
        generalize hZ : (Act.mk _ _) = Z
        refine hK Z ?_
        subst hZ
        clear hK K
        refine kAll_p (fun K hK => ?_)
        go_simp
        generalize hZ : (Act.mk _ _) = Z
        refine hK Z ?_
        subst hZ
        clear hK K
        refine kAll_dn _ (fun W hW hF => kStep_of fun K Q hK => ?_) (fun K hK => ?_)
        · have c0 := (BX.out.drew.keep hW (fun h => h)).cell 1
          simp at c0
          go_simp
          exact hK _ _ (Keep.refl _ _) rfl
        go_simp
        generalize hZ : (Act.mk _ _) = Z
        refine hK Z ?_
        subst hZ
        clear hK K
        refine kAll_dn _ (fun W hW hF => kStep_of fun K Q hK => ?_) (fun K hK => ?_)
        · go_simp
          refine (rmay_any Am Af nm cm nf cf mem fl W (HM.out.keep0 (keepD (Keep.refl _ _) hW)) (HF.out.keep0 (keepD (Keep.refl _ _) hW)) (by omega) (by omega)).mono ?_
          rintro e w' ⟨rfl, hk⟩
          rw [HT0.out]
          exact hK _ _ hk rfl
        go_simp
        generalize hZ : (Act.mk _ _) = Z
        refine hK Z ?_
        subst hZ
        clear hK K
        refine kAll_p (fun K hK => ?_)
        go_simp
        generalize hZ : (Act.mk _ _) = Z
        refine hK Z ?_
        subst hZ
        clear hK K
        refine kAll_pw (by kernel_rfl) (fun K hK => ?_)
        go_simp
        generalize hZ : (Act.mk _ _) = Z
        refine hK Z ?_
        subst hZ
        clear hK K
        refine kAll_dn _ (fun W hW hF => kStep_w (by kernel_rfl) fun K Q hK => ?_) (fun K hK => ?_)
        · have c0 := (BX.out.drew.keep hW (fun h => h)).cell 2
          simp at c0
          go_simp
          exact hK _ _ (Keep.refl _ _) rfl
        go_simp
        generalize hZ : (Act.mk _ _) = Z
        refine hK Z ?_
        subst hZ
        clear hK K
        refine kAll_dn _ (fun W hW hF => kStep_w (by kernel_rfl) fun K Q hK => ?_) (fun K hK => ?_)
        · go_simp
          refine (rowsMay_any Ar nr cr rows W (HR.out.keep0 (keepD (Keep.refl _ _) hW)) (by omega) HNo.out).mono ?_
          rintro e w' ⟨rfl, hk⟩
          rw [HT1.out]
          exact hK _ _ hk rfl
        go_simp
        generalize hZ : (Act.mk _ _) = Z
        refine hK Z ?_
        subst hZ
        clear hK K
        refine kAll_p (fun K hK => ?_)
        go_simp
        generalize hZ : (Act.mk _ _) = Z
        refine hK Z ?_
        subst hZ
        clear hK K
        refine kAll_p (fun K hK => ?_)
        go_simp
        generalize hZ : (Act.mk _ _) = Z
        refine hK Z ?_
        subst hZ
        clear hK K
        refine kAll_pw (by kernel_rfl) (fun K hK => ?_)
        go_simp
        generalize hZ : (Act.mk _ _) = Z
        refine hK Z ?_
        subst hZ
        clear hK K
        refine kAll_dn _ (fun W hW hF => kStep_w (by kernel_rfl) fun K Q hK => ?_) (fun K hK => ?_)
        · have c0 := (BX.out.drew.keep hW (fun h => h)).cell 2
          simp at c0
          go_simp
          exact hK _ _ (Keep.refl _ _) rfl
        go_simp
        generalize hZ : (Act.mk _ _) = Z
        refine hK Z ?_
        subst hZ
        clear hK K
        refine kAll_pw (by kernel_rfl) (fun K hK => ?_)
        go_simp
        generalize hZ : (Act.mk _ _) = Z
        refine hK Z ?_
        subst hZ
        clear hK K
        refine kAll_dn _ (fun W hW hF => kStep_w (by kernel_rfl) fun K Q hK => ?_) (fun K hK => ?_)
        · have c0 := (BX.out.drew.keep hW (fun h => h)).cell 1
          simp at c0
          go_simp
          exact hK _ _ (Keep.refl _ _) rfl
        go_simp
        generalize hZ : (Act.mk _ _) = Z
        refine hK Z ?_
        subst hZ
        clear hK K
        refine kAll_tn _ (fun v W W' hk h => by obtain ⟨A1, c1, e, h⟩ := h; exact ⟨A1, c1, e, h.keep0 hk⟩) (fun W hW hF => kStep_w (by kernel_rfl) fun K Q hK => ?_) (fun u0 K hK => ?_)
        · go_simp
          refine (rgone_any Ar nr cr rows Af nf cf fl W (HR.out.keep0 (keepD (Keep.refl _ _) hW)) (by omega) HNo.out (HF.out.keep0 (keepD (Keep.refl _ _) hW)) (by omega)).mono ?_
          rintro e w' ⟨⟨A1, c1, rfl, h1⟩, hk⟩
          exact hK _ _ hk ⟨A1, c1, rfl, h1⟩
        go_simp
        generalize hZ : (Act.mk _ _) = Z
        refine hK Z ?_
        subst hZ
        clear hK K
        refine kAll_pw (by kernel_rfl) (fun K hK => ?_)
        go_simp
        generalize hZ : (Act.mk _ _) = Z
        refine hK Z ?_
        subst hZ
        clear hK K
        refine kAll_dn _ (fun W hW hF => kStep_w (by kernel_rfl) fun K Q hK => ?_) (fun K hK => ?_)
        · have c0 := (BX.out.drew.keep hW (fun h => h)).cell 2
          simp at c0
          go_simp
          exact hK _ _ (Keep.refl _ _) rfl
        go_simp
        generalize hZ : (Act.mk _ _) = Z
        refine hK Z ?_
        subst hZ
        clear hK K
        refine kAll_dn _ (fun W hW hF => kStep_w (by kernel_rfl) fun K Q hK => ?_) (fun K hK => ?_)
        · have h0 : (fun v W => ∃ A1 c1, v = .slice A1 (goneM rows fl).length c1 ∧ RdRow W A1 (goneM rows fl).length (goneM rows fl)) u0 W := kHas_at hF 0 rfl (by kernel_rfl)
          obtain ⟨A1, c1, rfl, h1⟩ := h0
          go_simp
          refine (rowsSame_any A1 Ar _ nr c1 cr (goneM rows fl) rows W h1 (HR.out.keep0 (keepD (Keep.refl _ _) hW)) (by have := HGL.out; omega) (by omega) HGN.out HNo.out).mono ?_
          rintro e w' ⟨rfl, hk⟩
          rw [HT2.out]
          exact hK _ _ hk rfl
        go_simp
        generalize hZ : (Act.mk _ _) = Z
        refine hK Z ?_
        subst hZ
        clear hK K
        refine kAll_p (fun K hK => ?_)
        go_simp
        generalize hZ : (Act.mk _ _) = Z
        refine hK Z ?_
        subst hZ
        clear hK K
        refine kAll_p (fun K hK => ?_)
        go_simp
        generalize hZ : (Act.mk _ _) = Z
        refine hK Z ?_
        subst hZ
        clear hK K
        refine kAll_skip (by kernel_rfl) ?_
        refine kAll_skip (by kernel_rfl) ?_
        refine kAll_skip (by kernel_rfl) ?_
        refine kAll_p (fun K hK => ?_)
        go_simp
        generalize hZ : (Act.mk _ _) = Z
        refine hK Z ?_
        subst hZ
        clear hK K
        refine kAll_p (fun K hK => ?_)
        go_simp
        generalize hZ : (Act.mk _ _) = Z
        refine hK Z ?_
        subst hZ
        clear hK K
        refine kAll_skip (by kernel_rfl) ?_
        refine kAll_skip (by kernel_rfl) ?_
        refine kAll_skip (by kernel_rfl) ?_
        refine kAll_p (fun K hK => ?_)
        go_simp
        generalize hZ : (Act.mk _ _) = Z
        refine hK Z ?_
        subst hZ
        clear hK K
        refine kAll_p (fun K hK => ?_)
        go_simp
        generalize hZ : (Act.mk _ _) = Z
        refine hK Z ?_
        subst hZ
        clear hK K
        refine kAll_skip (by kernel_rfl) ?_
        refine kAll_skip (by kernel_rfl) ?_
        refine kAll_skip (by kernel_rfl) ?_
        refine kAll_p (fun K hK => ?_)
        go_simp
        generalize hZ : (Act.mk _ _) = Z
        refine hK Z ?_
        subst hZ
        clear hK K
        refine kAll_p (fun K hK => ?_)
        go_simp
        generalize hZ : (Act.mk _ _) = Z
        refine hK Z ?_
        subst hZ
        clear hK K
        refine kAll_nil (fun W hW hF => ?_)
        clear hF
        have HW := Lib.hid (keep0_trans _ _ _ KX.out (keepD (Keep.refl _ _) hW))
        clear hW
        go_wp2
        go_ret
        exact ⟨ret_bool HB.out.symm, HW.out⟩
    · have HT1 := Lib.hid h1
      have HB := Lib.hid (show mayV ⟨mem, fl, rows, clk, seen⟩ = false by rw [HO.out, h1]; simp)
      clear h1
      go_wp2_with fail
      refine wp_region_krip (Keep (fun _ => False)) (Keep.refl _) keep0_trans 36 (by kernel_rfl) (by kernel_rfl) (Ts := [none, some (.inl (.slice Am nm cm)), none, some (.inl (.slice Af nf cf)), some (.inl (.bool true)), none, none, some (.inl (.slice Ar nr cr)), some (.inl (.bool false)), none, none, none, none, none, none, none, none, none, none, none, none, none, none, none, none, none, none, none, none, none, none, none, none, none, none, none]) ?_
      simp only [List.take, List.drop]
      refine kAll_p (fun K hK => ?_)
      go_simp
      generalize hZ : (Act.mk _ _) = Z
      refine hK Z ?_
      subst hZ
      clear hK K
      refine kAll_dn _ (fun W hW hF => kStep_of fun K Q hK => ?_) (fun K hK => ?_)
      · have c0 := (BX.out.drew.keep hW (fun h => h)).cell 0
        simp at c0
        go_simp
        exact hK _ _ (Keep.refl _ _) rfl
      go_simp
      generalize hZ : (Act.mk _ _) = Z
      refine hK Z ?_
      subst hZ
      clear hK K
      refine kAll_p (fun K hK => ?_)
      go_simp
      generalize hZ : (Act.mk _ _) = Z
      refine hK Z ?_
      subst hZ
      clear hK K
      refine kAll_dn _ (fun W hW hF => kStep_of fun K Q hK => ?_) (fun K hK => ?_)
      · have c0 := (BX.out.drew.keep hW (fun h => h)).cell 1
        simp at c0
        go_simp
        exact hK _ _ (Keep.refl _ _) rfl
      go_simp
      generalize hZ : (Act.mk _ _) = Z
      refine hK Z ?_
      subst hZ
      clear hK K
      refine kAll_dn _ (fun W hW hF => kStep_of fun K Q hK => ?_) (fun K hK => ?_)
      · go_simp
        refine (rmay_any Am Af nm cm nf cf mem fl W (HM.out.keep0 (keepD (Keep.refl _ _) hW)) (HF.out.keep0 (keepD (Keep.refl _ _) hW)) (by omega) (by omega)).mono ?_
        rintro e w' ⟨rfl, hk⟩
        rw [HT0.out]
        exact hK _ _ hk rfl
      go_simp
      generalize hZ : (Act.mk _ _) = Z
      refine hK Z ?_
      subst hZ
      clear hK K
      refine kAll_p (fun K hK => ?_)
      go_simp
      generalize hZ : (Act.mk _ _) = Z
      refine hK Z ?_
      subst hZ
      clear hK K
      refine kAll_pw (by kernel_rfl) (fun K hK => ?_)
      go_simp
      generalize hZ : (Act.mk _ _) = Z
      refine hK Z ?_
      subst hZ
      clear hK K
      refine kAll_dn _ (fun W hW hF => kStep_w (by kernel_rfl) fun K Q hK => ?_) (fun K hK => ?_)
      · have c0 := (BX.out.drew.keep hW (fun h => h)).cell 2
        simp at c0
        go_simp
        exact hK _ _ (Keep.refl _ _) rfl
      go_simp
      generalize hZ : (Act.mk _ _) = Z
      refine hK Z ?_
      subst hZ
      clear hK K
      refine kAll_dn _ (fun W hW hF => kStep_w (by kernel_rfl) fun K Q hK => ?_) (fun K hK => ?_)
      · go_simp
        refine (rowsMay_any Ar nr cr rows W (HR.out.keep0 (keepD (Keep.refl _ _) hW)) (by omega) HNo.out).mono ?_
        rintro e w' ⟨rfl, hk⟩
        rw [HT1.out]
        exact hK _ _ hk rfl
      go_simp
      generalize hZ : (Act.mk _ _) = Z
      refine hK Z ?_
      subst hZ
      clear hK K
      refine kAll_p (fun K hK => ?_)
      go_simp
      generalize hZ : (Act.mk _ _) = Z
      refine hK Z ?_
      subst hZ
      clear hK K
      refine kAll_p (fun K hK => ?_)
      go_simp
      generalize hZ : (Act.mk _ _) = Z
      refine hK Z ?_
      subst hZ
      clear hK K
      refine kAll_skip (by kernel_rfl) ?_
      refine kAll_skip (by kernel_rfl) ?_
      refine kAll_skip (by kernel_rfl) ?_
      refine kAll_skip (by kernel_rfl) ?_
      refine kAll_skip (by kernel_rfl) ?_
      refine kAll_skip (by kernel_rfl) ?_
      refine kAll_skip (by kernel_rfl) ?_
      refine kAll_skip (by kernel_rfl) ?_
      refine kAll_p (fun K hK => ?_)
      go_simp
      generalize hZ : (Act.mk _ _) = Z
      refine hK Z ?_
      subst hZ
      clear hK K
      refine kAll_p (fun K hK => ?_)
      go_simp
      generalize hZ : (Act.mk _ _) = Z
      refine hK Z ?_
      subst hZ
      clear hK K
      refine kAll_skip (by kernel_rfl) ?_
      refine kAll_skip (by kernel_rfl) ?_
      refine kAll_skip (by kernel_rfl) ?_
      refine kAll_p (fun K hK => ?_)
      go_simp
      generalize hZ : (Act.mk _ _) = Z
      refine hK Z ?_
      subst hZ
      clear hK K
      refine kAll_p (fun K hK => ?_)
      go_simp
      generalize hZ : (Act.mk _ _) = Z
      refine hK Z ?_
      subst hZ
      clear hK K
      refine kAll_skip (by kernel_rfl) ?_
      refine kAll_skip (by kernel_rfl) ?_
      refine kAll_skip (by kernel_rfl) ?_
      refine kAll_p (fun K hK => ?_)
      go_simp
      generalize hZ : (Act.mk _ _) = Z
      refine hK Z ?_
      subst hZ
      clear hK K
      refine kAll_p (fun K hK => ?_)
      go_simp
      generalize hZ : (Act.mk _ _) = Z
      refine hK Z ?_
      subst hZ
      clear hK K
      refine kAll_skip (by kernel_rfl) ?_
      refine kAll_skip (by kernel_rfl) ?_
      refine kAll_skip (by kernel_rfl) ?_
      refine kAll_p (fun K hK => ?_)
      go_simp
      generalize hZ : (Act.mk _ _) = Z
      refine hK Z ?_
      subst hZ
      clear hK K
      refine kAll_p (fun K hK => ?_)
      go_simp
      generalize hZ : (Act.mk _ _) = Z
      refine hK Z ?_
      subst hZ
      clear hK K
      refine kAll_nil (fun W hW hF => ?_)
      clear hF
      have HW := Lib.hid (keep0_trans _ _ _ KX.out (keepD (Keep.refl _ _) hW))
      clear hW
      go_wp2
      go_ret
      exact ⟨ret_bool HB.out.symm, HW.out⟩
  · have HT0 := Lib.hid h0
    have HB := Lib.hid (show mayV ⟨mem, fl, rows, clk, seen⟩ = false by rw [HO.out, h0]; simp)
    clear h0
    go_wp2_with fail
    refine wp_region_krip (Keep (fun _ => False)) (Keep.refl _) keep0_trans 36 (by kernel_rfl) (by kernel_rfl) (Ts := [none, some (.inl (.slice Am nm cm)), none, some (.inl (.slice Af nf cf)), some (.inl (.bool false)), none, none, none, none, none, none, none, none, none, none, none, none, none, none, none, none, none, none, none, none, none, none, none, none, none, none, none, none, none, none, none]) ?_
    simp only [List.take, List.drop]
    refine kAll_p (fun K hK => ?_)
    go_simp
    generalize hZ : (Act.mk _ _) = Z
    refine hK Z ?_
    subst hZ
    clear hK K
    refine kAll_dn _ (fun W hW hF => kStep_of fun K Q hK => ?_) (fun K hK => ?_)
    · have c0 := (BX.out.drew.keep hW (fun h => h)).cell 0
      simp at c0
      go_simp
      exact hK _ _ (Keep.refl _ _) rfl
    go_simp
    generalize hZ : (Act.mk _ _) = Z
    refine hK Z ?_
    subst hZ
    clear hK K
    refine kAll_p (fun K hK => ?_)
    go_simp
    generalize hZ : (Act.mk _ _) = Z
    refine hK Z ?_
    subst hZ
    clear hK K
    refine kAll_dn _ (fun W hW hF => kStep_of fun K Q hK => ?_) (fun K hK => ?_)
    · have c0 := (BX.out.drew.keep hW (fun h => h)).cell 1
      simp at c0
      go_simp
      exact hK _ _ (Keep.refl _ _) rfl
    go_simp
    generalize hZ : (Act.mk _ _) = Z
    refine hK Z ?_
    subst hZ
    clear hK K
    refine kAll_dn _ (fun W hW hF => kStep_of fun K Q hK => ?_) (fun K hK => ?_)
    · go_simp
      refine (rmay_any Am Af nm cm nf cf mem fl W (HM.out.keep0 (keepD (Keep.refl _ _) hW)) (HF.out.keep0 (keepD (Keep.refl _ _) hW)) (by omega) (by omega)).mono ?_
      rintro e w' ⟨rfl, hk⟩
      rw [HT0.out]
      exact hK _ _ hk rfl
    go_simp
    generalize hZ : (Act.mk _ _) = Z
    refine hK Z ?_
    subst hZ
    clear hK K
    refine kAll_p (fun K hK => ?_)
    go_simp
    generalize hZ : (Act.mk _ _) = Z
    refine hK Z ?_
    subst hZ
    clear hK K
    refine kAll_skip (by kernel_rfl) ?_
    refine kAll_skip (by kernel_rfl) ?_
    refine kAll_skip (by kernel_rfl) ?_
    refine kAll_p (fun K hK => ?_)
    go_simp
    generalize hZ : (Act.mk _ _) = Z
    refine hK Z ?_
    subst hZ
    clear hK K
    refine kAll_p (fun K hK => ?_)
    go_simp
    generalize hZ : (Act.mk _ _) = Z
    refine hK Z ?_
    subst hZ
    clear hK K
    refine kAll_skip (by kernel_rfl) ?_
    refine kAll_skip (by kernel_rfl) ?_
    refine kAll_skip (by kernel_rfl) ?_
    refine kAll_skip (by kernel_rfl) ?_
    refine kAll_skip (by kernel_rfl) ?_
    refine kAll_skip (by kernel_rfl) ?_
    refine kAll_skip (by kernel_rfl) ?_
    refine kAll_skip (by kernel_rfl) ?_
    refine kAll_p (fun K hK => ?_)
    go_simp
    generalize hZ : (Act.mk _ _) = Z
    refine hK Z ?_
    subst hZ
    clear hK K
    refine kAll_p (fun K hK => ?_)
    go_simp
    generalize hZ : (Act.mk _ _) = Z
    refine hK Z ?_
    subst hZ
    clear hK K
    refine kAll_skip (by kernel_rfl) ?_
    refine kAll_skip (by kernel_rfl) ?_
    refine kAll_skip (by kernel_rfl) ?_
    refine kAll_p (fun K hK => ?_)
    go_simp
    generalize hZ : (Act.mk _ _) = Z
    refine hK Z ?_
    subst hZ
    clear hK K
    refine kAll_p (fun K hK => ?_)
    go_simp
    generalize hZ : (Act.mk _ _) = Z
    refine hK Z ?_
    subst hZ
    clear hK K
    refine kAll_skip (by kernel_rfl) ?_
    refine kAll_skip (by kernel_rfl) ?_
    refine kAll_skip (by kernel_rfl) ?_
    refine kAll_p (fun K hK => ?_)
    go_simp
    generalize hZ : (Act.mk _ _) = Z
    refine hK Z ?_
    subst hZ
    clear hK K
    refine kAll_p (fun K hK => ?_)
    go_simp
    generalize hZ : (Act.mk _ _) = Z
    refine hK Z ?_
    subst hZ
    clear hK K
    refine kAll_skip (by kernel_rfl) ?_
    refine kAll_skip (by kernel_rfl) ?_
    refine kAll_skip (by kernel_rfl) ?_
    refine kAll_p (fun K hK => ?_)
    go_simp
    generalize hZ : (Act.mk _ _) = Z
    refine hK Z ?_
    subst hZ
    clear hK K
    refine kAll_p (fun K hK => ?_)
    go_simp
    generalize hZ : (Act.mk _ _) = Z
    refine hK Z ?_
    subst hZ
    clear hK K
    refine kAll_nil (fun W hW hF => ?_)
    clear hF
    have HW := Lib.hid (keep0_trans _ _ _ KX.out (keepD (Keep.refl _ _) hW))
    clear hW
    go_wp2
    go_ret
    exact ⟨ret_bool HB.out.symm, HW.out⟩
end Go.Proofs.YtgoldgamjogadaaGreat

namespace Go.Proofs.YtgoldgamjogadaaGreat
open Go.RowKit Go
set_option maxRecDepth 100000

structure FrM where
  kind : Nat
  frm : ID
  to : ID
  n : Int
  tok : Int
  abt : ID
  view : VwM
deriving instance DecidableEq for FrM
def emptyV (v : VwM) : Bool := decide (v.mem.length + v.fl.length + v.rows.length + v.clk.length + v.seen.length = 0)
def toOK (n : Int) (p : ID) : Bool := if nam n 2 then addrM p else decide (p = (0, 0))
def viewOK (n : Int) (v : VwM) : Bool := if nam n 32 then mayV v else if nam n 64 then mayV v && decide (v.mem.length + v.fl.length + v.rows.length + 0 + 0 = 0) else emptyV v
/-- may a frame be? -/
def mayF (f : FrM) : Bool := !decide (namesM f.kind = 0) && idOK (namesM f.kind) 1 f.frm && idOK (namesM f.kind) 16 f.abt && numOK (namesM f.kind) 4 f.n && numOK (namesM f.kind) 8 f.tok && toOK (namesM f.kind) f.to && viewOK (namesM f.kind) f.view
abbrev cFr (f : FrM) (m l r c s : Value) : List Value := [.int .u8 (f.kind : Int), .int .i64 f.frm.1, .int .i64 f.frm.2, .int .i64 f.to.1, .int .i64 f.to.2, .int .i64 f.n, .int .i64 f.tok, .int .i64 f.abt.1, .int .i64 f.abt.2, m, l, r, c, s]
abbrev frV (f : FrM) (m l r c s : Value) : Value := .agg #[.int .u8 (f.kind : Int), .int .i64 f.frm.1, .int .i64 f.frm.2, .int .i64 f.to.1, .int .i64 f.to.2, .int .i64 f.n, .int .i64 f.tok, .int .i64 f.abt.1, .int .i64 f.abt.2, m, l, r, c, s]
set_option maxHeartbeats 8000000 in
theorem frameMay_any (f : FrM) (m l r c s : Value) (w : World) (hk : f.kind < 256) (hv : IsV w m l r c s f.view) (hf : Few f.view) :
    Calls Tryz.prog 7 #[frV f m l r c s] w (Tell (.bool (mayF f)) w) := by
  obtain ⟨k, ⟨fa, fi⟩, ⟨ta, ti⟩, nn, tok, ⟨ba, bi⟩, ⟨mem, fl, rows, clk, seen⟩⟩ := f
  have HV := Lib.hid hv
  have HFew := Lib.hid hf
  obtain ⟨⟨Am, nm, cm, rfl, hm⟩, ⟨Af, nf, cf, rfl, hfl⟩, ⟨Ar, nr, cr, rfl, hr⟩, ⟨Ac, nc, cc, rfl, hc⟩, ⟨As, ns, cs, rfl, hs⟩, hst⟩ := hv
  obtain ⟨n1, n2, n3, n4, n5, n6⟩ := hf
  simp only at n1 n2 n3 n4 n5 hm hfl hr hc hs hk
  rw [hm.1] at n1
  rw [hfl.1] at n2
  rw [hr.1] at n3
  rw [hc.1] at n4
  rw [hs.1] at n5
  obtain ⟨n0, hn0⟩ : ∃ n, namesM k = n := ⟨_, rfl⟩
  have HO := Lib.hid (show mayF ⟨k, (fa, fi), (ta, ti), nn, tok, (ba, bi), ⟨mem, fl, rows, clk, seen⟩⟩ = (!decide (n0 = 0) && idOK n0 1 (fa, fi) && idOK n0 16 (ba, bi) && numOK n0 4 nn && numOK n0 8 tok && (if nam n0 2 then addrM (ta, ti) else decide ((ta, ti) = (0, 0))) && (if nam n0 32 then mayV ⟨mem, fl, rows, clk, seen⟩ else if nam n0 64 then mayV ⟨mem, fl, rows, clk, seen⟩ && decide (nm + nf + nr + 0 + 0 = 0) else decide (nm + nf + nr + nc + ns = 0))) by
    rw [← hm.1, ← hfl.1, ← hr.1, ← hc.1, ← hs.1, ← hn0]; rfl)
  generalize hF0 : mayF ⟨k, (fa, fi), (ta, ti), nn, tok, (ba, bi), ⟨mem, fl, rows, clk, seen⟩⟩ = B0 at *
  clear hF0
  obtain ⟨W0, hW0⟩ : ∃ W0, w.alloc (.cells #[.int .u8 (k : Int), .int .i64 fa, .int .i64 fi, .int .i64 ta, .int .i64 ti, .int .i64 nn, .int .i64 tok, .int .i64 ba, .int .i64 bi, .slice Am nm cm, .slice Af nf cf, .slice Ar nr cr, .slice Ac nc cc, .slice As ns cs] 39) = W0 := ⟨_, rfl⟩
  have hb : Blk W0 w.heap.size 39 #[.int .u8 (k : Int), .int .i64 fa, .int .i64 fi, .int .i64 ta, .int .i64 ti, .int .i64 nn, .int .i64 tok, .int .i64 ba, .int .i64 bi, .slice Am nm cm, .slice Af nf cf, .slice Ar nr cr, .slice Ac nc cc, .slice As ns cs] := by rw [← hW0]; exact Blk.new _ _ _
  have hk0 : Keep (fun _ => False) w W0 := by rw [← hW0]; exact (Keep.refl _ w).alloc _
  have x0 := hb.cell 0
  simp at x0
  have BX := Lib.hid hb
  have KK := Lib.hid hk0
  have HN0 := Lib.hid hn0
  have G := gID
  clear hm hfl hr hc hs hst n6 hb hk0 hn0
  go_enter Tryz.func7, Tryz.ntmps7
  go_wp2_with fail
  refine (fnames_any k hk _).mono ?_
  rintro e W ⟨rfl, hk1⟩
  rw [HN0.out]
  have hbn := Blk.new W 3 #[.int .i64 n0]
  have hk2 := (Keep.refl (fun _ => False) W).alloc (.cells #[.int .i64 n0] 3)
  have BX := Lib.hid ((BX.out.keep hk1 (fun h => h)).keep hk2 (fun h => h))
  have KK := Lib.hid (keep0_trans _ _ _ (keep0_trans _ _ _ KK.out hk1) hk2)
  obtain ⟨Bn, hBn⟩ : ∃ b, W.heap.size = b := ⟨_, rfl⟩
  rw [hBn] at hbn
  have BN := Lib.hid hbn
  clear hbn hk1 hk2 x0
  by_cases h0 : n0 = 0
  · have HB := Lib.hid (show B0 = false by rw [HO.out, decide_eq_true h0]; rfl)
    have h1 : (n0 == 0) = true := by simpa using h0
    subst h0
    have hn := BN.out.cell 0
    simp at hn
    go_wp2
    go_ret
    exact ⟨by rw [HB.out]; rfl, KK.out⟩
  · rw [decide_eq_false h0] at HO
    have h1 : (n0 == 0) = false := by simpa using h0
    have hn := BN.out.cell 0
    simp at hn
    have x1 := BX.out.cell 1
    have x2 := BX.out.cell 2
    simp at x1 x2
    go_wp2_with fail
    refine (fmay1_any _ n0 1 (fa, fi) _ (BN.out.cell 0)).mono ?_
    rintro e W ⟨rfl, hk⟩
    have BX := Lib.hid (BX.out.keep hk (fun h => h))
    have BN := Lib.hid (BN.out.keep hk (fun h => h))
    have KK := Lib.hid (keep0_trans _ _ _ KK.out hk)
    clear hk
    clear hn x1 x2
    rcases Bool.eq_false_or_eq_true (idOK n0 1 (fa, fi)) with hc | hc
    · rw [hc] at HO ⊢
      clear hc
      have hn := BN.out.cell 0
      simp at hn
      have x7 := BX.out.cell 7
      have x8 := BX.out.cell 8
      simp at x7 x8
      go_wp2_with fail
      refine (fmay1_any _ n0 16 (ba, bi) _ (BN.out.cell 0)).mono ?_
      rintro e W ⟨rfl, hk⟩
      have BX := Lib.hid (BX.out.keep hk (fun h => h))
      have BN := Lib.hid (BN.out.keep hk (fun h => h))
      have KK := Lib.hid (keep0_trans _ _ _ KK.out hk)
      clear hk
      clear hn x7 x8
      rcases Bool.eq_false_or_eq_true (idOK n0 16 (ba, bi)) with hc | hc
      · rw [hc] at HO ⊢
        clear hc
        have hn := BN.out.cell 0
        simp at hn
        have x5 := BX.out.cell 5
        simp at x5
        go_wp2_with fail
        refine (fmay2_any _ n0 4 nn _ (BN.out.cell 0)).mono ?_
        rintro e W ⟨rfl, hk⟩
        have BX := Lib.hid (BX.out.keep hk (fun h => h))
        have BN := Lib.hid (BN.out.keep hk (fun h => h))
        have KK := Lib.hid (keep0_trans _ _ _ KK.out hk)
        clear hk
        clear hn x5
        rcases Bool.eq_false_or_eq_true (numOK n0 4 nn) with hc | hc
        · rw [hc] at HO ⊢
          clear hc
          have hn := BN.out.cell 0
          simp at hn
          have x6 := BX.out.cell 6
          simp at x6
          go_wp2_with fail
          refine (fmay2_any _ n0 8 tok _ (BN.out.cell 0)).mono ?_
          rintro e W ⟨rfl, hk⟩
          have BX := Lib.hid (BX.out.keep hk (fun h => h))
          have BN := Lib.hid (BN.out.keep hk (fun h => h))
          have KK := Lib.hid (keep0_trans _ _ _ KK.out hk)
          clear hk
          clear hn x6
          rcases Bool.eq_false_or_eq_true (numOK n0 8 tok) with hc | hc
          · rw [hc] at HO ⊢
            clear hc
            obtain ⟨b2, hb2⟩ : ∃ b, bits .and .i64 n0 2 = b := ⟨_, rfl⟩
            by_cases h2 : b2 = 0
            · have g2 : (b2 == 0) = true := by simpa using h2
              have f2 : (b2 != 0) = false := by simpa using h2
              have HNm2 := Lib.hid (show nam n0 2 = false by unfold nam; rw [hb2, decide_eq_true h2]; rfl)
              rw [HNm2.out] at HO
              by_cases ht : (ta, ti) = ((0, 0) : ID)
              · have HT := Lib.hid (decide_eq_true ht)
                rw [HT.out] at HO
                have E := (fun W => by simpa [ht] using neq_ID (ta, ti) (0, 0) W : ∀ W, (binOp .neq 24 (idV (ta, ti)) (idV (0, 0))).run Tryz.prog W = .ok (.bool false) W)
                clear ht HT
                have x3 := BX.out.cell 3
                have x4 := BX.out.cell 4
                simp at x3 x4
                obtain ⟨b32, hb32⟩ : ∃ b, bits .and .i64 n0 32 = b := ⟨_, rfl⟩
                by_cases h32 : b32 = 0
                · have g32 : (b32 == 0) = true := by simpa using h32
                  have f32 : (b32 != 0) = false := by simpa using h32
                  have HNm32 := Lib.hid (show nam n0 32 = false by unfold nam; rw [hb32, decide_eq_true h32]; rfl)
                  rw [HNm32.out] at HO
                  obtain ⟨b64, hb64⟩ : ∃ b, bits .and .i64 n0 64 = b := ⟨_, rfl⟩
                  by_cases h64 : b64 = 0
                  · have g64 : (b64 == 0) = true := by simpa using h64
                    have f64 : (b64 != 0) = false := by simpa using h64
                    have HNm64 := Lib.hid (show nam n0 64 = false by unfold nam; rw [hb64, decide_eq_true h64]; rfl)
                    rw [HNm64.out] at HO
                    have hn := BN.out.cell 0
                    simp at hn
                    have x9 := BX.out.cell 9
                    have x10 := BX.out.cell 10
                    have x11 := BX.out.cell 11
                    have x12 := BX.out.cell 12
                    have x13 := BX.out.cell 13
                    simp at x9 x10 x11 x12 x13
                    go_wp2_with fail
                    refine (fempty_any Am Af Ar Ac As nm nf nr nc ns cm cf cr cc cs _ (by omega)).mono ?_
                    rintro e W ⟨rfl, hk⟩
                    have BX := Lib.hid (BX.out.keep hk (fun h => h))
                    have BN := Lib.hid (BN.out.keep hk (fun h => h))
                    have KK := Lib.hid (keep0_trans _ _ _ KK.out hk)
                    clear hk
                    clear hn x9 x10 x11 x12 x13
                    have HB := Lib.hid (show B0 = decide (nm + nf + nr + nc + ns = 0) by rw [HO.out]; rfl)
                    go_wp2
                    go_ret
                    refine ⟨ret_bool ?_, KK.out⟩
                    rw [HB.out]
                    first | done | rfl | (rw [Bool.eq_iff_iff]; simp; done) | (rw [Bool.eq_iff_iff]; simp; omega)
                  · have g64 : (b64 == 0) = false := by simpa using h64
                    have f64 : (b64 != 0) = true := by simpa using h64
                    have HNm64 := Lib.hid (show nam n0 64 = true by unfold nam; rw [hb64, decide_eq_false h64]; rfl)
                    rw [HNm64.out] at HO
                    have hn := BN.out.cell 0
                    simp at hn
                    have x9 := BX.out.cell 9
                    have x10 := BX.out.cell 10
                    have x11 := BX.out.cell 11
                    have x12 := BX.out.cell 12
                    have x13 := BX.out.cell 13
                    simp at x9 x10 x11 x12 x13
                    go_wp2_with fail
                    refine (viewMay_any _ _ _ _ _ ⟨mem, fl, rows, clk, seen⟩ _ (HV.out.keep0 KK.out) HFew.out).mono ?_
                    rintro e W ⟨rfl, hk⟩
                    have BX := Lib.hid (BX.out.keep hk (fun h => h))
                    have BN := Lib.hid (BN.out.keep hk (fun h => h))
                    have KK := Lib.hid (keep0_trans _ _ _ KK.out hk)
                    clear hk
                    clear hn x9 x10 x11 x12 x13
                    rcases Bool.eq_false_or_eq_true (mayV ⟨mem, fl, rows, clk, seen⟩) with hv | hv
                    · rw [hv] at HO ⊢
                      clear hv
                      have hn := BN.out.cell 0
                      simp at hn
                      have x9 := BX.out.cell 9
                      have x10 := BX.out.cell 10
                      have x11 := BX.out.cell 11
                      simp at x9 x10 x11
                      go_wp2_with fail
                      refine (fempty_any Am Af Ar none none nm nf nr 0 0 cm cf cr 0 0 _ (by omega)).mono ?_
                      rintro e W ⟨rfl, hk⟩
                      have KK := Lib.hid (keep0_trans _ _ _ KK.out hk)
                      clear hk
                      clear hn x9 x10 x11
                      have HB := Lib.hid (show B0 = decide (nm + nf + nr + 0 + 0 = 0) by rw [HO.out]; rfl)
                      go_wp2
                      go_ret
                      refine ⟨ret_bool ?_, KK.out⟩
                      rw [HB.out]
                      first | done | rfl | (rw [Bool.eq_iff_iff]; simp; done) | (rw [Bool.eq_iff_iff]; simp; omega)
                    · rw [hv] at HO ⊢
                      clear hv
                      have HB := Lib.hid (show B0 = false by rw [HO.out]; rfl)
                      go_wp2
                      go_ret
                      refine ⟨ret_bool ?_, KK.out⟩
                      rw [HB.out]
                      first | done | rfl | (rw [Bool.eq_iff_iff]; simp; done) | (rw [Bool.eq_iff_iff]; simp; omega)
                · have g32 : (b32 == 0) = false := by simpa using h32
                  have f32 : (b32 != 0) = true := by simpa using h32
                  have HNm32 := Lib.hid (show nam n0 32 = true by unfold nam; rw [hb32, decide_eq_false h32]; rfl)
                  rw [HNm32.out] at HO
                  have hn := BN.out.cell 0
                  simp at hn
                  have x9 := BX.out.cell 9
                  have x10 := BX.out.cell 10
                  have x11 := BX.out.cell 11
                  have x12 := BX.out.cell 12
                  have x13 := BX.out.cell 13
                  simp at x9 x10 x11 x12 x13
                  go_wp2_with fail
                  refine (viewMay_any _ _ _ _ _ ⟨mem, fl, rows, clk, seen⟩ _ (HV.out.keep0 KK.out) HFew.out).mono ?_
                  rintro e W ⟨rfl, hk⟩
                  have BX := Lib.hid (BX.out.keep hk (fun h => h))
                  have BN := Lib.hid (BN.out.keep hk (fun h => h))
                  have KK := Lib.hid (keep0_trans _ _ _ KK.out hk)
                  clear hk
                  clear hn x9 x10 x11 x12 x13
                  have HB := Lib.hid (show B0 = mayV ⟨mem, fl, rows, clk, seen⟩ by rw [HO.out]; rfl)
                  go_wp2
                  go_ret
                  refine ⟨ret_bool ?_, KK.out⟩
                  rw [HB.out]
                  first | done | rfl | (rw [Bool.eq_iff_iff]; simp; done) | (rw [Bool.eq_iff_iff]; simp; omega)
              · have HT := Lib.hid (decide_eq_false ht)
                have HB := Lib.hid (show B0 = false by rw [HO.out, HT.out]; simp)
                have E := (fun W => by simpa [ht] using neq_ID (ta, ti) (0, 0) W : ∀ W, (binOp .neq 24 (idV (ta, ti)) (idV (0, 0))).run Tryz.prog W = .ok (.bool true) W)
                clear ht HT
                have hn := BN.out.cell 0
                simp at hn
                have x3 := BX.out.cell 3
                have x4 := BX.out.cell 4
                simp at x3 x4
                go_wp2
                go_ret
                exact ⟨by rw [HB.out]; rfl, KK.out⟩
            · have g2 : (b2 == 0) = false := by simpa using h2
              have f2 : (b2 != 0) = true := by simpa using h2
              have HNm2 := Lib.hid (show nam n0 2 = true by unfold nam; rw [hb2, decide_eq_false h2]; rfl)
              rw [HNm2.out] at HO
              have hn := BN.out.cell 0
              simp at hn
              have x3 := BX.out.cell 3
              have x4 := BX.out.cell 4
              simp at x3 x4
              go_wp2_with fail
              refine (faddress_any (ta, ti) _).mono ?_
              rintro e W ⟨rfl, hk⟩
              have BX := Lib.hid (BX.out.keep hk (fun h => h))
              have BN := Lib.hid (BN.out.keep hk (fun h => h))
              have KK := Lib.hid (keep0_trans _ _ _ KK.out hk)
              clear hk
              clear hn x3 x4
              rcases Bool.eq_false_or_eq_true (addrM (ta, ti)) with ht | ht
              · rw [ht] at HO ⊢
                clear ht
                obtain ⟨b32, hb32⟩ : ∃ b, bits .and .i64 n0 32 = b := ⟨_, rfl⟩
                by_cases h32 : b32 = 0
                · have g32 : (b32 == 0) = true := by simpa using h32
                  have f32 : (b32 != 0) = false := by simpa using h32
                  have HNm32 := Lib.hid (show nam n0 32 = false by unfold nam; rw [hb32, decide_eq_true h32]; rfl)
                  rw [HNm32.out] at HO
                  obtain ⟨b64, hb64⟩ : ∃ b, bits .and .i64 n0 64 = b := ⟨_, rfl⟩
                  by_cases h64 : b64 = 0
                  · have g64 : (b64 == 0) = true := by simpa using h64
                    have f64 : (b64 != 0) = false := by simpa using h64
                    have HNm64 := Lib.hid (show nam n0 64 = false by unfold nam; rw [hb64, decide_eq_true h64]; rfl)
                    rw [HNm64.out] at HO
                    have hn := BN.out.cell 0
                    simp at hn
                    have x9 := BX.out.cell 9
                    have x10 := BX.out.cell 10
                    have x11 := BX.out.cell 11
                    have x12 := BX.out.cell 12
                    have x13 := BX.out.cell 13
                    simp at x9 x10 x11 x12 x13
                    go_wp2_with fail
                    refine (fempty_any Am Af Ar Ac As nm nf nr nc ns cm cf cr cc cs _ (by omega)).mono ?_
                    rintro e W ⟨rfl, hk⟩
                    have BX := Lib.hid (BX.out.keep hk (fun h => h))
                    have BN := Lib.hid (BN.out.keep hk (fun h => h))
                    have KK := Lib.hid (keep0_trans _ _ _ KK.out hk)
                    clear hk
                    clear hn x9 x10 x11 x12 x13
                    have HB := Lib.hid (show B0 = decide (nm + nf + nr + nc + ns = 0) by rw [HO.out]; rfl)
                    go_wp2
                    go_ret
                    refine ⟨ret_bool ?_, KK.out⟩
                    rw [HB.out]
                    first | done | rfl | (rw [Bool.eq_iff_iff]; simp; done) | (rw [Bool.eq_iff_iff]; simp; omega)
                  · have g64 : (b64 == 0) = false := by simpa using h64
                    have f64 : (b64 != 0) = true := by simpa using h64
                    have HNm64 := Lib.hid (show nam n0 64 = true by unfold nam; rw [hb64, decide_eq_false h64]; rfl)
                    rw [HNm64.out] at HO
                    have hn := BN.out.cell 0
                    simp at hn
                    have x9 := BX.out.cell 9
                    have x10 := BX.out.cell 10
                    have x11 := BX.out.cell 11
                    have x12 := BX.out.cell 12
                    have x13 := BX.out.cell 13
                    simp at x9 x10 x11 x12 x13
                    go_wp2_with fail
                    refine (viewMay_any _ _ _ _ _ ⟨mem, fl, rows, clk, seen⟩ _ (HV.out.keep0 KK.out) HFew.out).mono ?_
                    rintro e W ⟨rfl, hk⟩
                    have BX := Lib.hid (BX.out.keep hk (fun h => h))
                    have BN := Lib.hid (BN.out.keep hk (fun h => h))
                    have KK := Lib.hid (keep0_trans _ _ _ KK.out hk)
                    clear hk
                    clear hn x9 x10 x11 x12 x13
                    rcases Bool.eq_false_or_eq_true (mayV ⟨mem, fl, rows, clk, seen⟩) with hv | hv
                    · rw [hv] at HO ⊢
                      clear hv
                      have hn := BN.out.cell 0
                      simp at hn
                      have x9 := BX.out.cell 9
                      have x10 := BX.out.cell 10
                      have x11 := BX.out.cell 11
                      simp at x9 x10 x11
                      go_wp2_with fail
                      refine (fempty_any Am Af Ar none none nm nf nr 0 0 cm cf cr 0 0 _ (by omega)).mono ?_
                      rintro e W ⟨rfl, hk⟩
                      have KK := Lib.hid (keep0_trans _ _ _ KK.out hk)
                      clear hk
                      clear hn x9 x10 x11
                      have HB := Lib.hid (show B0 = decide (nm + nf + nr + 0 + 0 = 0) by rw [HO.out]; rfl)
                      go_wp2
                      go_ret
                      refine ⟨ret_bool ?_, KK.out⟩
                      rw [HB.out]
                      first | done | rfl | (rw [Bool.eq_iff_iff]; simp; done) | (rw [Bool.eq_iff_iff]; simp; omega)
                    · rw [hv] at HO ⊢
                      clear hv
                      have HB := Lib.hid (show B0 = false by rw [HO.out]; rfl)
                      go_wp2
                      go_ret
                      refine ⟨ret_bool ?_, KK.out⟩
                      rw [HB.out]
                      first | done | rfl | (rw [Bool.eq_iff_iff]; simp; done) | (rw [Bool.eq_iff_iff]; simp; omega)
                · have g32 : (b32 == 0) = false := by simpa using h32
                  have f32 : (b32 != 0) = true := by simpa using h32
                  have HNm32 := Lib.hid (show nam n0 32 = true by unfold nam; rw [hb32, decide_eq_false h32]; rfl)
                  rw [HNm32.out] at HO
                  have hn := BN.out.cell 0
                  simp at hn
                  have x9 := BX.out.cell 9
                  have x10 := BX.out.cell 10
                  have x11 := BX.out.cell 11
                  have x12 := BX.out.cell 12
                  have x13 := BX.out.cell 13
                  simp at x9 x10 x11 x12 x13
                  go_wp2_with fail
                  refine (viewMay_any _ _ _ _ _ ⟨mem, fl, rows, clk, seen⟩ _ (HV.out.keep0 KK.out) HFew.out).mono ?_
                  rintro e W ⟨rfl, hk⟩
                  have BX := Lib.hid (BX.out.keep hk (fun h => h))
                  have BN := Lib.hid (BN.out.keep hk (fun h => h))
                  have KK := Lib.hid (keep0_trans _ _ _ KK.out hk)
                  clear hk
                  clear hn x9 x10 x11 x12 x13
                  have HB := Lib.hid (show B0 = mayV ⟨mem, fl, rows, clk, seen⟩ by rw [HO.out]; rfl)
                  go_wp2
                  go_ret
                  refine ⟨ret_bool ?_, KK.out⟩
                  rw [HB.out]
                  first | done | rfl | (rw [Bool.eq_iff_iff]; simp; done) | (rw [Bool.eq_iff_iff]; simp; omega)
              · rw [ht] at HO ⊢
                clear ht
                have HB := Lib.hid (show B0 = false by rw [HO.out]; simp)
                have hn := BN.out.cell 0
                simp at hn
                go_wp2
                go_ret
                exact ⟨by rw [HB.out]; rfl, KK.out⟩
          · rw [hc] at HO ⊢
            clear hc
            have HB := Lib.hid (show B0 = false by rw [HO.out]; simp)
            have hn := BN.out.cell 0
            simp at hn
            go_wp2
            go_ret
            exact ⟨by rw [HB.out]; rfl, KK.out⟩
        · rw [hc] at HO ⊢
          clear hc
          have HB := Lib.hid (show B0 = false by rw [HO.out]; simp)
          have hn := BN.out.cell 0
          simp at hn
          go_wp2
          go_ret
          exact ⟨by rw [HB.out]; rfl, KK.out⟩
      · rw [hc] at HO ⊢
        clear hc
        have HB := Lib.hid (show B0 = false by rw [HO.out]; simp)
        have hn := BN.out.cell 0
        simp at hn
        go_wp2
        go_ret
        exact ⟨by rw [HB.out]; rfl, KK.out⟩
    · rw [hc] at HO ⊢
      clear hc
      have HB := Lib.hid (show B0 = false by rw [HO.out]; simp)
      have hn := BN.out.cell 0
      simp at hn
      go_wp2
      go_ret
      exact ⟨by rw [HB.out]; rfl, KK.out⟩
end Go.Proofs.YtgoldgamjogadaaGreat
