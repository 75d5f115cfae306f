/-
  The reference's Put at IDs. Written by gen_ref3d.py.
-/
import Derived.Test.YtenphdgnaknbeaaRef3C
namespace Go.Proofs.Ytenphdgnaknbeaa
open Go.RowKit
attribute [local irreducible] kAll
attribute [local go_sem] kQuiet kQuietUpon

/-- a value that is a slice of IDs, to be read -/
def IsI (W : World) (v : Value) (l : List ID) : Prop := ∃ A n c, v = .slice A n c ∧ ISl W A n c l
theorem IsI.keep0 {W W' : World} {v : Value} {l : List ID} (h : IsI W v l) (hk : Keep (fun _ => False) W W') : IsI W' v l := by
  obtain ⟨A, n, c, e, h⟩ := h; exact ⟨A, n, c, e, h.keep0 hk⟩
set_option maxRecDepth 100000 in
set_option maxHeartbeats 2000000 in
theorem putSR_any (A : Option Addr) (n c : Nat) (l : List ID) (x : ID) (w : World) (h : RdI w A n l) (hn : n ≤ 1000000) :
    Calls Try.prog 41 #[.slice A n c, idV x] w (GotI (setM (l ++ [x])) w) := by
  obtain ⟨a, i⟩ := x
  have HR := Lib.hid h
  have HL := Lib.hid h.1
  clear h
  have HB := Lib.hid (Blk.new w 33 #[.int .i64 a, .int .i64 i])
  have HK0 := Lib.hid ((Keep.refl (fun _ => False) w).alloc (.cells #[.int .i64 a, .int .i64 i] 33))
  go_enter Try.func41, Try.ntmps41
  go_wp2_with fail
  refine wp_region_krip (Keep (fun _ => False)) (Keep.refl _) keep0_trans 4 (by kernel_rfl) (by kernel_rfl) (Ts := [none, some (.inr (fun v W => IsI W v (setM l))), some (.inl (idV (a, i))), some (.inr (fun v W => IsI W v (putR (setM l) (a, i))))]) ?_
  simp only [List.take, List.drop]
  refine kAll_p (fun K hK => ?_)
  go_simp
  generalize hZ : (Act.mk _ _) = Z
  refine hK Z ?_
  subst hZ
  clear hK K
  refine kAll_tn _ (fun v W W' hk h => h.keep0 hk) (fun W hW hF => kStep_of fun K Q hK => ?_) (fun u0 K hK => ?_)
  · have hl := HR.out.keep0 (keep0_trans _ _ _ HK0.out.drew hW)
    go_simp
    refine (setR_any A n c l W hl hn).mono ?_
    rintro e w' ⟨A', n', c', rfl, hs, hk⟩
    exact hK _ _ hk ⟨A', n', c', rfl, hs⟩
  go_simp
  generalize hZ : (Act.mk _ _) = Z
  refine hK Z ?_
  subst hZ
  clear hK K
  refine kAll_dn _ (fun W hW hF => kStep_of fun K Q hK => ?_) (fun K hK => ?_)
  · have c0 := hW.cell (show World.cell? (World.drew _) ⟨w.heap.size, 0, none⟩ = some (.int .i64 a) from HB.out.cell 0) (fun h => h)
    have c1 := hW.cell (show World.cell? (World.drew _) ⟨w.heap.size, 1, none⟩ = some (.int .i64 i) from HB.out.cell 1) (fun h => h)
    go_simp
    exact hK _ _ (Keep.refl _ _) rfl
  go_simp
  generalize hZ : (Act.mk _ _) = Z
  refine hK Z ?_
  subst hZ
  clear hK K
  refine kAll_tn _ (fun v W W' hk h => h.keep0 hk) (fun W hW hF => kStep_of fun K Q hK => ?_) (fun u1 K hK => ?_)
  · obtain ⟨A0, n0, c0, rfl, h0⟩ := (show IsI W u0 (setM l) from kHas_at hF 0 rfl (by kernel_rfl))
    go_simp
    refine (putR_any A0 n0 c0 (setM l) (a, i) W h0 (setM_ris _) (by have := h0.1.1; have := setM_len l; rw [HL.out] at this; omega)).mono ?_
    rintro e w' ⟨A', n', c', rfl, hs, hk⟩
    exact hK _ _ hk ⟨A', n', c', rfl, hs⟩
  go_simp
  generalize hZ : (Act.mk _ _) = Z
  refine hK Z ?_
  subst hZ
  clear hK K
  refine kAll_nil (fun W hW hF => ?_)
  obtain ⟨A9, n9, c9, rfl, h9⟩ := (show IsI W u1 (putR (setM l) (a, i)) from hF.1)
  have H9 := Lib.hid h9
  clear hF h9
  go_wp2
  go_ret
  refine ⟨A9, n9, c9, rfl, ?_, keepD HK0.out hW⟩
  have := H9.out
  rw [putR_set (setM_ris _), setM_ext (m := l ++ [(a, i)]) (fun x => by simp [setM_mem])] at this
  exact this
end Go.Proofs.Ytenphdgnaknbeaa
