/-
  config: what the keys' closures set.
-/
import Derived.Test.YtjgkalcldekmpaaGreatDoorCfgM
namespace Go.Proofs.YtjgkalcldekmpaaGreatDoor
open Go.RowKit Go
set_option maxRecDepth 100000
attribute [local go_sem] bs_toList bs_size bs_zero

set_option maxHeartbeats 1000000 in
theorem setNum_any (i : Nat) (hi : isNum i) (B b : Nat) (row : Option Nat) (c : Cfg) (l : Bs) (w : World) (hE : Env w) (hl : l.length ≤ 40000000)
    (hB : Blk w B 83 #[.func (.func (atF i)) #[] #[]]) (h : OC w b row c) :
    Calls Tryz.prog 81 #[.pointer (some ⟨b, 0, none⟩), .string (bs l), .pointer (some ⟨B, 0, none⟩)] w (SetPost i b row c l w) := by
  have HE := Lib.hid hE
  have HB := Lib.hid hB
  have HO := Lib.hid h
  have HI := Lib.hid hi
  have eg := at_enters i (.inl hi)
  have b0 := hB.cell 0
  simp at b0
  clear hE hB h hi
  go_enter Tryz.func81, Tryz.ntmps81
  go_wp2_with fail
  refine (at_any i (.inl HI.out) b _).mono ?_
  rintro e w1 ⟨rfl, rfl⟩
  go_wp2_with fail
  refine (number_any l _ HE.out hl).mono ?_
  rintro e w2 ⟨⟨n, rfl, hn⟩, hk⟩
  obtain ⟨⟨v0, c0⟩, f0, hst⟩ := (HO.out.keep0 hk).store HI.out.1 HI.out.2.1
  have HK := Lib.hid hk
  have HN := Lib.hid hn
  have HSt := Lib.hid hst
  clear hk hn hst
  go_wp2
  go_ret
  have hx := HSt.out n
  rw [cV_num HI.out] at hx
  refine ⟨by rw [setM_num HI.out, Option.isSome_map]; rfl, fun c' hc => ⟨row, ?_, .inl rfl⟩, hx.1.cells, (HK.out.mono fun _ _ h => h.elim).trans (hx.2.mono fun g _ hg => .inl (.inl hg))⟩
  rw [setM_num HI.out] at hc
  obtain ⟨m, hm, rfl⟩ := Option.map_eq_some_iff.1 hc
  rw [← HN.out m hm]
  exact hx.1
set_option maxHeartbeats 1000000 in
theorem setFlag_any (i : Nat) (hi : isFlag i) (B b : Nat) (row : Option Nat) (c : Cfg) (l : Bs) (w : World) (hB : Blk w B 86 #[.func (.func (atF i)) #[] #[]]) (h : OC w b row c) :
    Calls Tryz.prog 84 #[.pointer (some ⟨b, 0, none⟩), .string (bs l), .pointer (some ⟨B, 0, none⟩)] w (SetPost i b row c l w) := by
  have HB := Lib.hid hB
  have HO := Lib.hid h
  have HI := Lib.hid hi
  have eg := at_enters i (.inr hi)
  have b0 := hB.cell 0
  simp at b0
  clear hB h hi
  go_enter Tryz.func84, Tryz.ntmps84
  go_wp2_with fail
  refine (at_any i (.inr HI.out) b _).mono ?_
  rintro e w1 ⟨rfl, rfl⟩
  obtain ⟨⟨v0, c0⟩, f0, hst⟩ := HO.out.store HI.out.lt.1 HI.out.lt.2
  have HSt := Lib.hid hst
  clear hst
  by_cases hy : l = yesB
  · subst hy
    unfold yesB
    go_wp2
    go_ret
    have hx := HSt.out 1
    rw [cV_flag HI.out] at hx
    have e : setM i c [121, 101, 115] = some ⟨c.seeds, upd c.v i 1⟩ := by rw [setM_flag HI.out]; exact if_pos rfl
    refine ⟨?_, fun c' hc => ⟨row, ?_, .inl rfl⟩, hx.1.cells, hx.2.mono fun g _ hg => .inl hg⟩
    · first | (rw [e]; rfl) | (unfold yesB; rw [e]; rfl)
    · first | rw [e] at hc | (unfold yesB at hc; rw [e] at hc)
      injection hc with hc; subst hc; exact hx.1
  · have y1 : (l == ([121, 101, 115] : Bs)) = false := by rw [beq_eq_false_iff_ne]; exact hy
    have HY := Lib.hid hy
    clear hy
    have hx := HSt.out 0
    rw [cV_flag HI.out] at hx
    have HX := Lib.hid hx
    clear hx
    by_cases hn : l = noB
    · subst hn
      have y2 : (noB == ([121, 101, 115] : Bs)) = false := y1
      unfold noB at y2 ⊢
      clear y1
      go_wp2
      go_ret
      have e : setM i c [110, 111] = some ⟨c.seeds, upd c.v i 0⟩ := by rw [setM_flag HI.out, if_neg (by decide)]; exact if_pos rfl
      refine ⟨?_, fun c' hc => ⟨row, ?_, .inl rfl⟩, HX.out.1.cells, HX.out.2.mono fun g _ hg => .inl hg⟩
      · first | (rw [e]; rfl) | (unfold noB; rw [e]; rfl)
      · first | rw [e] at hc | (unfold noB at hc; rw [e] at hc)
        injection hc with hc; subst hc; exact HX.out.1
    · have y2 : (l == ([110, 111] : Bs)) = false := by rw [beq_eq_false_iff_ne]; exact hn
      have HN := Lib.hid hn
      clear hn
      go_wp2
      go_ret
      have e : setM i c l = none := by rw [setM_flag HI.out, if_neg HY.out, if_neg HN.out]
      exact ⟨by rw [e]; rfl, fun c' hc => (by rw [e] at hc; cases hc), HX.out.1.cells, HX.out.2.mono fun g _ hg => .inl hg⟩
end Go.Proofs.YtjgkalcldekmpaaGreatDoor
