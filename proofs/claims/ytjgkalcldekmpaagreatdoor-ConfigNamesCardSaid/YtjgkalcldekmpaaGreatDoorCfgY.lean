/-
  ConfigNames: the examples, plain. Written by gen_names.py.
-/
import Derived.Test.YtjgkalcldekmpaaGreatDoorCfgX
import Derived.Test.YtjgkalcldekmpaaGreatDoorCfgW
namespace Go.Proofs.YtjgkalcldekmpaaGreatDoor
open Go.RowKit Go Go.Shelf
set_option maxRecDepth 100000

theorem it_one {d : Nat} (h : d < 10) : Lib.itoa (d : Int) = [UInt8.ofNat (48 + d)] := by
  unfold Lib.itoa
  rw [if_neg (by omega), Int.toNat_natCast, Lib.decDigits_one h]
theorem it_two {d e : Nat} (h0 : 0 < d) (hd : d < 10) (he : e < 10) : Lib.itoa ((d * 10 + e : Nat) : Int) = [UInt8.ofNat (48 + d), UInt8.ofNat (48 + e)] := by
  unfold Lib.itoa
  rw [if_neg (by omega), Int.toNat_natCast, Lib.decDigits_two (by omega) (by omega), show (d * 10 + e) / 10 = d by omega, show (d * 10 + e) % 10 = e by omega]
def txt : Bs := [115, 101, 101, 100, 115, 32, 61, 32, 49, 44, 32, 50, 10, 119, 97, 116, 99, 104, 32, 61, 32, 51, 10, 109, 105, 110, 32, 61, 32, 51, 10, 109, 97, 120, 32, 61, 32, 57, 10, 119, 105, 110, 100, 111, 119, 32, 61, 32, 53, 10, 114, 101, 116, 114, 121, 32, 61, 32, 52, 10, 115, 116, 97, 98, 108, 101, 32, 61, 32, 52, 48, 10, 115, 116, 114, 97, 116, 101, 103, 121, 32, 61, 32, 109, 97, 106, 111, 114, 105, 116, 121, 10, 119, 101, 97, 107, 32, 61, 32, 121, 101, 115, 10, 113, 117, 101, 117, 101, 32, 61, 32, 56, 10, 101, 118, 101, 110, 116, 115, 32, 61, 32, 49, 54, 10]
theorem rowM_nil {c : Cfg} {i : Nat} (h : showM i c = []) : rowM c i = [] := if_pos h
theorem rowM_of {c : Cfg} {i : Nat} {v : Bs} (h : showM i c = v) (hv : v ≠ []) : rowM c i = KN.getD i [] ++ 32 :: 61 :: 32 :: (v ++ [10]) := by unfold rowM; rw [h]; exact if_neg hv
theorem sh0 : showM 0 someC = [49, 44, 32, 50] := by
  have h1 : Lib.itoa 1 = [49] := (it_one (d := 1) (by decide))
  have h2 : Lib.itoa 2 = [50] := (it_one (d := 2) (by decide))
  show Lib.join [Lib.itoa 1, Lib.itoa 2] [44, 32] = _
  rw [h1, h2]; rfl
theorem sh1 : showM 1 someC = [51] := by
  have h1 : Lib.itoa 3 = [51] := (it_one (d := 3) (by decide))
  show showN 3 = _
  unfold showN
  rw [if_neg (by decide), h1]
theorem sh2 : showM 2 someC = [51] := by
  have h1 : Lib.itoa 3 = [51] := (it_one (d := 3) (by decide))
  show showN 3 = _
  unfold showN
  rw [if_neg (by decide), h1]
theorem sh3 : showM 3 someC = [57] := by
  have h1 : Lib.itoa 9 = [57] := (it_one (d := 9) (by decide))
  show showN 9 = _
  unfold showN
  rw [if_neg (by decide), h1]
theorem sh4 : showM 4 someC = [53] := by
  have h1 : Lib.itoa 5 = [53] := (it_one (d := 5) (by decide))
  show showN 5 = _
  unfold showN
  rw [if_neg (by decide), h1]
theorem sh5 : showM 5 someC = [52] := by
  have h1 : Lib.itoa 4 = [52] := (it_one (d := 4) (by decide))
  show showN 4 = _
  unfold showN
  rw [if_neg (by decide), h1]
theorem sh6 : showM 6 someC = [52, 48] := by
  have h1 : Lib.itoa 40 = [52, 48] := (it_two (d := 4) (e := 0) (by decide) (by decide) (by decide))
  show showN 40 = _
  unfold showN
  rw [if_neg (by decide), h1]
theorem sh7 : showM 7 someC = [] := by kernel_rfl
theorem sh8 : showM 8 someC = [109, 97, 106, 111, 114, 105, 116, 121] := by kernel_rfl
theorem sh9 : showM 9 someC = [] := by kernel_rfl
theorem sh10 : showM 10 someC = [] := by kernel_rfl
theorem sh11 : showM 11 someC = [121, 101, 115] := by kernel_rfl
theorem sh12 : showM 12 someC = [] := by kernel_rfl
theorem sh13 : showM 13 someC = [] := by kernel_rfl
theorem sh14 : showM 14 someC = [] := by kernel_rfl
theorem sh15 : showM 15 someC = [56] := by
  have h1 : Lib.itoa 8 = [56] := (it_one (d := 8) (by decide))
  show showN 8 = _
  unfold showN
  rw [if_neg (by decide), h1]
theorem sh16 : showM 16 someC = [49, 54] := by
  have h1 : Lib.itoa 16 = [49, 54] := (it_two (d := 1) (e := 6) (by decide) (by decide) (by decide))
  show showN 16 = _
  unfold showN
  rw [if_neg (by decide), h1]
theorem txt_eq : textM someC 17 = txt := by
  show List.flatMap (rowM someC) [0, 1, 2, 3, 4, 5, 6, 7, 8, 9, 10, 11, 12, 13, 14, 15, 16] = _
  simp only [List.flatMap_cons, List.flatMap_nil]
  rw [rowM_of sh0 (by decide), rowM_of sh1 (by decide), rowM_of sh2 (by decide), rowM_of sh3 (by decide), rowM_of sh4 (by decide), rowM_of sh5 (by decide), rowM_of sh6 (by decide), rowM_nil sh7, rowM_of sh8 (by decide), rowM_nil sh9, rowM_nil sh10, rowM_of sh11 (by decide), rowM_nil sh12, rowM_nil sh13, rowM_nil sh14, rowM_of sh15 (by decide), rowM_of sh16 (by decide)]
  rfl
theorem some_show : showR someC = (txt, 0) := by rw [showR_ok (by kernel_rfl), txt_eq]
theorem wfc_of {c : Cfg} (h : (c.seeds.all (fun n => decide (-9223372036854775808 ≤ n ∧ n ≤ 9223372036854775807)) && (List.range 17).all (fun i => decide (-9223372036854775808 ≤ c.v i ∧ c.v i ≤ 9223372036854775807)) && decide (0 ≤ c.v 8 ∧ c.v 8 < 256) && decide (c.seeds.length ≤ 400000000)) = true) : WfC c := by
  simp only [Bool.and_eq_true, decide_eq_true_eq, List.all_eq_true] at h
  exact ⟨fun n hn => h.1.1.1 n hn, fun i hi => h.1.1.2 i (List.mem_range.2 hi.1), h.1.2, h.2⟩
def bad0 : Cfg := ⟨[], someV⟩
theorem bad0_may : mayM bad0 = false := by kernel_rfl
theorem bad0_wf : WfC bad0 := wfc_of (by kernel_rfl)
def bad1 : Cfg := ⟨[2, 1], someV⟩
theorem bad1_may : mayM bad1 = false := by kernel_rfl
theorem bad1_wf : WfC bad1 := wfc_of (by kernel_rfl)
def bad2 : Cfg := ⟨[13], someV⟩
theorem bad2_may : mayM bad2 = false := by kernel_rfl
theorem bad2_wf : WfC bad2 := wfc_of (by kernel_rfl)
def bad3 : Cfg := ⟨[1, 2], (upd someV 1 0)⟩
theorem bad3_may : mayM bad3 = false := by kernel_rfl
theorem bad3_wf : WfC bad3 := wfc_of (by kernel_rfl)
def bad4 : Cfg := ⟨[1, 2], (upd someV 1 13)⟩
theorem bad4_may : mayM bad4 = false := by kernel_rfl
theorem bad4_wf : WfC bad4 := wfc_of (by kernel_rfl)
def bad5 : Cfg := ⟨[1, 2], (upd someV 2 10)⟩
theorem bad5_may : mayM bad5 = false := by kernel_rfl
theorem bad5_wf : WfC bad5 := wfc_of (by kernel_rfl)
def bad6 : Cfg := ⟨[1, 2], (upd someV 2 0)⟩
theorem bad6_may : mayM bad6 = false := by kernel_rfl
theorem bad6_wf : WfC bad6 := wfc_of (by kernel_rfl)
def bad7 : Cfg := ⟨[1, 2], (upd someV 3 4097)⟩
theorem bad7_may : mayM bad7 = false := by kernel_rfl
theorem bad7_wf : WfC bad7 := wfc_of (by kernel_rfl)
def bad8 : Cfg := ⟨[1, 2], (upd someV 4 0)⟩
theorem bad8_may : mayM bad8 = false := by kernel_rfl
theorem bad8_wf : WfC bad8 := wfc_of (by kernel_rfl)
def bad9 : Cfg := ⟨[1, 2], (upd someV 5 4097)⟩
theorem bad9_may : mayM bad9 = false := by kernel_rfl
theorem bad9_wf : WfC bad9 := wfc_of (by kernel_rfl)
def bad10 : Cfg := ⟨[1, 2], (upd someV 6 0)⟩
theorem bad10_may : mayM bad10 = false := by kernel_rfl
theorem bad10_wf : WfC bad10 := wfc_of (by kernel_rfl)
def bad11 : Cfg := ⟨[1, 2], (upd someV 7 (-1))⟩
theorem bad11_may : mayM bad11 = false := by kernel_rfl
theorem bad11_wf : WfC bad11 := wfc_of (by kernel_rfl)
def bad12 : Cfg := ⟨[1, 2], (upd someV 8 0)⟩
theorem bad12_may : mayM bad12 = false := by kernel_rfl
theorem bad12_wf : WfC bad12 := wfc_of (by kernel_rfl)
def bad13 : Cfg := ⟨[1, 2], (upd someV 8 5)⟩
theorem bad13_may : mayM bad13 = false := by kernel_rfl
theorem bad13_wf : WfC bad13 := wfc_of (by kernel_rfl)
def bad14 : Cfg := ⟨[1, 2], (upd someV 9 1)⟩
theorem bad14_may : mayM bad14 = false := by kernel_rfl
theorem bad14_wf : WfC bad14 := wfc_of (by kernel_rfl)
def bad15 : Cfg := ⟨[1, 2], (upd someV 10 1)⟩
theorem bad15_may : mayM bad15 = false := by kernel_rfl
theorem bad15_wf : WfC bad15 := wfc_of (by kernel_rfl)
def bad16 : Cfg := ⟨[1, 2], (upd someV 13 5)⟩
theorem bad16_may : mayM bad16 = false := by kernel_rfl
theorem bad16_wf : WfC bad16 := wfc_of (by kernel_rfl)
def bad17 : Cfg := ⟨[1, 2], (upd (upd (upd someV 8 4) 13 5) 14 5)⟩
theorem bad17_may : mayM bad17 = false := by kernel_rfl
theorem bad17_wf : WfC bad17 := wfc_of (by kernel_rfl)
def bad18 : Cfg := ⟨[1, 2], (upd (upd someV 8 4) 13 5)⟩
theorem bad18_may : mayM bad18 = false := by kernel_rfl
theorem bad18_wf : WfC bad18 := wfc_of (by kernel_rfl)
def bad19 : Cfg := ⟨[1, 2], (upd someV 15 0)⟩
theorem bad19_may : mayM bad19 = false := by kernel_rfl
theorem bad19_wf : WfC bad19 := wfc_of (by kernel_rfl)
def bad20 : Cfg := ⟨[1, 2], (upd someV 8 1)⟩
theorem bad20_may : mayM bad20 = false := by kernel_rfl
theorem bad20_wf : WfC bad20 := wfc_of (by kernel_rfl)
def bad21 : Cfg := ⟨[1, 2], (upd someV 16 4097)⟩
theorem bad21_may : mayM bad21 = false := by kernel_rfl
theorem bad21_wf : WfC bad21 := wfc_of (by kernel_rfl)
/-- texts, the line and the error that they tell -/
def rowsL : List (Bs × Int × Int) := [([], 0, 1), ([109, 105, 110, 32, 61, 32, 48, 55], 1, 4), ([10, 35, 97, 10, 109, 105, 110], 3, 4), ([109, 105, 110, 32, 61, 32, 49, 10, 109, 105, 110, 32, 61, 32, 49, 10, 120], 2, 6), ([115, 101, 101, 100, 115, 32, 61, 32, 49, 44, 44, 50], 1, 4), ([115, 101, 101, 100, 115, 32, 61], 1, 4), ([97, 108, 111, 110, 101, 32, 61, 32, 109, 97, 121, 98, 101], 1, 4), ([115, 116, 114, 97, 116, 101, 103, 121, 32, 61, 32], 1, 4), ([109, 105, 110, 32, 61, 32, 49, 48, 57, 57, 53, 49, 49, 54, 50, 55, 55, 55, 55], 1, 4), ([109, 105, 110, 32, 61, 32, 49, 48, 57, 57, 53, 49, 49, 54, 50, 55, 55, 55, 54], 0, 1), ([77, 105, 110, 32, 61, 32, 49], 1, 4), ([109, 105, 110, 32, 61, 32, 49, 32, 50], 1, 4), (txt ++ [109, 97, 120, 32, 61, 32, 57], 12, 6), (txt ++ [35, 32, 116, 104, 101, 32, 101, 110, 100], 0, 0)]
theorem rows_all : (rowsL.map fun r => (parseM r.1).2) = rowsL.map (·.2) := by kernel_rfl
theorem rows_len : rowsL.all (fun r => decide (r.1.length ≤ 1000)) = true := by kernel_rfl
def rowC (r : Bs × Int × Int) : List Value := [.string (bs r.1), .int .i64 r.2.1, .int .i64 r.2.2]
theorem rows_at {k : Nat} (hk : k < 14) : ∃ s l e c, rowsL[k]? = some (s, l, e) ∧ parseM s = (c, l, e) ∧ s.length ≤ 1000 := by
  have hlt : k < rowsL.length := hk
  obtain ⟨⟨s, l, e⟩, hr⟩ : ∃ r, rowsL[k] = r := ⟨_, rfl⟩
  have h1 : (rowsL.map fun r => (parseM r.1).2)[k]? = (rowsL.map (·.2))[k]? := by rw [rows_all]
  rw [List.getElem?_map, List.getElem?_map, List.getElem?_eq_getElem hlt, hr] at h1
  simp only [Option.map_some, Option.some.injEq] at h1
  refine ⟨s, l, e, (parseM s).1, by rw [List.getElem?_eq_getElem hlt, hr], Prod.ext rfl h1, ?_⟩
  have h2 := List.all_eq_true.1 rows_len _ (List.getElem_mem hlt)
  rw [hr] at h2
  simpa using h2
theorem rows_cell {w : World} {g : Nat} {t : TypeId} (h : Blk w g t (rowsL.flatMap rowC).toArray) {k : Nat} {s : Bs} {l e : Int} (hr : rowsL[k]? = some (s, l, e)) : w.cell? ⟨g, k * 3, none⟩ = some (.string (bs s)) ∧ w.cell? ⟨g, k * 3 + 1, none⟩ = some (.int .i64 l) ∧ w.cell? ⟨g, k * 3 + 2, none⟩ = some (.int .i64 e) := by
  obtain ⟨hlt, hr⟩ := List.getElem?_eq_some_iff.1 hr
  have get : ∀ j, j < 3 → w.cell? ⟨g, k * 3 + j, none⟩ = (rowC (s, l, e))[j]? := fun j hj => by
    rw [h.cell, List.getElem?_toArray, flat_get rowC 3 (fun _ => rfl) rowsL k j hlt hj, hr]
  exact ⟨get 0 (by omega), get 1 (by omega), get 2 (by omega)⟩
end Go.Proofs.YtjgkalcldekmpaaGreatDoor
