/-
  What the walks know of the library's variables ('Env'), and the library's functions that configurations call.
-/
import Derived.Test.YtjgkalcldekmpaaGreatDoorCfgP
import Derived.Test.YtjgkalcldekmpaaGreatDoorLayA
import Derived.Test.YtjgkalcldekmpaaGreatDoorLib
import Derived.Test.YtjgkalcldekmpaaGreatDoorSlK
import Derived.Test.YtjgkalcldekmpaaGreatDoorID
import Derived.Test.YtjgkalcldekmpaaGreatDoorKrip2
import Derived.Shelf.Strconv.Itoa3
import Derived.Lib.LaidTab
import Derived.Lib.AtoiAllCases
import Derived.Shelf.Strconv.ErrVarAll
import Derived.Lib.AtoiBound
namespace Go.Proofs.YtjgkalcldekmpaaGreatDoor
open Go.RowKit Go.Shelf Go

def NMS : List Bs := [[], [115, 116, 97, 116, 105, 99], [109, 97, 106, 111, 114, 105, 116, 121], [111, 108, 100, 101, 115, 116], [108, 101, 97, 115, 101]]
/-- the variables of the library and of the program -/
structure Env (w : World) : Prop where
  max : ∃ m, w.cell? ⟨1, 0, none⟩ = some (.int .i64 m)
  tab : Lib.TabIs Tryz.prog w "internal/strconv.uint64pow10" .u64 Lib.pow10Tab
  syn : ∃ tp p, w.var? Tryz.prog "strconv.ErrSyntax" = some #[.iface tp p]
  rng : ∃ tp p, w.var? Tryz.prog "strconv.ErrRange" = some #[.iface tp p]
  str : ∀ i, i < 5 → w.cell? ⟨0, i, none⟩ = some (.string (bs (NMS.getD i [])))
  nine : 9 ≤ w.heap.size
theorem var_keep {w w' : World} {S : Nat → Prop} (hk : Keep S w w') {n : String} {g : Nat} (hg : Tryz.prog.globalNamed n = some g) (hS : ¬ S g) {cs : Array Value} (h : w.var? Tryz.prog n = some cs) : w'.var? Tryz.prog n = some cs := by
  unfold World.var? at *
  rw [hg] at h ⊢
  simp only [Option.bind_some] at h ⊢
  cases ho : w.heap[g]? with
  | none => rw [ho] at h; cases h
  | some o => rw [hk.heap ho hS]; rw [ho] at h; exact h
theorem gTab : Tryz.prog.globalNamed "internal/strconv.uint64pow10" = some 4 := by kernel_rfl
theorem gSyn : Tryz.prog.globalNamed "strconv.ErrSyntax" = some 5 := by kernel_rfl
theorem gRng : Tryz.prog.globalNamed "strconv.ErrRange" = some 6 := by kernel_rfl
/-- writes beyond the variables -/
theorem Env.keepS {w w' : World} {S : Nat → Prop} (h : Env w) (hk : Keep S w w') (hS : ∀ g, g < 9 → ¬ S g) : Env w' :=
  ⟨h.max.imp fun _ e => hk.cell e (hS _ (by decide)), var_keep hk gTab (hS _ (by decide)) h.tab, h.syn.imp fun _ => Exists.imp fun _ e => var_keep hk gSyn (hS _ (by decide)) e, h.rng.imp fun _ => Exists.imp fun _ e => var_keep hk gRng (hS _ (by decide)) e, fun i hi => hk.cell (h.str i hi) (hS 0 (by decide)), Nat.le_trans h.nine hk.size⟩
theorem Env.keep0 {w w' : World} (h : Env w) (hk : Keep (fun _ => False) w w') : Env w' := h.keepS hk (fun _ _ h => h)
theorem cut_any (l : Bs) (c : UInt8) (sep : ByteArray) (hsep : sep.data.toList = [c]) (w : World) (h : Env w) (hl : l.length < 4294967281) :
    Calls Tryz.prog 23 #[.string (bs l), .string sep] w (Tell (.tuple #[.string (bs (cutM c l).1), .string (bs (cutM c l).2.1), .bool (cutM c l).2.2]) w) := by
  obtain ⟨m, hm⟩ := h.max
  refine (Any.strings_Cut Tryz.lCut (bs l) sep m w (by rw [bs_size]; exact hl) hm).mono ?_
  rintro e w' ⟨rfl, n, rfl⟩
  rw [bs_data, hsep, cut_eq]
  exact ⟨rfl, (Keep.refl _ _).drewN n⟩
theorem trim_any (l cs : Bs) (cset : ByteArray) (hc : cset.data.toList = cs) (ha : cs.all (fun b => decide (b.toNat < 128)) = true) (hn : cset.size < 4294967281) (w : World) (hl : l.length ≤ 9223372036854775807) :
    Calls Tryz.prog 24 #[.string (bs l), .string cset] w (Tell (.string (bs (Lib.trimS l cs))) w) := by
  refine (Any.strings_Trim_laid Tryz.lTrim (by kernel_rfl) (bs l) cset w (by rw [bs_size]; exact hl) hn (by rw [hc]; exact ascii_of_all ha)).mono ?_
  rintro e w' ⟨rfl, hk⟩
  rw [bs_data, hc]
  exact ⟨rfl, keep0_of_below hk⟩
theorem trimB_any (l : Bs) (w : World) (hl : l.length ≤ 9223372036854775807) : Calls Tryz.prog 24 #[.string (bs l), .string ⟨#[32, 9]⟩] w (Tell (.string (bs (trimM l))) w) :=
  trim_any l [32, 9] _ rfl (by decide) (by decide) w hl
theorem infoStr : (Tryz.prog.info? 9).map (fun i => (i.zero, i.size, i.bytes)) = some (some (.string ByteArray.empty), 1, 16) := by kernel_rfl
theorem split_any (l : Bs) (d : UInt8) (sep : ByteArray) (hsep : sep.data.toList = [d]) (w : World) (h : Env w) (hl : l.length < 4294967281) :
    Calls Tryz.prog 63 #[.string (bs l), .string sep] w fun e w' => e = .returned (.slice (some ⟨w.heap.size, 0, none⟩) (spl d l).length (spl d l).length) ∧ w' = w.alloc (.cells ((spl d l).map (fun x => Value.string (bs x))).toArray 9) := by
  obtain ⟨m, hm⟩ := h.max
  have h1 : 1 ≤ sep.size := by
    have : sep.data.toList.length = 1 := by rw [hsep]; rfl
    rw [ByteArray.size, ← Array.length_toList]; omega
  have e0 := split_eq d (bs l) sep hsep
  rw [bs_data] at e0
  have e1 : Lib.countB (bs l) sep + 1 = (spl d l).length := by
    have := Lib.splitB_all sep h1 0 _ (bs l) rfl
    rw [e0, List.length_map] at this
    exact this.symm
  refine (Any.strings_Split Tryz.lSplit infoStr (bs l) sep m w (by rw [bs_size]; exact hl) hm h1).mono ?_
  rintro e w' ⟨rfl, rfl⟩
  rw [e0, e1, List.map_map]
  exact ⟨rfl, rfl⟩
/-- Atoi of digits: the value, or an error (then it is too great) -/
theorem atoi_any (l : Bs) (h0 : l ≠ []) (hd : l.all digB = true) (w : World) (h : Env w) (hl : l.length ≤ 400000000) :
    Calls Tryz.prog 95 #[.string (bs l)] w fun e w' => (e = .returned (.tuple #[.int .i64 (decV 0 l), .nilIface]) ∧ decV 0 l ≤ 9223372036854775807 ∨ (∃ n t p, e = .returned (.tuple #[.int .i64 n, .iface t p])) ∧ 9223372036854775808 ≤ decV 0 l) ∧ Keep (fun _ => False) w w' := by
  rcases atoi_digs h0 hd with hok | ⟨hr, hb⟩
  · refine (Any.strconv_Atoi_ok Tryz.lAtoi (bs l) (by rw [bs_size]; omega) _ (by rw [bs_data]; exact hok) w).mono ?_
    rintro e w' ⟨rfl, hw⟩
    have hbd := Lib.atoiAll_bounds hok
    refine ⟨.inl ⟨rfl, by omega⟩, ?_⟩
    rcases hw with rfl | ⟨t, rfl⟩
    · exact Keep.refl _ _
    · exact keep0_of_below (Lib.bytesWorld_below ..)
  · obtain ⟨tp, p, hv⟩ := h.rng
    refine (Any.strconv_Atoi_range_var Tryz.lAtoi (bs l) (by rw [bs_size]; omega) (by rw [bs_data]; exact hr) tp p w hv).mono ?_
    rintro e w' ⟨N, rfl, _, _, hk⟩
    exact ⟨.inr ⟨⟨_, _, _, rfl⟩, hb⟩, keep0_of_below hk⟩
end Go.Proofs.YtjgkalcldekmpaaGreatDoor
