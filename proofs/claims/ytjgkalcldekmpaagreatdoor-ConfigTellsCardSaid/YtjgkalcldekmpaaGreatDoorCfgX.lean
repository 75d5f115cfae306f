/-
  config.Show.
-/
import Derived.Test.YtjgkalcldekmpaaGreatDoorCfgR
import Derived.Shelf.Strings.BuilderK
namespace Go.Proofs.YtjgkalcldekmpaaGreatDoor
open Go.RowKit Go Go.Shelf
set_option maxRecDepth 100000
attribute [local go_sem] bs_toList bs_size bs_zero

/-- a key's line -/
def rowM (c : Cfg) (i : Nat) : Bs := if showM i c = [] then [] else KN.getD i [] ++ 32 :: 61 :: 32 :: (showM i c ++ [10])
def textM (c : Cfg) (k : Nat) : Bs := (List.range k).flatMap (rowM c)
def showR (c : Cfg) : Bs × Int := if mayM c then (textM c 17, 0) else ([], 1)
theorem textM_succ (c : Cfg) (k : Nat) : textM c (k + 1) = textM c k ++ rowM c k := by unfold textM; rw [List.range_succ, List.flatMap_append]; simp
theorem showR_ok {c : Cfg} (h : mayM c = true) : showR c = (textM c 17, 0) := by unfold showR; rw [if_pos h]
theorem showR_no {c : Cfg} (h : mayM c = false) : showR c = ([], 1) := by unfold showR; rw [if_neg (by rw [h]; decide)]
theorem KN_len (i : Nat) : (KN.getD i []).length ≤ 10 := by
  have h : ∀ x ∈ KN, x.length ≤ 10 := by decide
  rw [List.getD]
  cases e : KN[i]? with
  | none => simp
  | some x => exact h x (List.mem_of_getElem? e)
theorem NMS_len (i : Nat) : (NMS.getD i []).length ≤ 10 := by
  have h : ∀ x ∈ NMS, x.length ≤ 10 := by decide
  rw [List.getD]
  cases e : NMS[i]? with
  | none => simp
  | some x => exact h x (List.mem_of_getElem? e)
theorem showM_len {c : Cfg} (h : WfC c) {i : Nat} (hi : i < 17) : (showM i c).length ≤ 8800000000 := by
  have := h.len
  unfold showM
  split
  · have h1 := join_len [44, 32] (c.seeds.map Lib.itoa) (k := 20) (fun x hx => by
      obtain ⟨n, hn, rfl⟩ := List.mem_map.1 hx
      exact itoa_len (h.seeds n hn))
    rw [List.length_map] at h1
    exact Nat.le_trans h1 (by simp only [List.length_cons, List.length_nil]; omega)
  · split
    · have := h.s8
      unfold stratB
      split
      · exact Nat.le_trans (NMS_len _) (by decide)
      · rw [List.length_cons]
        have := itoa_len (n := c.v 8) ⟨by omega, by omega⟩
        omega
    · split
      · unfold flagB
        split
        · simp
        · decide
      · rename_i h1 h2 h3
        unfold showN
        split
        · simp
        · exact Nat.le_trans (itoa_len (h.v i (by unfold isNum; omega))) (by decide)
theorem rowM_len {c : Cfg} (h : WfC c) {i : Nat} (hi : i < 17) : (rowM c i).length ≤ 8800000100 := by
  unfold rowM
  split
  · simp
  · have h1 := showM_len h hi
    have h2 := KN_len i
    simp only [List.length_append, List.length_cons, List.length_nil]
    omega
theorem textM_len {c : Cfg} (h : WfC c) : ∀ {k : Nat}, k ≤ 17 → (textM c k).length ≤ k * 8800000100
  | 0, _ => by simp [textM]
  | k + 1, hk => by
    rw [textM_succ, List.length_append]
    have h1 := textM_len h (k := k) (by omega)
    have h2 := rowM_len h (i := k) (by omega)
    omega
abbrev TB : TypeId := Tryz.lJoin_ren.t 72
abbrev TU : TypeId := Tryz.lJoin_ren.t 5
theorem bld_keep0 {B b : Nat} {l : List Value} {w w' : World} (h : Lib.IsBuilderF TB TU B b l w) (hk : Keep (fun _ => False) w w') : Lib.IsBuilderF TB TU B b l w' := by
  have at_ : ∀ p, Lib.BuilderAtF TB TU B b p l w → Lib.BuilderAtF TB TU B b p l w' := fun p h => by
    obtain ⟨hB, v, hb, hown, hne⟩ := h
    exact ⟨hB, v, (show Blk w b TB #[p, v] from hb).keep hk (fun h => h), hown.kept (row := none) ⟨hk.os, hk.tape, hk.output, hk.size, fun k hk1 _ => hk.block k hk1 (fun h => h)⟩ (by cases hv : v.ownBlock <;> simp), hne⟩
  exact h.imp (at_ _) (at_ _)
def SW (w : World) (b : Nat) : Nat → Prop := fun k => k = b ∨ ∃ c fz, w.heap[k]? = some (.cells c TU fz)
theorem keep_SW {B b : Nat} {w w' : World} (hb : Below B w w') (ho : Lib.OthersKept TU (some b) w w') : Keep (SW w b) w w' :=
  ⟨hb.os, hb.tape, hb.output, hb.size, fun k hk hn => by
    have e := Array.getElem?_eq_getElem hk
    rw [e]
    exact ho k _ e (fun e2 => hn (.inl (by injection e2))) (fun c fz e2 => hn (.inr ⟨c, fz, by rw [e, e2]⟩))⟩
theorem not_SW {w : World} {b g : Nat} {t : TypeId} {cs : Array Value} (h : Blk w g t cs) (ht : t ≠ TU) (hg : g ≠ b) : ¬ SW w b g := by
  rintro (e | ⟨c, fz, e⟩)
  · exact hg e
  · have := (show w.heap[g]? = some (.cells cs t (0, 0)) from h).symm.trans e
    injection this with this
    injection this with _ h2 _
    exact ht h2
theorem keys_SW {w w' : World} {K b : Nat} {bx : Nat → Nat} (h : KeysAt w K bx) (hk : Keep (SW w b) w w') (h1 : K ≠ b) (h2 : ∀ i, isNum i ∨ isFlag i → bx i ≠ b) : KeysAt w' K bx :=
  h.keep hk (not_SW h.row (by decide) h1) (fun i hi => not_SW (h.box i hi) (by split <;> decide) (h2 i hi))
theorem keep0_below {a b c : World} (h : Keep (fun _ => False) a b) (k : Below a.heap.size b c) : Keep (fun _ => False) a c :=
  ⟨k.os.trans h.os, k.tape.trans h.tape, k.output.trans h.output, Nat.le_trans h.size k.size, fun i hi _ => (k.block i hi).trans (h.block i hi (fun h => h))⟩
theorem strCells_bs (l : Bs) : Lib.strCells (bs l) = Lib.byteCells l := by unfold Lib.strCells Lib.byteCells; rw [bs_data]
set_option maxHeartbeats 8000000 in
theorem cshow_any (c : Cfg) (A : Option Addr) (cap : Nat) (hc : WfC c) (w : World) (hE : Env w) (hR : RdN w A c.seeds.length c.seeds) :
    Calls Tryz.prog 14 #[.agg (cfgA (.slice A c.seeds.length cap) c.v)] w (Tell (.tuple #[.string (bs (showR c).1), .int .i64 (showR c).2]) w) := by
  have hk0 : Keep (fun _ => False) w (w.alloc (.cells (cfgA (.slice A c.seeds.length cap) c.v) 25)) := (Keep.refl _ w).alloc _
  have hX := Blk.new w 25 (cfgA (.slice A c.seeds.length cap) c.v)
  obtain ⟨W0, hW0⟩ : ∃ W0, w.alloc (.cells (cfgA (.slice A c.seeds.length cap) c.v) 25) = W0 := ⟨_, rfl⟩
  rw [hW0] at hk0 hX
  have HX := Lib.hid hX
  have HK0 := Lib.hid hk0
  have HE := Lib.hid (hE.keep0 hk0)
  have HA := Lib.hid (hR.keep0 hk0)
  have HW := Lib.hid hc
  have hlen := hc.len
  clear hX hk0 hE hR hc
  go_enter Tryz.func14, Tryz.ntmps14
  go_wp2_with (refine wpList_load_row rfl 25 _ rfl w.heap.size rfl 25 _ (0, 0) _ HX.out Tryz.underlying25 rfl infoCfg ?_)
  refine (mayM_any c A cap W0 HA.out (by omega)).mono ?_
  rintro e W1 ⟨rfl, hk1⟩
  have HK1 := Lib.hid hk1
  clear hk1 hW0
  rcases Bool.eq_false_or_eq_true (mayM c) with hm | hm
  case inr =>
    have HSr := Lib.hid (showR_no hm)
    rw [hm]
    clear hm
    go_wp2
    go_ret2
    exact ⟨by rw [HSr.out]; rfl, keep0_trans _ _ _ HK0.out HK1.out⟩
  have HSr := Lib.hid (showR_ok hm)
  rw [hm]
  clear hm
  have HE1 := Lib.hid (HE.out.keep0 HK1.out)
  have HA1 := Lib.hid (HA.out.keep0 HK1.out)
  have HX1 := Lib.hid (HX.out.keep HK1.out (fun h => h))
  have HB1 := Lib.hid (Lib.IsBuilderF.of (Lib.fresh_isBuilder TB TU W1))
  have HKa := Lib.hid ((Keep.refl (fun _ => False) W1).alloc (.cells #[.pointer none, .slice none 0 0] TB))
  have hsz : (W1.alloc (.cells #[.pointer none, .slice none 0 0] TB)).heap.size = W1.heap.size + 1 := by simp
  go_wp2_with fail
  generalize hWa : W1.alloc (.cells #[.pointer none, .slice none 0 0] 65) = Wa
  have hWa2 : W1.alloc (.cells #[.pointer none, .slice none 0 0] TB) = Wa := hWa
  rw [hWa2] at HB1 HKa hsz
  clear hWa hWa2
  refine (keys_any Wa).mono ?_
  rintro e W2 ⟨K0, bx, rfl, hKs, hKl, hbl, hk2⟩
  have HKs := Lib.hid hKs
  have HKl := Lib.hid (show K0 ≠ W1.heap.size by omega)
  have HBl := Lib.hid (fun i hi => show bx i ≠ W1.heap.size by have := hbl i hi; omega)
  have HB2 := Lib.hid (bld_keep0 HB1.out hk2)
  have HK2 := Lib.hid (keep0_trans _ _ _ HKa.out hk2)
  clear hKs hKl hbl hk2 hsz HB1 HKa
  go_wp2
  go_loopw [13] (fun j wr => ∃ k : Nat, k ≤ 17 ∧ j = .int .i64 (k : Int) ∧ Hid (KeysAt wr K0 bx) ∧ Hid (Keep (fun _ => False) W1 wr) ∧ Hid (Lib.IsBuilderF TB TU W1.heap.size W1.heap.size (Lib.byteCells (textM c k)) wr)) (fun j _ => 17 - (intOf j).toNat)
  case atStart => exact ⟨0, by omega, rfl, HKs, HK2, HB2⟩
  case round =>
    obtain ⟨k, hk, rfl, HKy, HKk, HBd⟩ := hrel
    have e2 : IntKind.i64.wrap ((k : Int) + 1) = (k : Int) + 1 := IntWalk.i64_in _ (by omega)
    by_cases hlt : k < 17
    · have q1 : (k : Int) < 17 := by omega
      have q2 : (0 : Int) ≤ (k : Int) := by omega
      obtain ⟨g, lb, hG, eg, hC⟩ := show_any bx k hlt
      obtain ⟨k0, k1, k2⟩ := HKy.out.cell hlt
      obtain ⟨g2, lb2, hG2, _⟩ := set_any bx k hlt
      rw [hG] at k1
      rw [hG2] at k2
      have hKn := KN_len k
      have HTs := Lib.hid (textM_succ c k)
      have HRm := Lib.hid (show rowM c k = if showM k c = [] then [] else KN.getD k [] ++ 32 :: 61 :: 32 :: (showM k c ++ [10]) from rfl)
      have hTl := textM_len HW.out hk
      have hSl := showM_len HW.out hlt
      generalize KN.getD k [] = nm at k0 hKn HRm
      have HC := Lib.hid hC
      have HBk := Lib.hid (Blk.new wr 58 #[.string (bs nm), .func (.func g) #[] lb, .func (.func g2) #[] lb2])
      have hka := (Keep.refl (fun _ => False) wr).alloc (.cells #[.string (bs nm), .func (.func g) #[] lb, .func (.func g2) #[] lb2] 58)
      have HK3 := Lib.hid (keep0_trans _ _ _ HKk.out hka)
      have HKy3 := Lib.hid (HKy.out.keep0 hka)
      have HBd3 := Lib.hid (bld_keep0 HBd.out hka)
      clear hC hG hG2 hka
      go_upto_region 7 with fail
      generalize hW3 : wr.alloc (.cells #[.string (bs nm), .func (.func g) #[] lb, .func (.func g2) #[] lb2] 58) = W3 at *
      generalize hS3 : wr.heap.size = s3 at *
      have hf1 : W3.cell? ⟨s3, 1, none⟩ = some (.func (.func g) #[] lb) := by have := HBk.out.cell 1; simpa using this
      clear hW3 k0 k1 k2
      go_wp2_with (refine wpList_load_row rfl 25 _ rfl w.heap.size rfl 25 _ (0, 0) _ (HX1.out.keep HK3.out (fun h => h)) Tryz.underlying25 rfl infoCfg ?_)
      refine (HC.out K0 c A cap W3 (HE1.out.keep0 HK3.out) HW.out HKy3.out (HA1.out.keep0 HK3.out)).mono ?_
      rintro e W4 ⟨rfl, hk4⟩
      have HK4 := Lib.hid (keep0_trans _ _ _ HK3.out hk4)
      have HKy4 := Lib.hid (HKy3.out.keep0 hk4)
      have HBd4 := Lib.hid (bld_keep0 HBd3.out hk4)
      have HBk4 := Lib.hid (HBk.out.keep hk4 (fun h => h))
      clear hk4 hf1
      generalize showM k c = v at HRm hSl ⊢
      rcases Decidable.em (v = []) with rfl | hv
      · have HT2 := Lib.hid (show textM c (k + 1) = textM c k by rw [HTs.out, HRm.out, if_pos rfl, List.append_nil])
        go_wp2
        go_roundw
        case rel => exact ⟨k + 1, by omega, by go_num, HKy4, HK4, Lib.hid (by rw [HT2.out]; exact HBd4.out)⟩
        case measure => simp [intOf]; omega
      · obtain ⟨L, hL⟩ : ∃ L, nm ++ 32 :: 61 :: 32 :: (v ++ [10]) = L := ⟨_, rfl⟩
        have HT2 := Lib.hid (show textM c (k + 1) = textM c k ++ L by rw [HTs.out, HRm.out, if_neg hv, hL])
        have hLl : L.length ≤ 8800000100 := by rw [← hL]; simp only [List.length_append, List.length_cons, List.length_nil]; omega
        have c1 : ¬ 9223372036854775807 < nm.length + 3 := by omega
        have c2 : ¬ 9223372036854775807 < nm.length + 3 + v.length := by omega
        have c3 : ¬ 9223372036854775807 < nm.length + 3 + v.length + 1 := by omega
        have hcat : bs nm ++ ({ data := #[32, 61, 32] } : ByteArray) ++ bs v ++ ({ data := #[10] } : ByteArray) = bs L := by rw [← hL, show nm ++ 32 :: 61 :: 32 :: (v ++ [10]) = nm ++ [32, 61, 32] ++ v ++ [10] by simp, ← bs_cat, ← bs_cat, ← bs_cat]; rfl
        have y1 : (v == []) = false := by rw [beq_eq_false_iff_ne]; exact hv
        have hn0 := HBk4.out.cell 0
        simp only [List.getElem?_toArray, List.getElem?_cons_zero] at hn0
        clear hL hv
        go_wp2_with fail
        refine (Any.Builder_WriteString_k ({ Tryz.lJoin with } : Lays.n166 Tryz.prog Tryz.lJoin_ren) Tryz.xJoin W1.heap.size W1.heap.size (Lib.byteCells (textM c k)) (bs L) W4 HBd4.out (by rw [bs_size]; simp only [Lib.byteCells, List.length_map]; omega) HK4.out.size).mono ?_
        rintro e W5 ⟨rfl, hb5, hbl5, ho5⟩
        have HK5 := Lib.hid (keep0_below HK4.out hbl5)
        have HKy5 := Lib.hid (keys_SW HKy4.out (keep_SW hbl5 ho5) HKl.out HBl.out)
        have HBd5 := Lib.hid (show Lib.IsBuilderF TB TU W1.heap.size W1.heap.size (Lib.byteCells (textM c k) ++ Lib.strCells (bs L)) W5 from .inr hb5)
        clear hb5 hbl5 ho5 hn0
        go_wp2
        go_roundw
        case rel => exact ⟨k + 1, by omega, by go_num, HKy5, HK5, Lib.hid (by rw [HT2.out, Lib.byteCells_append, ← strCells_bs L]; exact HBd5.out)⟩
        case measure => simp [intOf]; omega
    · obtain rfl : k = 17 := by omega
      go_wp2_with fail
      refine (Any.Builder_String_any_k ({ Tryz.lJoin with } : Lays.n169 Tryz.prog Tryz.lJoin_ren) Tryz.xJoin W1.heap.size W1.heap.size (textM c 17) wr HBd.out HKk.out.size).mono ?_
      rintro e W5 ⟨rfl, _, hbl5, _⟩
      have HK5 := Lib.hid (keep0_below HKk.out hbl5)
      clear hbl5
      go_wp2
      go_ret2
      exact ⟨by rw [HSr.out]; rfl, keep0_trans _ _ _ HK0.out (keep0_trans _ _ _ HK1.out HK5.out)⟩
end Go.Proofs.YtjgkalcldekmpaaGreatDoor
