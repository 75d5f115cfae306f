/-
  config: what seeds show; Join; a key's show.
-/
import Derived.Test.YtjgkalcldekmpaaGreatDoorCfgN
namespace Go.Proofs.YtjgkalcldekmpaaGreatDoor
open Go.RowKit Go Go.Shelf
set_option maxRecDepth 100000
attribute [local go_sem] bs_toList bs_size bs_zero

theorem Tryz.xJoin : Builder.Extra Tryz.prog Tryz.lJoin_ren where
  sizeBuilder := by kernel_rfl
  liesBuilder := by kernel_rfl
  t5 := Tryz.underlying5
  a5 := Tryz.isAgg5
  z5 := Tryz.sizeOf5
  v5 := Tryz.zeroValue5
  infoByte := by kernel_rfl
  cellsByte := by kernel_rfl
  sizeByte := by kernel_rfl
  neB5 := by decide
abbrev vS (l : Bs) : Value := .string (bs l)
theorem tail_len (sep : Bs) (r : List Bs) {k : Nat} (h : ∀ x ∈ r, x.length ≤ k) : (Lib.joinTail sep r).length ≤ (sep.length + k) * r.length := by
  induction r with
  | nil => simp [Lib.joinTail]
  | cons x r ih =>
    have h1 := ih (fun y hy => h y (List.mem_cons_of_mem _ hy))
    have h2 := h x List.mem_cons_self
    have e : Lib.joinTail sep (x :: r) = sep ++ x ++ Lib.joinTail sep r := by simp [Lib.joinTail]
    rw [e, List.length_append, List.length_append, List.length_cons, Nat.mul_succ]
    omega
theorem join_len (sep : Bs) (l : List Bs) {k : Nat} (h : ∀ x ∈ l, x.length ≤ k) : (Lib.join l sep).length ≤ (sep.length + k) * l.length := by
  cases l with
  | nil => simp [Lib.join_nil]
  | cons x r =>
    rw [Lib.join_cons, List.length_append, List.length_cons, Nat.mul_succ]
    have h1 := tail_len sep r (fun y hy => h y (List.mem_cons_of_mem _ hy))
    have h2 := h x List.mem_cons_self
    omega
theorem join_any (l : List Bs) (sep : Bs) (A : Option Addr) (n c : Nat) (w : World) (h : RdK w 1 A n (l.map vS)) (hnc : n ≤ c) (hn : n ≤ 800000000) (hl : ∀ x ∈ l, x.length ≤ 100000) (hs : sep.length ≤ 100) :
    Calls Tryz.prog 78 #[.slice A n c, .string (bs sep)] w (Tell (.string (bs (Lib.join l sep))) w) := by
  have hln : l.length = n := by have := h.1; simpa using this
  match n, hnc, hn, h, hln with
  | 0, _, _, h, hln =>
    have : l = [] := List.eq_nil_of_length_eq_zero hln
    subst this
    refine (Any.strings_Join_none Tryz.lJoin Tryz.xJoin A c (bs sep) w).mono ?_
    rintro e w' ⟨rfl, rfl⟩
    exact ⟨rfl, Keep.refl _ _⟩
  | 1, _, _, h, hln =>
    obtain ⟨x, rfl⟩ : ∃ x, l = [x] := by
      match l, hln with
      | [x], _ => exact ⟨x, rfl⟩
    obtain ⟨g, off, v, rfl, h1, h2⟩ := h.2 0 (by decide)
    simp only [List.map_cons, List.map_nil, List.getElem?_cons_zero, Option.some.injEq] at h1
    subst h1
    refine (Any.strings_Join_one Tryz.lJoin Tryz.xJoin g off c (bs x) (bs sep) w h2).mono ?_
    rintro e w' ⟨rfl, rfl⟩
    exact ⟨by rw [Lib.join_one], Keep.refl _ _⟩
  | n + 2, hnc, hn, h, hln =>
    obtain ⟨g, off, v, rfl, _, h2⟩ := h.2 0 (by omega)
    have hcells : ∀ (j : Nat) x, (l.map bs)[j]? = some x → w.cell? ⟨g, off + j, none⟩ = some (.string x) := fun j x hx => by
      have hj : j < l.length := by
        rcases Nat.lt_or_ge j l.length with q | q
        · exact q
        · rw [List.getElem?_eq_none (by simpa using q)] at hx; cases hx
      obtain ⟨g', off', v', q1, q2, q3⟩ := h.2 j (by omega)
      injection q1 with q1; injection q1 with q4 q5; subst q4 q5
      rw [List.getElem?_map] at hx q2
      rw [q3, ← q2]
      rw [List.getElem?_eq_getElem hj] at hx ⊢
      simp only [Option.map_some, Option.some.injEq] at hx ⊢
      rw [← hx]
    have hmm : ((l.map bs).map (·.data.toList)) = l := by rw [List.map_map]; simp [Function.comp_def, bs_data]
    have hJ := Any.strings_Join_many Tryz.lJoin Tryz.xJoin g off c (l.map bs) (bs sep) w hcells (World.block_lt_of_cell? w _ h2) (by rw [List.length_map]; omega) (by rw [List.length_map]; omega) (by rw [List.length_map]; omega)
      (by rw [hmm, bs_data]; have h1 := join_len sep l hl; have h3 : (sep.length + 100000) * l.length ≤ 100100 * 800000000 := Nat.mul_le_mul (by omega) (by omega); omega)
    rw [List.length_map, hln, hmm, bs_data] at hJ
    exact hJ.mono fun e w' ⟨he, hk⟩ => ⟨he, keep0_of_below hk⟩
set_option maxHeartbeats 4000000 in
theorem showSeeds_any (s : List Int) (v : Nat → Int) (A : Option Addr) (cap : Nat) (hs : ∀ n ∈ s, i64 n) (hlen : s.length ≤ 400000000) (w : World) (hE : Env w) (hR : RdN w A s.length s) :
    Calls Tryz.prog 41 #[.agg (cfgA (.slice A s.length cap) v)] w (Tell (.string (bs (Lib.join (s.map Lib.itoa) [44, 32]))) w) := by
  have hk0 : Keep (fun _ => False) w (w.alloc (.cells (cfgA (.slice A s.length cap) v) 25)) := (Keep.refl _ w).alloc _
  have HK0 := Lib.hid hk0
  have HE := Lib.hid (hE.keep0 hk0)
  have HR := Lib.hid (hR.keep0 hk0)
  have HSs := Lib.hid hs
  obtain ⟨i0, hi, hz0, hz1, hz2⟩ := info_parts infoStr
  have HI0 := Lib.hid hi
  have HZ0 := Lib.hid hz0
  have HZ1 := Lib.hid hz1
  have HZ2 := Lib.hid hz2
  have hX := Blk.new w 25 (cfgA (.slice A s.length cap) v)
  have c1 := hX.cell 0
  rw [cfgA_get _ _ (by decide)] at c1
  simp only [cfgC, if_true] at c1
  clear hE hk0 hX hR hs hi hz0 hz1 hz2
  obtain ⟨W0, hW0⟩ : ∃ W0, w.alloc (.cells (cfgA (.slice A s.length cap) v) 25) = W0 := ⟨_, rfl⟩
  go_enter Tryz.func41, Tryz.ntmps41
  go_upto_region 2 with fail
  rw [hW0] at HK0 HE HR c1
  clear hW0
  go_wp2
  go_loopw [3, 9] (fun l j wr => ∃ (k : Nat) (row : Option Nat) (B : Option Addr) (c : Nat), k ≤ s.length ∧ j = .int .i64 (k : Int) ∧ l = .slice B k c ∧ Hid (SlK wr 9 1 row B k c ((s.take k).map (fun n => vS (Lib.itoa n)))) ∧ Hid (∀ g, row = some g → W0.heap.size ≤ g) ∧ Hid (Keep (fun _ => False) W0 wr)) (fun _ j _ => s.length - (intOf j).toNat)
  case atStart => exact ⟨0, none, none, 0, Nat.zero_le _, rfl, rfl, Lib.hid (SlK.nil_ _ _ _), Lib.hid (fun g e => by cases e), Lib.hid (Keep.refl _ _)⟩
  case round =>
    obtain ⟨k, row, B, c, hk, rfl, rfl, HSl, HRo, HKk⟩ := hrel
    have e2 : IntKind.i64.wrap ((k : Int) + 1) = (k : Int) + 1 := IntWalk.i64_in _ (by omega)
    by_cases hlt : k < s.length
    · have q1 : (k : Int) < (s.length : Int) := by omega
      have q2 : (0 : Int) ≤ (k : Int) := by omega
      obtain ⟨g, off, v0, rfl, h1, h2⟩ := (HR.out.keep0 HKk.out).2 k (by omega)
      rw [List.getElem?_map, List.getElem?_eq_getElem hlt] at h1
      simp only [Option.map_some, Option.some.injEq] at h1
      subst h1
      have h64 := HSs.out _ (List.getElem_mem hlt)
      have htk : s.take (k + 1) = s.take k ++ [s[k]] := by rw [List.take_add_one, List.getElem?_eq_getElem hlt]; rfl
      have HTk := Lib.hid htk
      have H64 := Lib.hid h64
      clear htk h64
      generalize s[k] = n at h2 HTk H64
      go_wp2_with fail
      refine (itoa_any n H64.out _ (HE.out.keep0 HKk.out)).mono ?_
      rintro e w2 ⟨rfl, hk2⟩
      have HK2 := Lib.hid hk2
      have HS2 := Lib.hid (HSl.out.keep hk2 (fun _ _ h => h))
      clear hk2
      go_wp2_with (at_builtin; refine wpList_append_slK rfl _ _ _ rfl i0 _ 16 Tryz.underlying29 HI0.out HZ0.out HZ1.out HZ2.out rfl (by omega) (HS2.out.keep ((Keep.refl (fun _ => False) _).alloc _) (fun _ _ h => h)) rfl rfl (RdK.of_blk (Blk.new _ _ _) 1 1 rfl) (fun u hu => by simp at hu; subst hu; rfl) (by unfold maxLen; omega) (by omega) ?_; intro row2 A3 c5 w4 hs4 hr4
                   have hgr := hr4.resolve_left (fun h => by have := h.1; omega)
                   have HS4 := Lib.hid hs4
                   have HGr := Lib.hid hgr
                   clear hs4 hr4 hgr)
      have hka : Keep (fun _ => False) w2 (w2.alloc (.cells #[.string (bs (Lib.itoa n))] 9)) := (Keep.refl _ _).alloc _
      have hkb := keep0_trans _ _ _ (keep0_trans _ _ _ HKk.out HK2.out) hka
      have HKn := Lib.hid (HGr.out.keep0 hkb HRo.out)
      have HRn := Lib.hid (HGr.out.own hkb.size HRo.out)
      clear hka hkb
      go_roundw
      case rel => exact ⟨k + 1, row2, A3, c5, by omega, by go_num, rfl, Lib.hid (by rw [HTk.out, List.map_append]; exact HS4.out), HRn, HKn⟩
      case measure => simp [intOf]; omega
    · obtain rfl : k = s.length := by omega
      have hfin := HSl.out
      rw [List.take_length] at hfin
      have HF := Lib.hid (show SlK wr 9 1 row B s.length c ((s.map Lib.itoa).map vS) by rw [List.map_map]; exact hfin)
      clear hfin
      go_wp2_with fail
      refine (join_any (s.map Lib.itoa) [44, 32] B s.length c _ HF.out.rd HF.out.2.1 (by omega) (fun x hx => ?_) (by decide)).mono ?_
      · obtain ⟨n, hn, rfl⟩ := List.mem_map.1 hx
        exact Nat.le_trans (itoa_len (HSs.out n hn)) (by decide)
      rintro e w2 ⟨rfl, hk2⟩
      go_wp2
      go_ret
      exact ⟨rfl, keep0_trans _ _ _ HK0.out (keep0_trans _ _ _ HKk.out hk2)⟩
/-- the function of key i's show, and what it has captured -/
theorem show_any (bx : Nat → Nat) (i : Nat) (hi : i < 17) : ∃ (g : Nat) (lb : Array Value), showV bx i = .func (.func g) #[] lb ∧ (∀ (args : Array Value) (w : World), (callFunc g args).run Tryz.prog w = .ok (.enter g args) w) ∧
    ∀ (K : Nat) (c : Cfg) (A : Option Addr) (cap : Nat) (w : World), Env w → WfC c → KeysAt w K bx → RdN w A c.seeds.length c.seeds →
      Calls Tryz.prog g (#[.agg (cfgA (.slice A c.seeds.length cap) c.v)] ++ lb) w (Tell (.string (bs (showM i c))) w) := by
  by_cases h0 : i = 0
  · subst h0
    exact ⟨_, _, rfl, enters_of Tryz.func41 (by kernel_rfl) rfl, fun K c A cap w hE hW hK hR => showSeeds_any c.seeds c.v A cap hW.seeds hW.len w hE hR⟩
  by_cases h8 : i = 8
  · subst h8
    exact ⟨_, _, rfl, enters_of Tryz.func51 (by kernel_rfl) rfl, fun K c A cap w hE hW hK hR => showStrategy_any _ c.v hW.s8.1 hW.s8.2 w hE⟩
  by_cases hf : isFlag i
  · have e : showV bx i = .func (.func 83) #[] #[.pointer (some ⟨bx i, 0, none⟩)] := by
      unfold showV isFlag at *
      rw [if_neg h0, if_neg h8, if_pos hf]
    refine ⟨_, _, e, enters_of Tryz.func83 (by kernel_rfl) rfl, fun K c A cap w hE hW hK hR => ?_⟩
    have hb := hK.box i (.inr hf)
    rw [if_pos (show i = 10 ∨ i = 11 from hf)] at hb
    have := showFlag_any i hf (bx i) (.slice A c.seeds.length cap) c.v w hb
    unfold showM
    rw [if_neg h0, if_neg h8, if_pos (show i = 10 ∨ i = 11 from hf)]
    exact this
  · have hn : isNum i := by unfold isNum isFlag at *; omega
    have hff : ¬ (i = 10 ∨ i = 11) := hf
    have e : showV bx i = .func (.func 80) #[] #[.pointer (some ⟨bx i, 0, none⟩)] := by
      unfold showV
      rw [if_neg h0, if_neg h8, if_neg hff]
    refine ⟨_, _, e, enters_of Tryz.func80 (by kernel_rfl) rfl, fun K c A cap w hE hW hK hR => ?_⟩
    have hb := hK.box i (.inl hn)
    rw [if_neg hff] at hb
    have := showNum_any i hn (bx i) (.slice A c.seeds.length cap) c.v (hW.v i hn) w hE hb
    unfold showM
    rw [if_neg h0, if_neg h8, if_neg hff]
    exact this
end Go.Proofs.YtjgkalcldekmpaaGreatDoor
