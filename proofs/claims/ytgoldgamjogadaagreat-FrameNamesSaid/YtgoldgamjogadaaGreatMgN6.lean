/-
  frame's names, address, empty; functions handed to May; slices.IndexFunc, slices.ContainsFunc at IDs with any function; view.each; ident.Rising.
  slices.Index, slices.Contains at IDs; ident.Has.
-/
import Derived.Test.YtgoldgamjogadaaGreatMgN5
import Derived.Test.YtgoldgamjogadaaGreatMgN2
import Derived.Shelf.Abstract
import Derived.Test.YtgoldgamjogadaaGreatMgN1
namespace Go.Proofs.YtgoldgamjogadaaGreat
open Go.RowKit Go
set_option maxRecDepth 100000
attribute [local go_sem] bs_toList bs_size bs_get

/-- what a Kind names -/
def namesL : List Int := [0, 3, 35, 67, 35, 7, 7, 19, 19, 5, 13, 9, 14, 6]
def namesM (k : Nat) : Int := namesL.getD k 0
set_option maxHeartbeats 1000000 in
theorem fnames_any (k : Nat) (hk : k < 256) (w : World) : Calls Tryz.prog 14 #[.int .u8 (k : Int)] w (Tell (.int .i64 (namesM k)) w) := by
  have e1 : IntKind.i64.wrap (k : Int) = (k : Int) := IntWalk.i64_in _ (by omega)
  have hb := Blk.new w 79 #[.int .i64 0, .int .i64 3, .int .i64 35, .int .i64 67, .int .i64 35, .int .i64 7, .int .i64 7, .int .i64 19, .int .i64 19, .int .i64 5, .int .i64 13, .int .i64 9, .int .i64 14, .int .i64 6]
  have hkk := (Keep.refl (fun _ => False) w).alloc (.cells #[.int .i64 0, .int .i64 3, .int .i64 35, .int .i64 67, .int .i64 35, .int .i64 7, .int .i64 7, .int .i64 19, .int .i64 19, .int .i64 5, .int .i64 13, .int .i64 9, .int .i64 14, .int .i64 6] 79)
  have HKK := Lib.hid hkk
  by_cases h : k < 14
  · have hc := hb.cell k
    have hv : (#[Value.int .i64 0, .int .i64 3, .int .i64 35, .int .i64 67, .int .i64 35, .int .i64 7, .int .i64 7, .int .i64 19, .int .i64 19, .int .i64 5, .int .i64 13, .int .i64 9, .int .i64 14, .int .i64 6] : Array Value)[k]? = some (.int .i64 (namesM k)) := by
      have h2 : ∀ j : Fin 14, (#[Value.int .i64 0, .int .i64 3, .int .i64 35, .int .i64 67, .int .i64 35, .int .i64 7, .int .i64 7, .int .i64 19, .int .i64 19, .int .i64 5, .int .i64 13, .int .i64 9, .int .i64 14, .int .i64 6] : Array Value)[j.val]? = some (.int .i64 (namesM j.val)) := by
        intro ⟨j, hj⟩
        have : j = 0 ∨ j = 1 ∨ j = 2 ∨ j = 3 ∨ j = 4 ∨ j = 5 ∨ j = 6 ∨ j = 7 ∨ j = 8 ∨ j = 9 ∨ j = 10 ∨ j = 11 ∨ j = 12 ∨ j = 13 := by omega
        rcases this with rfl | rfl | rfl | rfl | rfl | rfl | rfl | rfl | rfl | rfl | rfl | rfl | rfl | rfl <;> rfl
      exact h2 ⟨k, h⟩
    rw [hv] at hc
    have HC := Lib.hid hc
    generalize namesM k = x at *
    have q1 : ¬ (14 : Int) ≤ (k : Int) := by omega
    have q2 : (k : Int) < 14 := by omega
    have q3 : (0 : Int) ≤ (k : Int) := by omega
    clear hv hb hkk
    go_enter Tryz.func14, Tryz.ntmps14
    go_wp2
    go_ret
    exact ⟨rfl, HKK.out⟩
  · have hz : namesM k = 0 := by unfold namesM; rw [List.getD, List.getElem?_eq_none (by simp [namesL]; omega)]; rfl
    rw [hz]
    have q1 : (14 : Int) ≤ (k : Int) := by omega
    clear hb hkk
    go_enter Tryz.func14, Tryz.ntmps14
    go_wp2
    go_ret
    exact ⟨rfl, HKK.out⟩
def addrM (p : ID) : Bool := decide (1 ≤ p.1 ∧ p.1 ≤ 12 ∧ 0 ≤ p.2 ∧ p.2 ≤ 1048576)
set_option maxHeartbeats 1000000 in
theorem faddress_any (p : ID) (w : World) : Calls Tryz.prog 18 #[idV p] w (Tell (.bool (addrM p)) w) := by
  obtain ⟨a, i⟩ := p
  have hb := Blk.new w 24 #[.int .i64 a, .int .i64 i]
  have HB := Lib.hid hb
  have HK := Lib.hid ((Keep.refl (fun _ => False) w).alloc (.cells #[.int .i64 a, .int .i64 i] 24))
  have c0 := hb.cell 0
  simp at c0
  clear hb
  cases hM : mayID (a, 1)
  · have hF : addrM (a, i) = false := by
      unfold mayID at hM; rw [decide_eq_false_iff_not] at hM
      exact decide_eq_false (by simp only at hM ⊢; omega)
    rw [hF]
    have HM := Lib.hid hM
    clear hM hF
    go_enter Tryz.func18, Tryz.ntmps18
    go_wp2_with fail
    refine (may_any (a, 1) _).mono ?_
    rintro e w1 ⟨rfl, hk⟩
    rw [HM.out]
    have HK2 := Lib.hid (keep0_trans _ _ _ HK.out hk)
    clear hk c0
    go_wp2
    go_ret
    exact ⟨rfl, HK2.out⟩
  · have hF : addrM (a, i) = decide (0 ≤ i ∧ i ≤ 1048576) := by
      unfold mayID at hM; rw [decide_eq_true_eq] at hM
      unfold addrM
      rw [Bool.eq_iff_iff, decide_eq_true_eq, decide_eq_true_eq]
      simp only at hM ⊢; omega
    rw [hF]
    have HM := Lib.hid hM
    clear hM hF
    go_enter Tryz.func18, Tryz.ntmps18
    go_wp2_with fail
    refine (may_any (a, 1) _).mono ?_
    rintro e w1 ⟨rfl, hk⟩
    rw [HM.out]
    have c1 := (HB.out.keep hk (fun h => h)).cell 1
    simp at c1
    have HK2 := Lib.hid (keep0_trans _ _ _ HK.out hk)
    clear hk c0
    go_wp2
    all_goals
      go_ret
      refine ⟨ret_bool ?_, HK2.out⟩
      rw [Bool.eq_iff_iff]
      first | (simp; done) | (simp; omega) | omega
set_option maxHeartbeats 1000000 in
theorem fempty_any (Am Af Ar Ac As : Option Addr) (nm nf nr nc ns cm cf cr cc cs : Nat) (w : World) (hn : nm + nf + nr + nc + ns ≤ 1000000000) :
    Calls Tryz.prog 20 #[.agg #[.slice Am nm cm, .slice Af nf cf, .slice Ar nr cr, .slice Ac nc cc, .slice As ns cs]] w (Tell (.bool (decide (nm + nf + nr + nc + ns = 0))) w) := by
  have e1 : IntKind.i64.wrap ((nm : Int) + (nf : Int)) = (nm : Int) + (nf : Int) := IntWalk.i64_in _ (by omega)
  have e2 : IntKind.i64.wrap ((nm : Int) + (nf : Int) + (nr : Int)) = (nm : Int) + (nf : Int) + (nr : Int) := IntWalk.i64_in _ (by omega)
  have e3 : IntKind.i64.wrap ((nm : Int) + (nf : Int) + (nr : Int) + (nc : Int)) = (nm : Int) + (nf : Int) + (nr : Int) + (nc : Int) := IntWalk.i64_in _ (by omega)
  have e4 : IntKind.i64.wrap ((nm : Int) + (nf : Int) + (nr : Int) + (nc : Int) + (ns : Int)) = (nm : Int) + (nf : Int) + (nr : Int) + (nc : Int) + (ns : Int) := IntWalk.i64_in _ (by omega)
  have HK := Lib.hid ((Keep.refl (fun _ => False) w).alloc (.cells #[.slice Am nm cm, .slice Af nf cf, .slice Ar nr cr, .slice Ac nc cc, .slice As ns cs] 33))
  go_enter Tryz.func20, Tryz.ntmps20
  go_wp2
  all_goals
    go_ret
    refine ⟨ret_bool ?_, HK.out⟩
    rw [Bool.eq_iff_iff]
    first | (simp; done) | (simp; omega) | omega
/-- does a Kind name this? -/
def nam (n is : Int) : Bool := !decide (bits .and .i64 n is = 0)
def idOK (n is : Int) (p : ID) : Bool := if nam n is then mayID p else decide (p = (0, 0))
def numOK (n is x : Int) : Bool := decide (x = 0) || (nam n is && decide (0 < x ∧ x ≤ 1099511627776))
set_option maxHeartbeats 1000000 in
theorem fmay1_any (B : Nat) (n is : Int) (p : ID) (w : World) (h : w.cell? ⟨B, 0, none⟩ = some (.int .i64 n)) :
    Calls Tryz.prog 15 #[idV p, .int .i64 is, .pointer (some ⟨B, 0, none⟩)] w (Tell (.bool (idOK n is p)) w) := by
  obtain ⟨a, i⟩ := p
  have hb := Blk.new w 24 #[.int .i64 a, .int .i64 i]
  have hk0 := (Keep.refl (fun _ => False) w).alloc (.cells #[.int .i64 a, .int .i64 i] 24)
  have HK := Lib.hid hk0
  have HB := Lib.hid hb
  have c0 := hb.cell 0
  have c1 := hb.cell 1
  simp at c0 c1
  have cn := hk0.cell h (fun h => h)
  have G := gID
  have E := eql_ID (a, i) (0, 0)
  obtain ⟨b, hbit⟩ : ∃ b, bits .and .i64 n is = b := ⟨_, rfl⟩
  have HBit := Lib.hid hbit
  clear hb hk0 h
  by_cases h0 : b = 0
  · have HM := Lib.hid (show idOK n is (a, i) = decide ((a, i) = (0, 0)) by unfold idOK nam; rw [HBit.out, h0]; rfl)
    have h1 : (b == 0) = true := by simpa using h0
    have h2 : (b != 0) = false := by simpa using h0
    generalize decide ((a, i) = ((0, 0) : ID)) = r at E HM
    subst h0
    cases r
    all_goals
      go_enter Tryz.func15, Tryz.ntmps15
      go_wp2
      go_ret
      exact ⟨by rw [HM.out]; rfl, HK.out⟩
  · have HM := Lib.hid (show idOK n is (a, i) = mayID (a, i) by unfold idOK nam; rw [HBit.out, decide_eq_false h0]; rfl)
    have h1 : (b == 0) = false := by simpa using h0
    have h2 : (b != 0) = true := by simpa using h0
    go_enter Tryz.func15, Tryz.ntmps15
    go_wp2_with fail
    refine (may_any (a, i) _).mono ?_
    rintro e w1 ⟨rfl, hk⟩
    have HK2 := Lib.hid (keep0_trans _ _ _ HK.out hk)
    clear hk c0 c1 cn
    have hm := HM.out
    generalize mayID (a, i) = r at hm
    have HM2 := Lib.hid hm
    clear hm
    cases r
    all_goals
      go_wp2
      go_ret
      exact ⟨by rw [HM2.out]; rfl, HK2.out⟩
set_option maxHeartbeats 1000000 in
theorem fmay2_any (B : Nat) (n is x : Int) (w : World) (h : w.cell? ⟨B, 0, none⟩ = some (.int .i64 n)) :
    Calls Tryz.prog 17 #[.int .i64 x, .int .i64 is, .pointer (some ⟨B, 0, none⟩)] w (Tell (.bool (numOK n is x)) w) := by
  obtain ⟨b, hbit⟩ : ∃ b, bits .and .i64 n is = b := ⟨_, rfl⟩
  have HM := Lib.hid (show numOK n is x = (decide (x = 0) || (!decide (b = 0) && decide (0 < x ∧ x ≤ 1099511627776))) by unfold numOK nam; rw [hbit])
  go_enter Tryz.func17, Tryz.ntmps17
  go_wp2
  all_goals
    go_ret
    refine ⟨ret_bool ?_, Keep.refl _ _⟩
    rw [HM.out]
    rw [Bool.eq_iff_iff]
    first | (simp; done) | (simp; omega) | omega | (simp_all; done) | (simp_all; omega)
/-- a function handed in that tells p of an ID, of what stands in w0 -/
def FnI (f : FuncId) (caps : Array Value) (p : ID → Bool) (w0 : World) : Prop :=
  (∀ args w, (callFunc f args).run Tryz.prog w = .ok (.enter f args) w) ∧ ∀ x W, Keep (fun _ => False) w0 W → Calls Tryz.prog f (#[idV x] ++ caps) W (Tell (.bool (p x)) W)
/-- the first place of one for which p is so; -1: none -/
def idxI (p : ID → Bool) (l : List ID) : Int := if l.any p then (l.findIdx p : Int) else -1
theorem any_take_next {p : ID → Bool} {l : List ID} {k : Nat} (hk : k < l.length) (h : (l.take k).any p = false) (hp : p (l.getD k (0, 0)) = false) : (l.take (k + 1)).any p = false := by
  rw [List.take_succ_eq_append_getElem hk, List.any_append, h]
  simp only [List.getD, List.getElem?_eq_getElem hk] at hp
  simpa using hp
set_option maxHeartbeats 2000000 in
theorem indexF_any (f : FuncId) (caps : Array Value) (p : ID → Bool) (A : Option Addr) (n c : Nat) (l : List ID) (w : World) (hf : FnI f caps p w) (h : RdI w A n l) (hn : n ≤ 9223372036854775806) :
    Calls Tryz.prog 85 #[.slice A n c, .func (.func f) #[] caps] w (fun e w' => (∃ i : Int, e = .returned (.int .i64 i) ∧ (0 ≤ i ↔ l.any p = true)) ∧ Keep (fun _ => False) w w') := by
  have HL := Lib.hid h.1
  have HR := Lib.hid h
  have eg := hf.1
  have HF := Lib.hid hf.2
  clear h hf
  go_enter Tryz.func85, Tryz.ntmps85
  go_wp2
  go_loopw [8] (fun j wr => ∃ k : Nat, k ≤ n ∧ j = .int .i64 (k : Int) ∧ Hid ((l.take k).any p = false) ∧ Hid (Keep (fun _ => False) w wr)) (fun j _ => n - (intOf j).toNat)
  case atStart => exact ⟨0, by omega, rfl, Lib.hid (by simp), Lib.hid (Keep.refl _ _)⟩
  case round =>
    obtain ⟨k, hk, rfl, HN, HK⟩ := hrel
    by_cases hlt : k < n
    · obtain ⟨g, off, rfl, c0, c1⟩ := (HR.out.keep0 HK.out).at_ hlt
      have HX := Lib.hid (fun he => any_take_next (p := p) (l := l) (k := k) (by rw [HL.out]; exact hlt) HN.out he)
      have HY := Lib.hid (show p (l.getD k (0, 0)) = true → l.any p = true from fun he => List.any_eq_true.2 ⟨l.getD k (0, 0), by simp [List.getD, show k < l.length by rw [HL.out]; exact hlt], he⟩)
      generalize l.getD k (0, 0) = x at *
      obtain ⟨a, i⟩ := x
      simp only at c0 c1
      have hkI : (k : Int) < (n : Int) := by omega
      have hkJ : (0 : Int) ≤ (k : Int) := by omega
      have e2 : IntKind.i64.wrap ((k : Int) + 1) = (k : Int) + 1 := IntWalk.i64_in _ (by omega)
      go_wp2_with fail
      refine (HF.out (a, i) _ HK.out).mono ?_
      rintro e w1 ⟨rfl, hk1⟩
      have HK1 := Lib.hid (keep0_trans _ _ _ HK.out hk1)
      clear hk1 c0 c1
      rcases Bool.eq_false_or_eq_true (p (a, i)) with hp | hp
      · rw [hp]
        have HP := Lib.hid (HY.out hp)
        clear hp
        go_wp2
        go_ret
        exact ⟨⟨_, rfl, ⟨fun _ => HP.out, fun _ => hkJ⟩⟩, HK1.out⟩
      · rw [hp]
        have HP := Lib.hid (HX.out hp)
        clear hp
        go_wp2
        go_roundw
        case rel => exact ⟨k + 1, by omega, by go_num, HP, HK1⟩
        case measure => simp [intOf]; omega
    · obtain rfl : k = n := by omega
      have HM := Lib.hid (show l.any p = false by have := HN.out; rwa [List.take_of_length_le (by rw [HL.out]; exact Nat.le_refl _)] at this)
      go_wp2
      go_ret
      exact ⟨⟨-1, rfl, ⟨fun h => by omega, fun h => by rw [HM.out] at h; cases h⟩⟩, HK.out⟩
set_option maxHeartbeats 1000000 in
theorem containsF_any (f : FuncId) (caps : Array Value) (p : ID → Bool) (A : Option Addr) (n c : Nat) (l : List ID) (w : World) (hf : FnI f caps p w) (h : RdI w A n l) (hn : n ≤ 9223372036854775806) :
    Calls Tryz.prog 60 #[.slice A n c, .func (.func f) #[] caps] w (Tell (.bool (l.any p)) w) := by
  have HR := Lib.hid h
  have HF := Lib.hid hf
  clear h hf
  go_enter Tryz.func60, Tryz.ntmps60
  go_wp2_with fail
  refine (indexF_any f caps p A n c l _ HF.out HR.out hn).mono ?_
  rintro e w1 ⟨⟨r, rfl, hr⟩, hk⟩
  have HK := Lib.hid hk
  have HI := Lib.hid hr
  clear hk hr
  by_cases h0 : 0 ≤ r
  · have HB := Lib.hid (HI.out.1 h0)
    go_wp2
    go_ret
    exact ⟨ret_bool (by first | (rw [HB.out]; simp [h0]; done) | (rw [HB.out])), HK.out⟩
  · have HB := Lib.hid (show l.any p = false from Bool.eq_false_iff.2 fun h => h0 (HI.out.2 h))
    go_wp2
    go_ret
    exact ⟨ret_bool (by first | (rw [HB.out]; simp [h0]; done) | (rw [HB.out])), HK.out⟩
theorem eg_may : ∀ args w, (callFunc 16 args).run Tryz.prog w = .ok (.enter 16 args) w := enters_of Tryz.func16 (by kernel_rfl) rfl
theorem eg_each1 : ∀ args w, (callFunc 71 args).run Tryz.prog w = .ok (.enter 71 args) w := enters_of Tryz.func71 (by kernel_rfl) rfl
set_option maxHeartbeats 1000000 in
theorem each1_any (B : Nat) (x : ID) (w : World) (h : w.cell? ⟨B, 0, none⟩ = some (.func (.func 16) #[] #[])) :
    Calls Tryz.prog 71 #[idV x, .pointer (some ⟨B, 0, none⟩)] w (Tell (.bool (!mayID x)) w) := by
  obtain ⟨a, i⟩ := x
  have hk0 := (Keep.refl (fun _ => False) w).alloc (.cells #[.int .i64 a, .int .i64 i] 24)
  have HK := Lib.hid hk0
  have cn := hk0.cell h (fun h => h)
  have eg := eg_may
  clear hk0 h
  go_enter Tryz.func71, Tryz.ntmps71
  go_wp2_with fail
  refine (may_any (a, i) _).mono ?_
  rintro e w1 ⟨rfl, hk⟩
  have HK2 := Lib.hid (keep0_trans _ _ _ HK.out hk)
  clear hk cn
  go_wp2
  go_ret
  exact ⟨rfl, HK2.out⟩
set_option maxHeartbeats 1000000 in
theorem each_any (A : Option Addr) (n c : Nat) (l : List ID) (w : World) (h : RdI w A n l) (hn : n ≤ 9223372036854775806) :
    Calls Tryz.prog 39 #[.slice A n c, .func (.func 16) #[] #[]] w (Tell (.bool (l.all mayID)) w) := by
  obtain ⟨W0, hW0⟩ : ∃ W0, w.alloc (.cells #[.func (.func 16) #[] #[]] 57) = W0 := ⟨_, rfl⟩
  have hb : Blk W0 w.heap.size 57 #[.func (.func 16) #[] #[]] := by rw [← hW0]; exact Blk.new _ _ _
  have hk0 : Keep (fun _ => False) w W0 := by rw [← hW0]; exact (Keep.refl _ w).alloc _
  have HF : Hid (FnI 71 #[.pointer (some ⟨w.heap.size, 0, none⟩)] (fun x => !mayID x) W0) := Lib.hid ⟨eg_each1, fun x W hW => each1_any w.heap.size x W (hW.cell (hb.cell 0) (fun h => h))⟩
  have HR := Lib.hid (h.keep0 hk0)
  have HK := Lib.hid hk0
  clear h hk0 hb
  go_enter Tryz.func39, Tryz.ntmps39
  go_wp2_with fail
  refine (containsF_any _ _ _ A n c l _ HF.out HR.out hn).mono ?_
  rintro e w1 ⟨rfl, hk⟩
  have HK2 := Lib.hid (keep0_trans _ _ _ HK.out hk)
  clear hk
  go_wp2
  go_ret
  exact ⟨ret_bool (by rw [Bool.eq_iff_iff]; simp), HK2.out⟩
end Go.Proofs.YtgoldgamjogadaaGreat

namespace Go.Proofs.YtgoldgamjogadaaGreat
open Go.RowKit

theorem not_mem_next {l : List ID} {k : Nat} {x : ID} (h : x ∉ l.take k) (hk : k < l.length) (hne : ¬ x = l.getD k (0, 0)) : x ∉ l.take (k + 1) := by
  rw [List.take_succ_eq_append_getElem hk, List.mem_append, List.mem_singleton]
  rintro (e | e)
  · exact h e
  · exact hne (by rw [e]; simp [List.getD, hk])
theorem mem_at {l : List ID} {k : Nat} {x : ID} (hk : k < l.length) (he : x = l.getD k (0, 0)) : x ∈ l := by
  rw [he]; simp [List.getD, hk]
set_option maxRecDepth 100000 in
set_option maxHeartbeats 1000000 in
theorem index_any (A : Option Addr) (n c : Nat) (l : List ID) (x : ID) (w : World) (h : RdI w A n l) (hn : n ≤ 9223372036854775807) :
    Calls Tryz.prog 98 #[.slice A n c, idV x] w (fun e w' => (∃ i : Int, e = .returned (.int .i64 i) ∧ (0 ≤ i ↔ x ∈ l)) ∧ Keep (fun _ => False) w w') := by
  obtain ⟨a, i⟩ := x
  have HL := Lib.hid h.1
  have HR := Lib.hid h
  clear h
  obtain ⟨W0, hW0⟩ : ∃ W0, w.alloc (.cells #[.int .i64 a, .int .i64 i] 24) = W0 := ⟨_, rfl⟩
  have hB : Blk W0 w.heap.size 24 #[.int .i64 a, .int .i64 i] := by rw [← hW0]; exact Blk.new _ _ _
  have hK : Keep (fun _ => False) w W0 := by rw [← hW0]; exact (Keep.refl _ w).alloc _
  have HB := Lib.hid hB
  have HK := Lib.hid hK
  clear hB hK
  go_enter Tryz.func98, Tryz.ntmps98
  go_wp2
  have HW0 := Lib.hid hW0
  clear hW0
  go_loopw [8] (fun j wr => ∃ k : Nat, k ≤ n ∧ j = .int .i64 (k : Int) ∧ Hid ((a, i) ∉ l.take k) ∧ Hid (Keep (fun _ => False) W0 wr)) (fun j _ => n - (intOf j).toNat)
  case atStart => exact ⟨0, by omega, rfl, Lib.hid (by simp), Lib.hid (Keep.refl _ _)⟩
  case round =>
    obtain ⟨k, hk, rfl, HN, HKr⟩ := hrel
    by_cases hlt : k < n
    · obtain ⟨g, off, hA, c0, c1⟩ := HR.out.at_ hlt
      have kk := keep0_trans _ _ _ HK.out HKr.out
      have q0 := kk.cell c0 (fun h => h)
      have q1 := kk.cell c1 (fun h => h)
      have b0 := HKr.out.cell (HB.out.cell 0) (fun h => h)
      have b1 := HKr.out.cell (HB.out.cell 1) (fun h => h)
      have HX := Lib.hid (fun he => not_mem_next (x := (a, i)) HN.out (by rw [HL.out]; exact hlt) he)
      have HY := Lib.hid (fun he => mem_at (x := (a, i)) (l := l) (k := k) (by rw [HL.out]; exact hlt) he)
      subst hA
      clear c0 c1 kk
      generalize l.getD k (0, 0) = y at q0 q1 HX HY
      obtain ⟨b, j⟩ := y
      simp only at q0 q1
      have hkI : (k : Int) < (n : Int) := by omega
      have hkJ : (0 : Int) ≤ (k : Int) := by omega
      have e2 : IntKind.i64.wrap (k : Int) = (k : Int) := IntWalk.i64_in _ (by omega)
      have G := gID
      by_cases he : (a, i) = (b, j)
      · have E := (fun W => by simpa [he] using eql_ID (a, i) (b, j) W : ∀ W, (binOp .eql 24 (idV (a, i)) (idV (b, j))).run Tryz.prog W = .ok (.bool true) W)
        have HM := Lib.hid (HY.out he)
        clear he HX HY
        go_wp2
        go_quiet (fail)
        go_wp2
        go_ret
        exact ⟨⟨(k : Int), rfl, ⟨fun _ => HM.out, fun _ => hkJ⟩⟩, keep0_trans _ _ _ HK.out (HKr.out.drewN _)⟩
      · have E := (fun W => by simpa [he] using eql_ID (a, i) (b, j) W : ∀ W, (binOp .eql 24 (idV (a, i)) (idV (b, j))).run Tryz.prog W = .ok (.bool false) W)
        have HM := Lib.hid (HX.out he)
        clear he HX HY
        go_wp2
        go_quiet (fail)
        go_wp2
        go_roundw
        case rel => exact ⟨k + 1, by omega, by go_num, HM, Lib.hid (HKr.out.drewN _)⟩
        case measure => simp [intOf]; omega
    · obtain rfl : k = n := by omega
      have HM : Hid ((a, i) ∉ l) := Lib.hid (by have := HN.out; rwa [List.take_of_length_le (by rw [HL.out]; exact Nat.le_refl _)] at this)
      go_wp2
      go_ret
      exact ⟨⟨-1, rfl, ⟨fun h => by omega, fun h => absurd h HM.out⟩⟩, keep0_trans _ _ _ HK.out HKr.out⟩
set_option maxHeartbeats 1000000 in
theorem contains_any (A : Option Addr) (n c : Nat) (l : List ID) (x : ID) (w : World) (h : RdI w A n l) (hn : n ≤ 9223372036854775807) :
    Calls Tryz.prog 83 #[.slice A n c, idV x] w (Tell (.bool (decide (x ∈ l))) w) := by
  have HR := Lib.hid h
  clear h
  obtain ⟨a, i⟩ := x
  go_enter Tryz.func83, Tryz.ntmps83
  go_wp2_with fail
  refine (index_any A n c l (a, i) _ (HR.out.keep0 ((Keep.refl _ w).alloc _)) hn).mono ?_
  rintro e w1 ⟨⟨r, rfl, hr⟩, hk⟩
  have HK := Lib.hid hk
  have HI := Lib.hid hr
  clear hk hr
  by_cases h0 : 0 ≤ r
  · go_wp2
    go_ret
    exact ⟨ret_bool (by simp [HI.out.1 h0]), keep0_trans _ _ _ ((Keep.refl _ w).alloc _) HK.out⟩
  · go_wp2
    go_ret
    exact ⟨ret_bool (by simpa using HI.out), keep0_trans _ _ _ ((Keep.refl _ w).alloc _) HK.out⟩
set_option maxHeartbeats 1000000 in
theorem has_any (A : Option Addr) (n c : Nat) (l : List ID) (x : ID) (w : World) (h : RdI w A n l) (hn : n ≤ 9223372036854775807) :
    Calls Tryz.prog 58 #[.slice A n c, idV x] w (Tell (.bool (decide (x ∈ l))) w) := by
  have HR := Lib.hid h
  clear h
  obtain ⟨a, i⟩ := x
  go_enter Tryz.func58, Tryz.ntmps58
  go_wp2_with fail
  refine (contains_any A n c l (a, i) _ (HR.out.keep0 ((Keep.refl _ w).alloc _)) hn).mono ?_
  rintro e w1 ⟨rfl, hk⟩
  have HK := Lib.hid hk
  clear hk
  go_wp2
  go_ret
  exact ⟨rfl, keep0_trans _ _ _ ((Keep.refl _ w).alloc _) HK.out⟩
end Go.Proofs.YtgoldgamjogadaaGreat
