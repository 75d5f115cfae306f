/-
  config: lines, the iterator.
-/
import Derived.Test.YtjgkalcldekmpaaGreatDoorCfgE
import Derived.RangeFuncNested
import Derived.RangeFuncBound
import Derived.RangeFuncCalls
import Derived.RangeFuncLeaves
import Derived.OwnWalkIn
import Derived.TacticsInMore
import Derived.LoopNIn
import Derived.LoopIn
namespace Go.Proofs.YtjgkalcldekmpaaGreatDoor
open Go.RowKit Go Go.Shelf
attribute [local go_sem] bs_toList bs_size bs_zero
attribute [local go_sem] Oper.semAt_some

/-- a line as the iterator tells it: its number, what it says -/
abbrev LnT := {x : Int × Bs // x.2.length ≤ 40000000}
def mkL (k : Int) (l : Bs) : LnT := if h : l.length ≤ 40000000 then ⟨(k, l), h⟩ else ⟨(k, []), by simp⟩
theorem mkL_val {k : Int} {l : Bs} (h : l.length ≤ 40000000) : (mkL k l).1 = (k, l) := by unfold mkL; rw [dif_pos h]
def lineM (l : Bs) : Bs := trimM (cutM 35 l).1
def nl (s : Bs) : List LnT := (List.range (spl 10 s).length).map fun (k : Nat) => mkL ((k : Int) + 1) (lineM ((spl 10 s).getD k []))
theorem nl_len (s : Bs) : (nl s).length = (spl 10 s).length := by simp [nl]
theorem nl_next (s : Bs) {k : Nat} (hk : k < (spl 10 s).length) : (nl s).take (k + 1) = (nl s).take k ++ [mkL ((k : Int) + 1) (lineM ((spl 10 s).getD k []))] := by
  rw [List.take_succ_eq_append_getElem (by rw [nl_len]; exact hk)]
  congr 1
  simp [nl]
abbrev encL (x : LnT) : Array Value := #[.int .i64 x.1.1, .string (bs x.1.2)]
theorem lineM_len (l : Bs) : (lineM l).length ≤ l.length := Nat.le_trans (trim_len _ _) (List.Sublist.length_le (List.takeWhile_sublist _))
/-- what a round that goes on keeps: the variables, and the blocks from n0 on -/
structure KpL (n0 : Nat) (W W' : World) : Prop where
  env : Env W → Env W'
  size : W.heap.size ≤ W'.heap.size
  cells : ∀ (k : Nat) (o : Obj), n0 ≤ k → W.heap[k]? = some o → o.isCells = true → W'.heap[k]? = some o
theorem KpL.trans {n0 : Nat} {A B C : World} (h : KpL n0 A B) (k : KpL n0 B C) : KpL n0 A C := ⟨fun e => k.env (h.env e), Nat.le_trans h.size k.size, fun i o hi ho hc => k.cells i o hi (h.cells i o hi ho hc) hc⟩
theorem KpL.blk {n0 : Nat} {W W' : World} (h : KpL n0 W W') {b : Nat} {t : TypeId} {cs : Array Value} (hb : Blk W b t cs) (hn : n0 ≤ b) : Blk W' b t cs := h.cells b _ hn hb rfl
theorem KpL.of_keep {n0 : Nat} {W W' : World} {S : Nat → Prop} (hk : Keep S W W') (h9 : ∀ g, g < 9 → ¬ S g) (hS : ∀ g, n0 ≤ g → ¬ S g) : KpL n0 W W' :=
  ⟨fun e => e.keepS hk h9, hk.size, fun k _ hn ho _ => hk.heap ho (hS k hn)⟩
theorem KpL.put {n0 m : Nat} (h9 : 9 ≤ n0) (hm : n0 ≤ m) : ∀ (W : World) (l : Nat) (o o' : Obj), m ≤ l → W.heap[l]? = some o → o.isCells = false → o.isWalk = false → KpL n0 W (W.putObj l o') := fun W l _ o' hl ho hc _ =>
  ⟨fun e => e.keepS (S := fun g => g = l) (Keep.grown (grownBy_putObj' W l o') (fun k e => by injection e with e; exact e.symm)) (fun g hg e => by omega), by simp, fun k o2 hk ho2 hc2 => by
    have hne : ¬ k = l := fun e => by rw [e] at ho2; rw [ho] at ho2; injection ho2 with ho2; rw [← ho2, hc] at hc2; cases hc2
    exact (World.putObj_heap_other (fun e => hne e)).trans ho2⟩
set_option maxRecDepth 100000 in
set_option maxHeartbeats 4000000 in
theorem lines1_stops (n : Nat) (hn : 1 ≤ n) (Bx : Nat) (s : Bs) (hs : s.length ≤ 40000000) (w : World) (hE : Env w) (hB : Blk w Bx 9 #[.string (bs s)]) :
    SeqStopsK Fence.wide n Tryz.prog 62 #[.pointer (some ⟨Bx, 0, none⟩)] encL (KpL w.heap.size) (fun xs => xs = nl s) (fun pre => ∃ k, pre = (nl s).take k) 80000000 w := by
  intro l J Jx W hW hJ hJx hY hJ0
  have HJ := Lib.hid hJ
  have HY := Lib.hid hY
  have hkw : Keep (fun _ => False) w W := keep0_of_below hW
  have HE := Lib.hid (hE.keep0 hkw)
  have b0 := (hB.keep hkw (fun h => h)).cell 0
  simp at b0
  have hcnt := spl_count 10 s
  have hsz0 := hkw.size
  clear hJ hY hE hB hW hJx hkw
  refine callsIn_of_wp Tryz.func62 rfl trivial ?_ rfl
  simp only [Tryz.ntmps62, List.size_toArray, List.length_cons, List.length_nil, Nat.reduceAdd, Nat.reduceSub, Array.replicate_succ, Array.replicate_zero, List.push_toArray, List.append_toArray, List.nil_append, List.cons_append]
  gi_wp2_with fail
  refine ⟨trivial, CallsIn.mono (callsIn_wide.2 (split_any s 10 _ rfl _ HE.out (by omega))) ?_⟩
  rintro e w1 ⟨rfl, hw1⟩
  have hG : Blk w1 W.heap.size 9 ((spl 10 s).map (fun x => Value.string (bs x))).toArray := by rw [hw1]; exact Blk.new _ _ _
  have hJ1 : J ((nl s).take 0) w1 := by rw [hw1]; exact HJ.out _ _ _ none hJ0 (World.grownBy_alloc W _ none) (fun r e => by cases e)
  have hE1 : Env w1 := by rw [hw1]; exact HE.out.keep0 ((Keep.refl _ _).alloc _)
  have HE1 := Lib.hid hE1
  have hs1 : w.heap.size ≤ w1.heap.size := by rw [hw1]; simp; omega
  clear hw1 hE1 hJ0
  obtain ⟨G, hGe⟩ : ∃ G, W.heap.size = G := ⟨_, rfl⟩
  rw [hGe] at hG hsz0 ⊢
  have HG := Lib.hid hG
  have HLn := Lib.hid (spl_len 10 s)
  have HNx := Lib.hid (fun k (hk : k < (spl 10 s).length) => nl_next s hk)
  have HNl := Lib.hid (nl_len s)
  obtain ⟨ps, hps⟩ : ∃ ps, spl 10 s = ps := ⟨_, rfl⟩
  rw [hps] at HG HLn hcnt HNx HNl ⊢
  clear hG hps
  gi_wp2
  gi_loopw [8] (fun j wr => ∃ k : Nat, k ≤ ps.length ∧ j = .int .i64 (k : Int) ∧ J ((nl s).take k) wr ∧ Hid (Blk wr G 9 (ps.map (fun x => Value.string (bs x))).toArray) ∧ Hid (Env wr)) (fun j _ => ps.length - (intOf j).toNat)
  case atStart => exact ⟨0, Nat.zero_le _, rfl, hJ1, HG, HE1⟩
  case round =>
    clear hJ1 HG HE1 b0 HE
    obtain ⟨k, hk, rfl, hJk, HGk, HEk⟩ := hrel
    have e2 : IntKind.i64.wrap ((k : Int) + 1) = (k : Int) + 1 := IntWalk.i64_in _ (by omega)
    by_cases hlt : k < ps.length
    · have q1 : (k : Int) < (ps.length : Int) := by omega
      have q2 : (0 : Int) ≤ (k : Int) := by omega
      have p0 : wr.cell? ⟨G, k, none⟩ = some (.string (bs ps[k])) := by rw [HGk.out.cell k, strs_get ps hlt]
      have hxl := HLn.out _ (List.getElem_mem hlt)
      have hnx := HNx.out k hlt
      have hgd : ps.getD k [] = ps[k] := by simp [List.getD, hlt]
      rw [hgd] at hnx
      clear hgd
      generalize ps[k] = x at p0 hxl hnx
      have HNk := Lib.hid hnx
      clear hnx
      have hcl : (cutM 35 x).1.length ≤ 40000000 := Nat.le_trans (List.Sublist.length_le (List.takeWhile_sublist _)) (by omega)
      have hll : (lineM x).length ≤ 40000000 := Nat.le_trans (lineM_len x) (by omega)
      gi_wp2_with fail
      refine ⟨trivial, CallsIn.mono (callsIn_wide.2 (cut_any x 35 _ rfl _ HEk.out (by omega))) ?_⟩
      rintro e w2 ⟨rfl, hk2⟩
      have HK2 := Lib.hid hk2
      clear hk2
      gi_wp2_with fail
      refine ⟨trivial, CallsIn.mono (callsIn_wide.2 (trimB_any (cutM 35 x).1 _ (by omega))) ?_⟩
      rintro e w3 ⟨rfl, hk3⟩
      have HK3 := Lib.hid (keep0_trans _ _ _ HK2.out hk3)
      have hJ3 : J ((nl s).take k) w3 := HJ.out _ _ _ none hJk ⟨HK3.out.os, HK3.out.tape, HK3.out.output, HK3.out.size, fun i hi _ => HK3.out.block i hi (fun h => h)⟩ (fun r e => by cases e)
      obtain ⟨fn, tmps, assign, body, hy, hR⟩ := HY.out ((nl s).take k) (mkL ((k : Int) + 1) (lineM x)) w3 hJ3 (by rw [List.length_take]; omega)
      have HR := Lib.hid hR
      have hv : encL (mkL ((k : Int) + 1) (lineM x)) = #[.int .i64 ((k : Int) + 1), .string (bs (trimM (cutM 35 x).1))] := by
        unfold encL; rw [mkL_val hll]; rfl
      rw [hv] at hy
      clear hR hk3 hv hJ3 hJk
      gi_wp2
      refine HR.out.mono ?_
      rintro e w4 (⟨rfl, hJ4, hkp⟩ | ⟨rfl, hJx4⟩)
      · rw [← HNk.out] at hJ4
        have HG4 := Lib.hid (hkp.blk (HGk.out.keep HK3.out (fun h => h)) (by omega))
        have HE4 := Lib.hid (hkp.env (HEk.out.keep0 HK3.out))
        clear hkp
        gi_wp2
        go_roundw
        case rel => exact ⟨k + 1, by omega, by go_num, hJ4, HG4, HE4⟩
        case measure => simp [intOf]; omega
      · rw [← HNk.out] at hJx4
        gi_wp2
        exact bodyPost_ret (v := .tuple #[]) (by simp [results, Tryz.results62, go_sem]) rfl ⟨⟨_, rfl⟩, .inr ⟨_, ⟨k + 1, rfl⟩, hJx4⟩⟩
    · obtain rfl : k = ps.length := by omega
      rw [show (nl s).take ps.length = nl s from List.take_of_length_le (by rw [HNl.out]; exact Nat.le_refl _)] at hJk
      gi_wp2
      go_end0
      exact ⟨⟨_, rfl⟩, .inl ⟨_, rfl, hJk⟩⟩
theorem lines_any (s : Bs) (w : World) : Calls Tryz.prog 22 #[.string (bs s)] w fun e w' => e = .returned (.func (.func 62) #[] #[.pointer (some ⟨w.heap.size, 0, none⟩)]) ∧ w' = w.alloc (.cells #[.string (bs s)] 9) := by
  go_enter Tryz.func22, Tryz.ntmps22
  go_wp2
  go_ret
  exact ⟨rfl, rfl⟩
end Go.Proofs.YtjgkalcldekmpaaGreatDoor
