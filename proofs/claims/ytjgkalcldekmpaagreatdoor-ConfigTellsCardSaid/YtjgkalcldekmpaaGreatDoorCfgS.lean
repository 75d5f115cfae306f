/-
  config's law: lines, together.
-/
import Derived.Test.YtjgkalcldekmpaaGreatDoorCfgR
namespace Go.Proofs.YtjgkalcldekmpaaGreatDoor
open Go.RowKit Go Go.Shelf
set_option maxRecDepth 100000
attribute [local go_sem] bs_toList bs_size bs_zero

theorem spl_at {d : UInt8} : ∀ {a : Bs} (b : Bs), a.contains d = false → spl d (a ++ d :: b) = a :: spl d b
  | [], b, _ => by
    show spl d (d :: b) = _
    rw [spl, if_pos rfl]
  | x :: a, b, h => by
    have h1 : ¬ x = d ∧ a.contains d = false := by
      simp only [List.contains_cons, Bool.or_eq_false_iff, beq_eq_false_iff_ne, ne_eq] at h
      exact ⟨fun e => h.1 e.symm, h.2⟩
    show spl d (x :: (a ++ d :: b)) = _
    rw [spl, if_neg h1.1, spl_at b h1.2]
    rfl
theorem bs_extract (l : Bs) (a b : Nat) : (bs l).extract a b = bs ((l.drop a).take (b - a)) := by
  apply ByteArray.ext
  rw [ByteArray.data_extract]
  apply Array.toList_inj.1
  simp [bs, List.take_drop]
theorem join_snoc (sep : Bs) (l : List Bs) (x : Bs) (h : l ≠ []) : Lib.join (l ++ [x]) sep = Lib.join l sep ++ sep ++ x := by
  cases l with
  | nil => exact absurd rfl h
  | cons y r =>
    rw [List.cons_append, Lib.join_cons, Lib.join_cons]
    simp [Lib.joinTail]
set_option maxHeartbeats 2000000 in
theorem together_any (l : List Bs) (A : Option Addr) (n c : Nat) (w : World) (h : RdK w 1 A n (l.map vS)) (hn : n ≤ 100000) (hl : ∀ x ∈ l, x.length ≤ 1000000) :
    Calls Tryz.prog 12 #[.slice A n c] w (Tell (.string (bs (Lib.join l [10]))) w) := by
  have hln : l.length = n := by have := h.1; simpa using this
  subst hln
  have HR := Lib.hid h
  have HL := Lib.hid hl
  clear h hl
  go_enter Tryz.func12, Tryz.ntmps12
  go_wp2
  go_loopw [3, 4] (fun s j wr => ∃ k : Nat, k ≤ l.length ∧ j = .int .i64 (k : Int) ∧ s = .string (bs (Lib.join (l.take k) [10])) ∧ Hid (Keep (fun _ => False) w wr)) (fun _ j _ => l.length - (intOf j).toNat)
  case atStart => exact ⟨0, Nat.zero_le _, rfl, rfl, Lib.hid (Keep.refl _ _)⟩
  case round =>
    obtain ⟨k, hk, rfl, rfl, HKk⟩ := hrel
    have e2 : IntKind.i64.wrap ((k : Int) + 1) = (k : Int) + 1 := IntWalk.i64_in _ (by omega)
    by_cases hlt : k < l.length
    · have q1 : (k : Int) < (l.length : Int) := by omega
      have q2 : (0 : Int) ≤ (k : Int) := by omega
      obtain ⟨g, off, v0, rfl, h1, h2⟩ := (HR.out.keep0 HKk.out).2 k (by omega)
      rw [List.getElem?_map, List.getElem?_eq_getElem hlt] at h1
      simp only [Option.map_some, Option.some.injEq] at h1
      subst h1
      have hx := HL.out _ (List.getElem_mem hlt)
      have htk : l.take (k + 1) = l.take k ++ [l[k]] := by rw [List.take_add_one, List.getElem?_eq_getElem hlt]; rfl
      have HTk := Lib.hid htk
      clear htk
      have hJ := join_len [10] (l.take k) (fun x hx => HL.out x (List.mem_of_mem_take hx))
      rw [List.length_take, Nat.min_eq_left hk] at hJ
      generalize l[k] = x at h2 HTk hx
      have hJ2 : (Lib.join (l.take k) [10]).length ≤ 100100000000 := by
        refine Nat.le_trans hJ ?_
        show (1 + 1000000) * k ≤ _
        omega
      clear hJ
      by_cases h0 : k = 0
      · have p0 : ¬ (0 : Int) < (k : Int) := by omega
        have HJ : Hid (Lib.join (l.take (k + 1)) [10] = Lib.join (l.take k) [10] ++ x) := Lib.hid (by rw [HTk.out, h0]; simp [Lib.join_nil, Lib.join_one])
        obtain ⟨J, hJe⟩ : ∃ J, Lib.join (l.take k) [10] = J := ⟨_, rfl⟩
        rw [hJe] at HJ hJ2 ⊢
        have q3 : ¬ 9223372036854775807 < J.length + x.length := by omega
        clear hJe h0
        go_wp2
        go_roundw
        case rel => exact ⟨k + 1, by omega, by go_num, by rw [HJ.out, ← bs_cat], HKk⟩
        case measure => simp [intOf]; omega
      · have p0 : (0 : Int) < (k : Int) := by omega
        have HJ : Hid (Lib.join (l.take (k + 1)) [10] = Lib.join (l.take k) [10] ++ [10] ++ x) := Lib.hid (by
          rw [HTk.out, join_snoc [10] (l.take k) x (fun e => by
            have := congrArg List.length e
            rw [List.length_take, Nat.min_eq_left hk] at this
            exact h0 this)])
        obtain ⟨J, hJe⟩ : ∃ J, Lib.join (l.take k) [10] = J := ⟨_, rfl⟩
        rw [hJe] at HJ hJ2 ⊢
        have q3 : ¬ 9223372036854775807 < J.length + 1 := by omega
        have q4 : ¬ 9223372036854775807 < J.length + 1 + x.length := by omega
        clear hJe h0
        go_wp2
        go_roundw
        case rel => exact ⟨k + 1, by omega, by go_num, by rw [HJ.out, ← bs_cat, ← bs_cat]; rfl, HKk⟩
        case measure => simp [intOf]; omega
    · obtain rfl : k = l.length := by omega
      rw [List.take_length]
      go_wp2
      go_ret
      exact ⟨rfl, HKk.out⟩
end Go.Proofs.YtjgkalcldekmpaaGreatDoor
