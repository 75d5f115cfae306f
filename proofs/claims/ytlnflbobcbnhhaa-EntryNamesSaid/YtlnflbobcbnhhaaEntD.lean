/-
  The examples' text: ticks.
-/
import Derived.Test.YtlnflbobcbnhhaaEntC
import Derived.Laws.BytesString
namespace Go.Proofs.Ytlnflbobcbnhhaa
open Go.RowKit

theorem asked_mem (own : Int) (l : List Int) : ∀ a ∈ asked own l, 1 ≤ a ∧ a ≤ 12 := by
  unfold asked
  suffices h : ∀ (acc : List Int), (∀ a ∈ acc, 1 ≤ a ∧ a ≤ 12) → ∀ a ∈ l.foldl (askOne own) acc, 1 ≤ a ∧ a ≤ 12 from h [] (by simp)
  induction l with
  | nil => intro acc h; simpa using h
  | cons s t ih =>
    intro acc h
    refine ih _ ?_
    unfold askOne
    split
    · exact h
    · rename_i hn
      intro a ha
      simp only [List.mem_append, List.mem_singleton] at ha
      rcases ha with ha | rfl
      · exact h a ha
      · constructor
        · apply Int.not_lt.1; intro hlt; exact hn (.inl hlt)
        · apply Int.not_lt.1; intro hlt; exact hn (.inr (.inl hlt))
theorem asks_mem (x : E) : ∀ a ∈ x.asks, 1 ≤ a ∧ a ≤ 12 := by
  unfold E.asks
  split
  · exact asked_mem _ _
  · simp

theorem asks_len {x : E} (h : x.Ok) : x.asks.length ≤ 1000 := by
  unfold E.asks
  split
  · have := asked_len x.own x.seeds x.seeds.length
    rw [List.take_length] at this
    have := h.len
    omega
  · simp
def digits (l : List Int) : List UInt8 := l.map fun a => UInt8.ofNat (48 + a).toNat
theorem digits_succ (l : List Int) (k : Nat) (h : k < l.length) : digits (l.take (k + 1)) = digits (l.take k) ++ [UInt8.ofNat (48 + l.getD k 0).toNat] := by
  unfold digits
  rw [List.take_succ_eq_append_getElem h, List.map_append]
  simp [List.getD, h]
def E.text (x : E) : List UInt8 := if x.asks = [] ∧ x.alone = false then [45] else digits x.asks ++ (if x.alone then [97] else [])

theorem run_one_byte (w : World) (z : Int) : (Go.convert 53 9 (.slice (some ⟨w.heap.size, 0, none⟩) 1 1)).run Try.prog (w.alloc (.cells #[.int .u8 z] 5)) = .ok (.string ⟨#[UInt8.ofNat z.toNat]⟩) (w.alloc (.cells #[.int .u8 z] 5)) := by
  rw [run_convert_bytes_string _ _ _ 5 _ _ _ Try.underlying53 Try.underlying5 Try.underlying9, run_bytesToString _ _ 1 1 [z] (by
    have := run_loadCells_list (P := Try.prog) (w.alloc (.cells #[.int .u8 z] 5)) ⟨w.heap.size, 0, none⟩ [.int .u8 z] (fun j v hj => by
      match j, hj with
      | 0, hj => simp at hj; subst hj; simp [Addr.add])
    simpa using this)]
  rfl

/-- the state behind n ticks -/
def tickN : Nat → E → E
  | 0, x => x
  | n + 1, x => (tickN n x).tick
theorem tickN_ok {x : E} (h : x.Ok) (n : Nat) : (tickN n x).Ok := by
  induction n with
  | zero => exact h
  | succ n ih => exact ih.tick

theorem EHas.keep0 {w w' : World} {b : Nat} {row : Option Nat} {x : E} (h : EHas w b row x) (hk : Keep (fun _ => False) w w') : EHas w' b row x := by
  obtain ⟨A, n, c, hb, hs⟩ := h
  exact ⟨A, n, c, hb.keep hk (fun h => h), hs.keep hk (fun _ _ h => h)⟩

/-- The texts in a slice of strings. -/
def Texts (w : World) (g off n : Nat) (ws : Nat → List UInt8) : Prop := ∀ i, i < n → w.cell? ⟨g, off + i, none⟩ = some (.string ⟨(ws i).toArray⟩)

theorem str_add (a b : List UInt8) : (⟨a.toArray⟩ : ByteArray) ++ ⟨b.toArray⟩ = ⟨(a ++ b).toArray⟩ := ByteArray.mk_append_mk a b

set_option maxRecDepth 100000 in
set_option maxHeartbeats 2000000 in
theorem ticks_true {b g off n c : Nat} {row : Option Nat} {x : E} (w : World) (h : EHas w b row x) (ok : x.Ok) (ws : Nat → List UInt8) (hw : Texts w g off n ws) (hgb : g ≠ b) (hn : n ≤ 1000) (heq : ∀ i, i < n → ws i = (tickN i x).text) :
    Calls Try.prog 17 #[.pointer (some ⟨b, 0, none⟩), .slice (some ⟨g, off, none⟩) n c] w fun e w' => e = .returned (.bool true) ∧ EHas w' b row (tickN n x) ∧ Keep (fun k => k = b) w w' := by
  have HW := Lib.hid hw
  have HQ := Lib.hid heq
  have HO := Lib.hid ok
  have HH := Lib.hid h
  clear hw heq ok
  go_enter Try.func17, Try.ntmps17
  go_wp2
  go_loopw [5] (fun i wr => ∃ k : Nat, k ≤ n ∧ i = .int .i64 k ∧ EHas wr b row (tickN k x) ∧ Keep (fun k => k = b) w wr) (fun i _ => n - (intOf i).toNat)
  case atStart => exact ⟨0, Nat.zero_le _, rfl, h, Keep.refl _ _⟩
  case round =>
    obtain ⟨k, hk, rfl, hE, hK⟩ := hrel
    clear h
    by_cases hlt : k < n
    · have hcell := hK.cell (HW.out k hlt) (fun e => hgb e)
      have htx := HQ.out k hlt
      have hokk := tickN_ok HO.out k
      rw [htx] at hcell
      have hmem := asks_mem (tickN k x)
      have HKK := Lib.hid hK
      have htick : (tickN k x).tick = tickN (k + 1) x := rfl
      generalize tickN k x = y at hE hcell hokk hmem htick
      clear htx hK
      go_wp2_with fail
      refine (tick_any _ hE hokk).mono ?_
      rintro e w2 ⟨row2, A2, c2, rfl, hs2, hr2, hE2, hK2⟩
      have hcell2 := hK2.cell hcell (fun e => hgb e)
      have HKK2 := Lib.hid (HKK.out.trans (hK2.mono fun _ _ h => .inl h))
      rw [htick] at hE2
      have HE2 := Lib.hid hE2
      have HS2 := Lib.hid hs2
      have HM := Lib.hid hmem
      have HYL := Lib.hid (asks_len hokk)
      clear hE hokk hE2 hs2 hr2 hK2 hcell hmem htick
      obtain ⟨xs, hxs⟩ : ∃ xs, xs = y.asks := ⟨_, rfl⟩
      obtain ⟨al, hal⟩ : ∃ al, al = y.alone := ⟨_, rfl⟩
      have htext : y.text = if xs = [] ∧ al = false then [45] else digits xs ++ (if al then [97] else []) := by rw [hxs, hal]; rfl
      rw [← hxs] at HS2 HM ⊢
      rw [← hal]
      have HTx := Lib.hid htext
      have HXL := Lib.hid (show xs.length ≤ 1000 by rw [hxs]; exact HYL.out)
      clear hxs hal htext
      obtain ⟨m, hm⟩ : ∃ m, m = xs.length := ⟨_, rfl⟩
      rw [← hm] at HS2 ⊢
      have hm12 : m ≤ 1000 := by rw [hm]; exact HXL.out
      have HMl := Lib.hid hm
      clear hm
      go_wp2
      go_loopw [8, 9] (fun s i wr => ∃ j : Nat, j ≤ m ∧ i = .int .i64 j ∧ s = .string ⟨(digits (xs.take j)).toArray⟩ ∧ Keep (fun _ => False) w2 wr) (fun _ i _ => m - (intOf i).toNat)
      case atStart => exact ⟨0, Nat.zero_le _, rfl, rfl, Keep.refl _ _⟩
      case round =>
        obtain ⟨j, hj, rfl, rfl, hK3⟩ := hrel
        by_cases hjl : j < m
        · obtain ⟨g3, off3, v, rfl, _, hv, hcs⟩ := HS2.out.at_ hjl
          have hjx : j < xs.length := by rw [← HMl.out]; exact hjl
          have hv2 : v = .int .i64 (xs.getD j 0) := by
            simp [hjx] at hv
            simp [List.getD, hjx, ← hv]
          have hab := HM.out (xs.getD j 0) (by simp [List.getD, hjx])
          rw [hv2] at hcs
          have hcs3 := hK3.cell hcs (fun h => h)
          have HDs := Lib.hid (digits_succ xs j hjx)
          have hdl : (digits (xs.take j)).length ≤ 1000 := by unfold digits; rw [List.length_map]; have := List.length_take_le j xs; omega
          clear hv hv2 hcs
          generalize xs.getD j 0 = a at hab hcs3 HDs
          generalize digits (xs.take j) = ds at hdl HDs
          have e1 : IntKind.u8.wrap (48 + a) = 48 + a := IntWalk.u8_in _ (by omega)
          have kc := run_one_byte wr (48 + a)
          have hsz : ds.length + 1 ≤ 9223372036854775807 := by omega
          go_wp2
          go_roundw
          case rel => exact ⟨j + 1, by omega, by go_num, by rw [HDs.out]; exact congrArg Value.string (str_add ds [UInt8.ofNat (48 + a).toNat]), hK3.alloc _⟩
          case measure => simp [intOf]; omega
        · obtain rfl : j = m := by omega
          have hfull : xs.take j = xs := List.take_of_length_le (by rw [← HMl.out]; exact Nat.le_refl _)
          rw [hfull]
          clear hfull
          have hcell4 := hK3.cell hcell2 (fun h => h)
          have hdl : (digits xs).length ≤ 1000 := by unfold digits; rw [List.length_map, ← HMl.out]; omega
          rw [HTx.out] at hcell4
          have HK3 := Lib.hid hK3
          clear hcell2 hK3
          cases al with
          | true =>
            simp only [if_true, Bool.true_eq_false, and_false, if_false] at hcell4
            have hsa : (⟨(digits xs).toArray⟩ : ByteArray) ++ ⟨#[97]⟩ = ⟨(digits xs ++ [97]).toArray⟩ := str_add (digits xs) [97]
            have hdn : (digits xs ++ [97]).isEmpty = false := by cases digits xs <;> rfl
            go_wp2
            go_roundw
            case rel => exact ⟨k + 1, by omega, by go_num, HE2.out.keep0 HK3.out, (HKK2.out.trans (HK3.out.mono fun _ _ h => h.elim))⟩
            case measure => simp [intOf]; omega
          | false =>
            by_cases hxe : xs = []
            · subst hxe
              have hdn : digits [] = [] := rfl
              go_wp2
              go_roundw
              case rel => exact ⟨k + 1, by omega, by go_num, HE2.out.keep0 HK3.out, (HKK2.out.trans (HK3.out.mono fun _ _ h => h.elim))⟩
              case measure => simp [intOf]; omega
            · simp only [hxe, false_and, if_false, Bool.false_eq_true, List.append_nil] at hcell4
              have hdn : (digits xs).isEmpty = false := by unfold digits; cases xs with
                | nil => exact absurd rfl hxe
                | cons a t => rfl
              go_wp2
              go_roundw
              case rel => exact ⟨k + 1, by omega, by go_num, HE2.out.keep0 HK3.out, (HKK2.out.trans (HK3.out.mono fun _ _ h => h.elim))⟩
              case measure => simp [intOf]; omega
    · obtain rfl : k = n := by omega
      go_wp2
      go_ret
      exact ⟨rfl, hE, hK⟩
end Go.Proofs.Ytlnflbobcbnhhaa
