/-
  coveyref05.Ticks; clock.Up.
-/
import Derived.Test.YtljmpjkfdkcjnaaEqT
import Derived.Test.YtljmpjkfdkcjnaaCloG
import Derived.Test.YtljmpjkfdkcjnaaCloB
namespace Go.Proofs.Ytljmpjkfdkcjnaa
open Go.RowKit

theorem take_eqT_next {l m : List Tick} {k : Nat} (h : l.take k = m.take k) (h1 : k < l.length) (h2 : k < m.length) (he : l.getD k tick0 = m.getD k tick0) : l.take (k + 1) = m.take (k + 1) := by
  rw [List.take_succ_eq_append_getElem h1, List.take_succ_eq_append_getElem h2, h]
  have e1 : l.getD k tick0 = l[k] := by simp [List.getD, h1]
  have e2 : m.getD k tick0 = m[k] := by simp [List.getD, h2]
  rw [e1, e2] at he
  rw [he]
set_option maxRecDepth 100000 in
set_option maxHeartbeats 1000000 in
theorem ticks_any (A B : Option Addr) (n m c d : Nat) (l k : List Tick) (w : World) (h : RdT w A n l) (h2 : RdT w B m k) (hn : n ≤ 9223372036854775807) (hm : m ≤ 9223372036854775807) :
    Calls Try.prog 17 #[.slice A n c, .slice B m d] w (Tell (.bool (decide (l = k))) w) := by
  by_cases hnm : n = m
  · subst hnm
    have HL := Lib.hid h.1
    have HL2 := Lib.hid h2.1
    have HR := Lib.hid h
    have HR2 := Lib.hid h2
    clear h h2
    go_enter Try.func17, Try.ntmps17
    go_wp2
    go_loopw [5] (fun j wr => ∃ r : Nat, r ≤ n ∧ j = .int .i64 (r : Int) ∧ Hid (l.take r = k.take r) ∧ Hid (Keep (fun _ => False) w wr)) (fun j _ => n - (intOf j).toNat)
    case atStart => exact ⟨0, by omega, rfl, Lib.hid (by simp), Lib.hid (Keep.refl _ _)⟩
    case round =>
      obtain ⟨r, hr, rfl, HN, HK⟩ := hrel
      by_cases hlt : r < n
      · obtain ⟨g, off, hA, c0, c1, c2⟩ := HR.out.at_ hlt
        obtain ⟨g2, off2, hA2, d0, d1, d2⟩ := HR2.out.at_ hlt
        have q0 := HK.out.cell c0 (fun h => h)
        have q1 := HK.out.cell c1 (fun h => h)
        have q2 := HK.out.cell c2 (fun h => h)
        have b0 := HK.out.cell d0 (fun h => h)
        have b1 := HK.out.cell d1 (fun h => h)
        have b2 := HK.out.cell d2 (fun h => h)
        have HX := Lib.hid (fun he => take_eqT_next HN.out (by rw [HL.out]; exact hlt) (by rw [HL2.out]; exact hlt) he)
        have HY : Hid (¬ l.getD r tick0 = k.getD r tick0 → ¬ l = k) := Lib.hid (fun hne he => hne (by rw [he]))
        subst hA hA2
        clear c0 c1 c2 d0 d1 d2
        generalize l.getD r tick0 = x at q0 q1 q2 HX HY
        generalize k.getD r tick0 = y at b0 b1 b2 HX HY
        obtain ⟨⟨a, i⟩, u⟩ := x
        obtain ⟨⟨b, j⟩, v⟩ := y
        simp only at q0 q1 q2 b0 b1 b2
        have hkI : (r : Int) < (n : Int) := by omega
        have hkJ : (0 : Int) ≤ (r : Int) := by omega
        have e2 : IntKind.i64.wrap (r : Int) = (r : Int) := IntWalk.i64_in _ (by omega)
        have G := gTick
        by_cases he : ((a, i), u) = ((b, j), v)
        · have E := (fun W => by simpa [he] using neq_T ((a, i), u) ((b, j), v) W : ∀ W, (binOp .neq 35 (tV ((a, i), u)) (tV ((b, j), v))).run Try.prog W = .ok (.bool false) W)
          have HM := Lib.hid (HX.out he)
          clear he HX HY
          go_wp2
          go_quiet (fail)
          go_wp2
          go_roundw
          case rel => exact ⟨r + 1, by omega, by go_num, HM, Lib.hid (HK.out.drewN _)⟩
          case measure => simp [intOf]; omega
        · have E := (fun W => by rw [neq_T, decide_eq_false he]; rfl : ∀ W, (binOp .neq 35 (tV ((a, i), u)) (tV ((b, j), v))).run Try.prog W = .ok (.bool true) W)
          have HM := Lib.hid (HY.out he)
          clear he HX HY
          go_wp2
          go_quiet (fail)
          go_wp2
          go_ret
          exact ⟨ret_bool (by simp [HM.out]), HK.out.drewN _⟩
      · obtain rfl : r = n := by omega
        have HM : Hid (l = k) := Lib.hid (by have := HN.out; rwa [List.take_of_length_le (by rw [HL.out]; exact Nat.le_refl _), List.take_of_length_le (by rw [HL2.out]; exact Nat.le_refl _)] at this)
        go_wp2
        go_ret
        exact ⟨ret_bool (by simp [HM.out]), HK.out⟩
  · have hne : ¬ l = k := fun e => hnm (by rw [← h.1, ← h2.1, e])
    have HNe := Lib.hid hne
    have hI : ((n : Int) != (m : Int)) = true := by simp; omega
    have hI2 : ((n : Int) == (m : Int)) = false := by simp; omega
    clear hne h h2 hnm
    go_enter Try.func17, Try.ntmps17
    go_wp2
    go_ret
    exact ⟨ret_bool (by simp [HNe.out]), Keep.refl _ _⟩

/-- what Up says of a clock and an ID -/
def upE (l : List Tick) (x : ID) : Int := if mayT l = true ∧ mayID x = true then (if getM l x = 1099511627776 ∨ getM l x = 0 ∧ l.length = 64 then 40 else 0) else 4
def upL (l : List Tick) (x : ID) : List Tick := if upE l x = 0 then upC l x else []
def GotUp (l : List Tick) (x : ID) (w : World) (e : Ending) (w' : World) : Prop := ∃ A n c, e = .returned (.tuple #[.slice A n c, .int .i64 (upE l x)]) ∧ TSl w' A n c (upL l x) ∧ Keep (fun _ => False) w w'
theorem getM_le {l : List Tick} (h : mayT l = true) (x : ID) : getM l x ≤ 1099511627776 := by
  rcases Int.lt_or_le 0 (getM l x) with q | q
  · obtain ⟨t, ht, _, e⟩ := getM_in q
    rw [← e]
    exact (((mayT_iff l).1 h).1 t ht).2.2
  · omega
set_option maxRecDepth 100000 in
set_option maxHeartbeats 2000000 in
theorem up_any (A : Option Addr) (n c : Nat) (l : List Tick) (x : ID) (w : World) (h : RdT w A n l) (hn : n ≤ 9223372036854775807) :
    Calls Try.prog 12 #[.slice A n c, idV x] w (GotUp l x w) := by
  obtain ⟨a, i⟩ := x
  have HL := Lib.hid h.1
  have HR := Lib.hid h
  clear h
  have hB := Blk.new w 28 #[.int .i64 a, .int .i64 i]
  have hK := (Keep.refl (fun _ => False) w).alloc (.cells #[.int .i64 a, .int .i64 i] 28)
  have b0 := hB.cell 0
  have b1 := hB.cell 1
  have HB := Lib.hid hB
  have HK := Lib.hid hK
  clear hB hK
  go_enter Try.func12, Try.ntmps12
  go_wp2_with fail
  refine (get_any A n c l (a, i) _ (HR.out.keep0 HK.out) hn).mono ?_
  rintro e w1 ⟨rfl, hk⟩
  have HK1 := Lib.hid (keep0_trans _ _ _ HK.out hk)
  have c0 := hk.cell b0 (fun h => h)
  have c1 := hk.cell b1 (fun h => h)
  clear hk b0 b1
  go_wp2_with fail
  refine (mayC_any A n c l _ (HR.out.keep0 HK1.out) hn).mono ?_
  rintro e w2 ⟨rfl, hk⟩
  have HK2 := Lib.hid (keep0_trans _ _ _ HK1.out hk)
  have d0 := hk.cell c0 (fun h => h)
  have d1 := hk.cell c1 (fun h => h)
  clear hk c0 c1
  cases hM : mayT l
  · have HE : Hid (upE l (a, i) = 4) := Lib.hid (by unfold upE; rw [if_neg (by simp [hM])])
    clear hM
    go_wp2
    go_ret2
    exact ⟨none, 0, 0, by rw [HE.out]; rfl, by unfold upL; rw [HE.out, if_neg (by decide)]; exact TSl.nil_ _, HK2.out⟩
  · go_wp2_with fail
    refine (may_any (a, i) _).mono ?_
    rintro e w3 ⟨rfl, hk⟩
    have HK3 := Lib.hid (keep0_trans _ _ _ HK2.out hk)
    have e0 := hk.cell d0 (fun h => h)
    have e1 := hk.cell d1 (fun h => h)
    clear hk d0 d1
    cases hI : mayID (a, i)
    · have HE : Hid (upE l (a, i) = 4) := Lib.hid (by unfold upE; rw [if_neg (by simp [hI])])
      clear hM hI
      go_wp2
      go_ret2
      exact ⟨none, 0, 0, by rw [HE.out]; rfl, by unfold upL; rw [HE.out, if_neg (by decide)]; exact TSl.nil_ _, HK3.out⟩
    · have HE : Hid (upE l (a, i) = if getM l (a, i) = 1099511627776 ∨ getM l (a, i) = 0 ∧ l.length = 64 then 40 else 0) := Lib.hid (by unfold upE; rw [if_pos ⟨hM, hI⟩])
      have hle := getM_le hM (a, i)
      have hnn := getM_nn l (a, i)
      have HU : Hid (upC l (a, i) = joinM l [((a, i), getM l (a, i) + 1)]) := Lib.hid rfl
      have HUL : Hid (upL l (a, i) = if upE l (a, i) = 0 then upC l (a, i) else []) := Lib.hid rfl
      have h64 : n ≤ 64 := by have := ((mayT_iff l).1 hM).2.2; have := HL.out; omega
      clear hM hI
      generalize getM l (a, i) = N at *
      by_cases g1 : N = 1099511627776
      · have G1 : (N == 1099511627776) = true := by simpa using g1
        have HE2 : Hid (upE l (a, i) = 40) := Lib.hid (by rw [HE.out, if_pos (.inl g1)])
        clear HE
        go_wp2
        go_ret2
        exact ⟨none, 0, 0, by rw [HE2.out]; rfl, by rw [HUL.out, HE2.out, if_neg (by decide)]; exact TSl.nil_ _, HK3.out⟩
      · have G1 : (N == 1099511627776) = false := by simpa using g1
        by_cases g2 : N = 0 ∧ n = 64
        · have G2 : (N == 0) = true := by simpa using g2.1
          have G3 : ((n : Int) == 64) = true := by have := g2.2; simp; omega
          have HE2 : Hid (upE l (a, i) = 40) := Lib.hid (by rw [HE.out, if_pos (.inr ⟨g2.1, by rw [HL.out]; exact g2.2⟩)])
          clear HE
          go_wp2
          go_ret2
          exact ⟨none, 0, 0, by rw [HE2.out]; rfl, by rw [HUL.out, HE2.out, if_neg (by decide)]; exact TSl.nil_ _, HK3.out⟩
        · have HE2 : Hid (upE l (a, i) = 0) := Lib.hid (by rw [HE.out, if_neg (by rw [HL.out]; omega)])
          clear HE
          have hW : IntKind.i64.wrap (N + 1) = N + 1 := IntWalk.i64_in _ (by omega)
          obtain ⟨u, hu⟩ : ∃ u, (N == 0) = u := ⟨_, rfl⟩
          obtain ⟨v, hv⟩ : ∃ v, ((n : Int) == 64) = v := ⟨_, rfl⟩
          have huv : (u && v) = false := by
            rw [← hu, ← hv]
            rw [Bool.eq_false_iff]
            intro hq
            simp at hq
            omega
          have HJ := Lib.hid (show ∀ W, Keep (fun _ => False) w W → RdT W A n l from fun W hW => HR.out.keep0 hW)
          cases u <;> cases v <;> try (exact absurd huv (by decide))
          all_goals
            go_wp2_with fail
            refine (joinC_any A _ n 1 c _ l [((a, i), N + 1)] _ (HJ.out _ (HK3.out.alloc _)) (RdT.one_ (x := ((a, i), N + 1)) (Blk.new _ _ _)) (by omega) (by omega)).mono ?_
            rintro e w4 ⟨row, A4, c4, rfl, hs, _, hk⟩
            have HS := Lib.hid hs
            have HK4 := Lib.hid (keep0_trans _ _ _ (HK3.out.alloc _) hk)
            clear hs hk
            go_wp2
            go_ret2
            exact ⟨A4, _, c4, by rw [HE2.out]; rfl, by rw [HUL.out, HE2.out, if_pos rfl, HU.out]; exact HS.out.tsl, HK4.out⟩
end Go.Proofs.Ytljmpjkfdkcjnaa
