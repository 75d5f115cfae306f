/-
  config: number.
-/
import Derived.Test.YtjgkalcldekmpaaGreatDoorCfgA
namespace Go.Proofs.YtjgkalcldekmpaaGreatDoor
open Go.RowKit Go
set_option maxRecDepth 100000
attribute [local go_sem] bs_toList bs_size bs_zero

set_option maxHeartbeats 1000000 in
theorem number_any (l : Bs) (w : World) (h : Env w) (hl : l.length ≤ 40000000) :
    Calls Tryz.prog 79 #[.string (bs l)] w fun e w' => (∃ n, e = .returned (.tuple #[.int .i64 n, .bool (numM l).isSome]) ∧ ∀ x, numM l = some x → n = x) ∧ Keep (fun _ => False) w w' := by
  have HE := Lib.hid h
  clear h
  go_enter Tryz.func79, Tryz.ntmps79
  cases l with
  | nil =>
    go_wp2
    go_ret2
    exact ⟨⟨0, by simp [numM], by simp [numM]⟩, Keep.refl _ _⟩
  | cons c r =>
    have hsz : ((c :: r).length : Int) = (r.length : Int) + 1 := by simp
    have q0 : (0 : Int) < (r.length : Int) + 1 := by omega
    by_cases hz : c.toNat = 48 ∧ 1 < (c :: r).length
    · have hn : numM (c :: r) = none := by
        unfold numM
        rw [if_pos]
        right; left
        refine ⟨?_, hz.2⟩
        have : c = 48 := by apply UInt8.toNat_inj.1; exact hz.1
        rw [this]; rfl
      have HN := Lib.hid hn
      have q1 : (c.toNat : Int) = 48 := by omega
      have q2 : (1 : Int) < (r.length : Int) + 1 := by have := hz.2; simp at this; omega
      clear hn hz
      go_wp2
      go_ret2
      exact ⟨⟨0, by rw [HN.out]; rfl, by rw [HN.out]; simp⟩, Keep.refl _ _⟩
    · have hcond : ¬ ((c.toNat : Int) = 48 ∧ (1 : Int) < (r.length : Int) + 1) := by
        intro h; apply hz; simp; omega
      have hbad : (c :: r).all digB = false → numM (c :: r) = none := fun h => by unfold numM; rw [if_pos (.inr (.inr h))]
      have hgood : (c :: r).all digB = true → numM (c :: r) = if decV 0 (c :: r) ≤ 1099511627776 then some (decV 0 (c :: r) : Int) else none := fun h => by
        unfold numM
        rw [if_neg]
        rintro (h1 | ⟨h1, h2⟩ | h1)
        · cases h1
        · apply hz
          refine ⟨?_, h2⟩
          simp only [List.head?_cons, Option.some.injEq] at h1
          rw [h1]; rfl
        · rw [h] at h1; cases h1
      have HBad := Lib.hid hbad
      have HGood := Lib.hid hgood
      have HTr := Lib.hid (show (Lib.trimS (c :: r) [48, 49, 50, 51, 52, 53, 54, 55, 56, 57]).isEmpty = (c :: r).all digB by
        rw [← all_digs]
        cases h : (c :: r).all ([48, 49, 50, 51, 52, 53, 54, 55, 56, 57].contains ·) with
        | true => rw [trim_nil.2 h]; rfl
        | false =>
          cases h2 : Lib.trimS (c :: r) [48, 49, 50, 51, 52, 53, 54, 55, 56, 57] with
          | nil => rw [trim_nil.1 h2] at h; cases h
          | cons _ _ => rfl)
      clear hbad hgood hz
      have rest : ∀ b : Bool, b = b → True := fun _ _ => trivial
      clear rest
      by_cases c48 : (c.toNat : Int) = 48
      · have q2 : ¬ (1 : Int) < (r.length : Int) + 1 := fun h => hcond ⟨c48, h⟩
        clear hcond
        go_wp2_with fail
        refine (trim_any (c :: r) [48, 49, 50, 51, 52, 53, 54, 55, 56, 57] _ rfl (by decide) (by decide) _ (by omega)).mono ?_
        rintro e w1 ⟨rfl, hk⟩
        have HK1 := Lib.hid hk
        have tr := HTr.out
        clear hk HTr
        generalize Lib.trimS (c :: r) [48, 49, 50, 51, 52, 53, 54, 55, 56, 57] = tt at tr ⊢
        rcases Bool.eq_false_or_eq_true ((c :: r).all digB) with hd | hd
        · rw [hd] at tr
          have HD := Lib.hid hd
          clear hd
          go_wp2_with fail
          refine (atoi_any (c :: r) (by simp) HD.out _ (HE.out.keep0 HK1.out) (by omega)).mono ?_
          rintro e w2 ⟨⟨rfl, hb⟩ | ⟨⟨n, t, p, rfl⟩, hb⟩, hk⟩
          · have HK2 := Lib.hid (keep0_trans _ _ _ HK1.out hk)
            have HG := Lib.hid (HGood.out HD.out)
            clear hk HGood HBad
            generalize decV 0 (c :: r) = v at hb HG ⊢
            by_cases hv : (v : Int) ≤ 1099511627776
            · have ev : decide ((v : Int) ≤ 1099511627776) = true := decide_eq_true hv
              go_wp2
              go_ret2
              refine ⟨⟨v, ?_, fun x hx => ?_⟩, HK2.out⟩
              · rw [HG.out, if_pos (by omega)]; rfl
              · rw [HG.out, if_pos (by omega)] at hx; injection hx
            · have ev : decide ((v : Int) ≤ 1099511627776) = false := decide_eq_false hv
              go_wp2
              go_ret2
              refine ⟨⟨v, ?_, fun x hx => ?_⟩, HK2.out⟩
              · rw [HG.out, if_neg (by omega)]; rfl
              · rw [HG.out, if_neg (by omega)] at hx; cases hx
          · have HK2 := Lib.hid (keep0_trans _ _ _ HK1.out hk)
            have HG := Lib.hid (show numM (c :: r) = none by rw [HGood.out HD.out, if_neg (by omega)])
            clear hk HGood HBad hb
            go_wp2
            go_ret2
            exact ⟨⟨n, by rw [HG.out]; rfl, by rw [HG.out]; simp⟩, HK2.out⟩
        · rw [hd] at tr
          have HG := Lib.hid (HBad.out hd)
          clear hd HGood HBad
          go_wp2
          go_ret2
          exact ⟨⟨0, by rw [HG.out]; rfl, by rw [HG.out]; simp⟩, HK1.out⟩
      · clear hcond
        go_wp2_with fail
        refine (trim_any (c :: r) [48, 49, 50, 51, 52, 53, 54, 55, 56, 57] _ rfl (by decide) (by decide) _ (by omega)).mono ?_
        rintro e w1 ⟨rfl, hk⟩
        have HK1 := Lib.hid hk
        have tr := HTr.out
        clear hk HTr
        generalize Lib.trimS (c :: r) [48, 49, 50, 51, 52, 53, 54, 55, 56, 57] = tt at tr ⊢
        rcases Bool.eq_false_or_eq_true ((c :: r).all digB) with hd | hd
        · rw [hd] at tr
          have HD := Lib.hid hd
          clear hd
          go_wp2_with fail
          refine (atoi_any (c :: r) (by simp) HD.out _ (HE.out.keep0 HK1.out) (by omega)).mono ?_
          rintro e w2 ⟨⟨rfl, hb⟩ | ⟨⟨n, t, p, rfl⟩, hb⟩, hk⟩
          · have HK2 := Lib.hid (keep0_trans _ _ _ HK1.out hk)
            have HG := Lib.hid (HGood.out HD.out)
            clear hk HGood HBad
            generalize decV 0 (c :: r) = v at hb HG ⊢
            by_cases hv : (v : Int) ≤ 1099511627776
            · have ev : decide ((v : Int) ≤ 1099511627776) = true := decide_eq_true hv
              go_wp2
              go_ret2
              refine ⟨⟨v, ?_, fun x hx => ?_⟩, HK2.out⟩
              · rw [HG.out, if_pos (by omega)]; rfl
              · rw [HG.out, if_pos (by omega)] at hx; injection hx
            · have ev : decide ((v : Int) ≤ 1099511627776) = false := decide_eq_false hv
              go_wp2
              go_ret2
              refine ⟨⟨v, ?_, fun x hx => ?_⟩, HK2.out⟩
              · rw [HG.out, if_neg (by omega)]; rfl
              · rw [HG.out, if_neg (by omega)] at hx; cases hx
          · have HK2 := Lib.hid (keep0_trans _ _ _ HK1.out hk)
            have HG := Lib.hid (show numM (c :: r) = none by rw [HGood.out HD.out, if_neg (by omega)])
            clear hk HGood HBad hb
            go_wp2
            go_ret2
            exact ⟨⟨n, by rw [HG.out]; rfl, by rw [HG.out]; simp⟩, HK2.out⟩
        · rw [hd] at tr
          have HG := Lib.hid (HBad.out hd)
          clear hd HGood HBad
          go_wp2
          go_ret2
          exact ⟨⟨0, by rw [HG.out]; rfl, by rw [HG.out]; simp⟩, HK1.out⟩
end Go.Proofs.YtjgkalcldekmpaaGreatDoor
