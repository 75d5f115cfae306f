/-
  The examples (awake). Written by gen_f.py.
-/
import Derived.Test.YtenphdgnaknbeaaWatG
import Derived.Test.YtenphdgnaknbeaaRef3C
namespace Go.Proofs.Ytenphdgnaknbeaa
open Go.RowKit
set_option maxRecDepth 100000

theorem at_is (a : Int) (w : World) : Calls Try.prog 25 #[.int .i64 a] w (Tell (idV (a, 1)) w) := by
  go_enter Try.func25, Try.ntmps25
  go_wp2
  refine bodyPost_ret (v := idV (a, 1)) (by simp [results, Try.results25, go_sem]) rfl ⟨rfl, (Keep.refl _ _).alloc _⟩
theorem look_nilw (A : Option Addr) (n c : Nat) (now : Int) (w : World) : Calls Try.prog 13 #[.pointer none, .slice A n c, .int .i64 now] w fun e w' => e = .returned (.slice none 0 0) ∧ w' = w := by
  go_enter Try.func13, Try.ntmps13
  go_wp2
  go_ret
  exact ⟨rfl, rfl⟩
theorem watched_nilw (w : World) : Calls Try.prog 16 #[.pointer none] w fun e w' => e = .returned (.slice none 0 0) ∧ w' = w := by
  go_enter Try.func16, Try.ntmps16
  go_wp2
  go_ret
  exact ⟨rfl, rfl⟩
theorem copy_nilw (w : World) : Calls Try.prog 18 #[.pointer none] w fun e w' => e = .returned (.pointer none) ∧ w' = w := by
  go_enter Try.func18, Try.ntmps18
  go_wp2
  go_ret
  exact ⟨rfl, rfl⟩
theorem SlK.rdI {w : World} {t : TypeId} {row : Option Nat} {A : Option Addr} {n c : Nat} {l : List ID} (h : SlK w t 2 row A n c (l.flatMap cID)) (hl : l.length = n) : RdI w A n l := ⟨hl, h.rd⟩
theorem RdI.blk {w : World} {g n : Nat} {t : TypeId} {cs : Array Value} (hb : Blk w g t cs) (l : List ID) (hl : l.length = n) (hc : cs.toList = l.flatMap cID) : RdI w (some ⟨g, 0, none⟩) n l := by
  have hs : cs.size = n * 2 := by rw [← Array.length_toList, hc, flat_len cID 2 (fun _ => rfl), hl]
  exact ⟨hl, hc ▸ RdK.of_blk hb n 2 hs⟩
abbrev i1 : ID := (1, 1)
abbrev i2 : ID := (2, 1)
theorem wf12 : ∀ x ∈ [i1, i2], wfI x := by
  intro x hx
  simp at hx
  rcases hx with rfl | rfl <;> exact ⟨by decide, by decide⟩
set_option maxHeartbeats 4000000 in
theorem awake_any (w : World) : Calls Try.prog 9 #[] w (Tell (.bool true) w) := by
  go_enter Try.func9, Try.ntmps9
  go_wp2_with fail
  refine (lw_new 2 5 3 (by unfold MayNew; omega) (Keep.refl _ w)).mono ?_
  rintro e w0 ⟨b, rfl, hw, _⟩
  have HW := Lib.hid hw
  clear hw
  go_wp2_with fail
  refine (at_is 1 _).mono ?_
  rintro e wa1 ⟨rfl, hk⟩
  have HW1 := Lib.hid (HW.out.keep0 hk)
  clear HW hk
  have HW := HW1
  clear HW1
  go_wp2_with fail
  refine (at_is 2 _).mono ?_
  rintro e wa2 ⟨rfl, hk⟩
  have HW1 := Lib.hid (HW.out.keep0 hk)
  clear HW hk
  have HW := HW1
  clear HW1
  go_wp2_with fail
  refine (at_is 1 _).mono ?_
  rintro e wa3 ⟨rfl, hk⟩
  have hq := keep0_trans _ _ _ ((Keep.refl _ wa2).alloc (.cells #[.int .i64 1, .int .i64 1, .int .i64 2, .int .i64 1] 33)) hk
  have hb := (Blk.new wa2 33 #[.int .i64 1, .int .i64 1, .int .i64 2, .int .i64 1]).keep hk (fun h => h)
  have HW1 := Lib.hid (HW.out.more hq (Nat.le_refl _) hb.lt)
  obtain ⟨gb, hgb⟩ : ∃ gb, wa2.heap.size = gb := ⟨_, rfl⟩
  rw [hgb] at hb HW1 ⊢
  have HB := Lib.hid hb
  clear hk hq hb HW hgb
  have HW := HW1
  clear HW1
  go_upto_region 5 with (fail)
  have hq := (Keep.refl (fun _ => False) wa3).alloc (.cells #[.int .i64 1, .int .i64 1] 33)
  have ho := Blk.new wa3 33 #[.int .i64 1, .int .i64 1]
  obtain ⟨go, hgo⟩ : ∃ go, wa3.heap.size = go := ⟨_, rfl⟩
  have HW1 := Lib.hid (HW.out.more hq (Nat.le_refl _) ho.lt)
  rw [hgo] at ho HW1 ⊢
  have HB1 := Lib.hid (HB.out.keep hq (fun h => h))
  generalize hw : wa3.alloc (.cells #[.int .i64 1, .int .i64 1] 33) = wb at *
  have HO := Lib.hid ho
  clear hw hq ho HW HB hgo
  have HW := HW1
  have HB := HB1
  clear HW1 HB1
  go_wp2_with fail
  refine (lw_look HW.out (by unfold MayNew; omega) (some ⟨gb, 0, none⟩) 2 2 [i1, i2] (RdI.blk HB.out [i1, i2] rfl rfl) wf12 (by decide) (fun q off _ e => .inr (by injection e with e; injection e with e _; subst e; simp)) 10).mono ?_
  rintro e wl4 ⟨ra, Aa, ca, rfl, hs, _, hw, hk⟩
  rw [show lateL ((newD 2 5 3).begin_ 10) (fun _ => none) 10 [i1, i2] = [] by decide +kernel] at hs ⊢
  have HW1 := Lib.hid hw
  have HB1 := Lib.hid (HB.out.keep hk (fun h => h.2 (by simp)))
  have HO1 := Lib.hid (HO.out.keep hk (fun h => h.2 (by simp)))
  have HRa := Lib.hid hs
  clear hs hw hk HW HB HO 
  have HW := HW1
  have HB := HB1
  have HO := HO1
  clear HW1 HB1 HO1 
  go_wp2_with fail
  refine (lw_look HW.out (by unfold MayNew; omega) (some ⟨gb, 0, none⟩) 2 2 [i1, i2] (RdI.blk HB.out [i1, i2] rfl rfl) wf12 (by decide) (fun q off _ e => .inr (by injection e with e; injection e with e _; subst e; simp)) 16).mono ?_
  rintro e wl5 ⟨rb, Ab, cb, rfl, hs, _, hw, hk⟩
  rw [show lateL ((newD 2 5 3).begin_ 16) (lookM ((newD 2 5 3).begin_ 10) (fun _ => none) [i1, i2]) 16 [i1, i2] = [i1, i2] by decide +kernel] at hs ⊢
  have HW1 := Lib.hid hw
  have HB1 := Lib.hid (HB.out.keep hk (fun h => h.2 (by simp)))
  have HO1 := Lib.hid (HO.out.keep hk (fun h => h.2 (by simp)))
  have HRb := Lib.hid hs
  have HRa1 := Lib.hid (HRa.out.keep hk (fun q hq h => h.2 (by simp [hq])))
  clear hs hw hk HW HB HO HRa
  have HW := HW1
  have HB := HB1
  have HO := HO1
  have HRa := HRa1
  clear HW1 HB1 HO1 HRa1
  go_wp2_with fail
  refine (at_is 1 _).mono ?_
  rintro e wa6 ⟨rfl, hk⟩
  have HW1 := Lib.hid (HW.out.keep0 hk)
  have HB1 := Lib.hid (HB.out.keep hk (fun h => h))
  have HO1 := Lib.hid (HO.out.keep hk (fun h => h))
  have HRb1 := Lib.hid (HRb.out.keep hk (fun _ _ h => h))
  have HRa1 := Lib.hid (HRa.out.keep hk (fun _ _ h => h))
  clear hk HW HB HO HRb HRa
  have HW := HW1
  have HB := HB1
  have HO := HO1
  have HRb := HRb1
  have HRa := HRa1
  clear HW1 HB1 HO1 HRb1 HRa1
  go_wp2_with fail
  refine (lw_heard HW.out (x := i1) ⟨by decide, by decide⟩ 16).mono ?_
  rintro e wh ⟨rfl, hw, hk⟩
  rw [show ((lookM ((newD 2 5 3).begin_ 16) (lookM ((newD 2 5 3).begin_ 10) (fun _ => none) [i1, i2]) [i1, i2]) i1).isSome = true by decide +kernel]
  have HW1 := Lib.hid hw
  have HB1 := Lib.hid (HB.out.keep hk (fun h => h.2 (by simp)))
  have HO1 := Lib.hid (HO.out.keep hk (fun h => h.2 (by simp)))
  have HRb1 := Lib.hid (HRb.out.keep hk (fun q hq h => h.2 (by simp [hq])))
  have HRa1 := Lib.hid (HRa.out.keep hk (fun q hq h => h.2 (by simp [hq])))
  clear hw hk HW HB HO HRb HRa
  have HW := HW1
  have HB := HB1
  have HO := HO1
  have HRb := HRb1
  have HRa := HRa1
  clear HW1 HB1 HO1 HRb1 HRa1
  go_wp2_with fail
  refine (lw_look HW.out (by unfold MayNew; omega) (some ⟨gb, 0, none⟩) 2 2 [i1, i2] (RdI.blk HB.out [i1, i2] rfl rfl) wf12 (by decide) (fun q off _ e => .inr (by injection e with e; injection e with e _; subst e; simp)) 16).mono ?_
  rintro e wl7 ⟨rc, Ac, cc, rfl, hs, _, hw, hk⟩
  rw [show lateL ((newD 2 5 3).begin_ 16) (heardM (lookM ((newD 2 5 3).begin_ 16) (lookM ((newD 2 5 3).begin_ 10) (fun _ => none) [i1, i2]) [i1, i2]) i1 16) 16 [i1, i2] = [i2] by decide +kernel] at hs ⊢
  have HW1 := Lib.hid hw
  have HB1 := Lib.hid (HB.out.keep hk (fun h => h.2 (by simp)))
  have HO1 := Lib.hid (HO.out.keep hk (fun h => h.2 (by simp)))
  have HRc := Lib.hid hs
  have HRb1 := Lib.hid (HRb.out.keep hk (fun q hq h => h.2 (by simp [hq])))
  have HRa1 := Lib.hid (HRa.out.keep hk (fun q hq h => h.2 (by simp [hq])))
  clear hs hw hk HW HB HO HRb HRa
  have HW := HW1
  have HB := HB1
  have HO := HO1
  have HRb := HRb1
  have HRa := HRa1
  clear HW1 HB1 HO1 HRb1 HRa1
  go_wp2_with fail
  refine (lw_look HW.out (by unfold MayNew; omega) (some ⟨go, 0, none⟩) 1 1 [i1] (RdI.blk HO.out [i1] rfl rfl) (fun x hx => wf12 x (List.mem_cons.2 (.inl (List.mem_singleton.1 hx)))) (by decide) (fun q off _ e => .inr (by injection e with e; injection e with e _; subst e; simp)) 17).mono ?_
  rintro e wl8 ⟨rd, Ad, cd, rfl, hs, _, hw, hk⟩
  rw [show lateL ((newD 2 5 3).begin_ 17) (lookM ((newD 2 5 3).begin_ 16) (heardM (lookM ((newD 2 5 3).begin_ 16) (lookM ((newD 2 5 3).begin_ 10) (fun _ => none) [i1, i2]) [i1, i2]) i1 16) [i1, i2]) 17 [i1] = [] by decide +kernel] at hs ⊢
  have HW1 := Lib.hid hw
  have HB1 := Lib.hid (HB.out.keep hk (fun h => h.2 (by simp)))
  have HO1 := Lib.hid (HO.out.keep hk (fun h => h.2 (by simp)))
  have HRd := Lib.hid hs
  have HRc1 := Lib.hid (HRc.out.keep hk (fun q hq h => h.2 (by simp [hq])))
  have HRb1 := Lib.hid (HRb.out.keep hk (fun q hq h => h.2 (by simp [hq])))
  have HRa1 := Lib.hid (HRa.out.keep hk (fun q hq h => h.2 (by simp [hq])))
  clear hs hw hk HW HB HO HRc HRb HRa
  have HW := HW1
  have HB := HB1
  have HO := HO1
  have HRc := HRc1
  have HRb := HRb1
  have HRa := HRa1
  clear HW1 HB1 HO1 HRc1 HRb1 HRa1
  go_wp2_with fail
  refine (lw_look HW.out (by unfold MayNew; omega) (some ⟨gb, 0, none⟩) 2 2 [i1, i2] (RdI.blk HB.out [i1, i2] rfl rfl) wf12 (by decide) (fun q off _ e => .inr (by injection e with e; injection e with e _; subst e; simp)) 18).mono ?_
  rintro e wl9 ⟨rf, Af, cf, rfl, hs, _, hw, hk⟩
  rw [show lateL ((newD 2 5 3).begin_ 18) (lookM ((newD 2 5 3).begin_ 17) (lookM ((newD 2 5 3).begin_ 16) (heardM (lookM ((newD 2 5 3).begin_ 16) (lookM ((newD 2 5 3).begin_ 10) (fun _ => none) [i1, i2]) [i1, i2]) i1 16) [i1, i2]) [i1]) 18 [i1, i2] = [] by decide +kernel] at hs ⊢
  have HW1 := Lib.hid hw
  have HB1 := Lib.hid (HB.out.keep hk (fun h => h.2 (by simp)))
  have HO1 := Lib.hid (HO.out.keep hk (fun h => h.2 (by simp)))
  have HRf := Lib.hid hs
  have HRd1 := Lib.hid (HRd.out.keep hk (fun q hq h => h.2 (by simp [hq])))
  have HRc1 := Lib.hid (HRc.out.keep hk (fun q hq h => h.2 (by simp [hq])))
  have HRb1 := Lib.hid (HRb.out.keep hk (fun q hq h => h.2 (by simp [hq])))
  have HRa1 := Lib.hid (HRa.out.keep hk (fun q hq h => h.2 (by simp [hq])))
  clear hs hw hk HW HB HO HRd HRc HRb HRa
  have HW := HW1
  have HB := HB1
  have HO := HO1
  have HRd := HRd1
  have HRc := HRc1
  have HRb := HRb1
  have HRa := HRa1
  clear HW1 HB1 HO1 HRd1 HRc1 HRb1 HRa1
  go_wp2_with fail
  refine (sameR_any _ _ _ _ _ _ [i1, i2] [i1, i2] _ (HRb.out.rdI rfl) (RdI.blk HB.out [i1, i2] rfl rfl) (by decide) (by decide)).mono ?_
  rintro e wk ⟨rfl, hk⟩
  have HW1 := Lib.hid (HW.out.keep0 hk)
  have HB1 := Lib.hid (HB.out.keep hk (fun h => h))
  have HO1 := Lib.hid (HO.out.keep hk (fun h => h))
  have HRf1 := Lib.hid (HRf.out.keep hk (fun _ _ h => h))
  have HRd1 := Lib.hid (HRd.out.keep hk (fun _ _ h => h))
  have HRc1 := Lib.hid (HRc.out.keep hk (fun _ _ h => h))
  have HRb1 := Lib.hid (HRb.out.keep hk (fun _ _ h => h))
  have HRa1 := Lib.hid (HRa.out.keep hk (fun _ _ h => h))
  clear hk HW HB HO HRf HRd HRc HRb HRa
  have HW := HW1
  have HB := HB1
  have HO := HO1
  have HRf := HRf1
  have HRd := HRd1
  have HRc := HRc1
  have HRb := HRb1
  have HRa := HRa1
  clear HW1 HB1 HO1 HRf1 HRd1 HRc1 HRb1 HRa1
  go_wp2_with fail
  refine (at_is 2 _).mono ?_
  rintro e wa10 ⟨rfl, hk⟩
  have HW1 := Lib.hid (HW.out.keep0 hk)
  have HB1 := Lib.hid (HB.out.keep hk (fun h => h))
  have HO1 := Lib.hid (HO.out.keep hk (fun h => h))
  have HRf1 := Lib.hid (HRf.out.keep hk (fun _ _ h => h))
  have HRd1 := Lib.hid (HRd.out.keep hk (fun _ _ h => h))
  have HRc1 := Lib.hid (HRc.out.keep hk (fun _ _ h => h))
  have HRb1 := Lib.hid (HRb.out.keep hk (fun _ _ h => h))
  have HRa1 := Lib.hid (HRa.out.keep hk (fun _ _ h => h))
  clear hk HW HB HO HRf HRd HRc HRb HRa
  have HW := HW1
  have HB := HB1
  have HO := HO1
  have HRf := HRf1
  have HRd := HRd1
  have HRc := HRc1
  have HRb := HRb1
  have HRa := HRa1
  clear HW1 HB1 HO1 HRf1 HRd1 HRc1 HRb1 HRa1
  go_wp2_with fail
  refine (sameR_any _ _ _ _ _ _ [i2] [i2] _ ((HRc.out.keep ((Keep.refl (fun _ => False) _).alloc _) (fun _ _ h => h)).rdI rfl) (RdI.blk (Blk.new _ _ _) [i2] rfl rfl) (by decide) (by decide)).mono ?_
  rintro e wz ⟨rfl, hk⟩
  have HK := Lib.hid (keep0_trans _ _ _ (HW.out.k.alloc _) hk)
  clear hk
  go_wp2
  go_ret
  exact ⟨rfl, HK.out⟩
set_option maxHeartbeats 4000000 in
theorem walkWatchNames_ (w : World) : Calls Try.prog 6 #[] w (Tell (.bool true) w) := by
  go_enter Try.func6, Try.ntmps6
  go_wp2_with fail
  refine (wnew_bad 0 1 1 _ (by unfold MayNew; omega)).mono ?_
  rintro e w1 ⟨rfl, rfl⟩
  go_wp2_with fail
  refine (wnew_bad 3 2 1 _ (by unfold MayNew; omega)).mono ?_
  rintro e w2 ⟨rfl, rfl⟩
  go_wp2_with fail
  refine (wnew_bad 1 1 0 _ (by unfold MayNew; omega)).mono ?_
  rintro e w3 ⟨rfl, rfl⟩
  go_wp2_with fail
  refine (lw_new 1 1 1 (by unfold MayNew; omega) (Keep.refl _ w3)).mono ?_
  rintro e w4 ⟨b, rfl, hw, _⟩
  have HW := Lib.hid hw
  clear hw
  go_wp2_with fail
  refine (look_nilw _ _ _ _ _).mono ?_
  rintro e w5 ⟨rfl, rfl⟩
  go_wp2_with fail
  refine (watched_nilw _).mono ?_
  rintro e w6 ⟨rfl, rfl⟩
  go_wp2_with fail
  refine (wheard_nil (0, 0) 1 _).mono ?_
  rintro e w7 ⟨rfl, hk⟩
  have HW7 := Lib.hid (HW.out.keep0 (keep0_trans _ _ _ ((Keep.refl _ w4).alloc _) hk))
  clear hk
  go_wp2_with fail
  refine (copy_nilw _).mono ?_
  rintro e w8 ⟨rfl, rfl⟩
  go_wp2_with fail
  refine (lw_watched HW7.out (by decide)).mono ?_
  rintro e w9 ⟨l, _, hl, hn, ⟨row, A, c, rfl, _, _, _⟩, hw⟩
  obtain rfl : l = [] := List.eq_nil_of_length_eq_zero (by omega)
  have HW9 := Lib.hid hw
  clear hw hl hn
  go_wp2_with fail
  refine (lw_look HW9.out (by unfold MayNew; omega) none 0 0 [] (RdI.none_ _ _) (fun x hx => by cases hx) (by decide) (fun _ _ _ e => by cases e) 5).mono ?_
  rintro e w10 ⟨r1, A1, c1, rfl, _, _, hw, _⟩
  have HW10 := Lib.hid hw
  clear hw
  go_wp2_with fail
  refine (awake_any _).mono ?_
  rintro e w11 ⟨rfl, hk⟩
  have HK := Lib.hid (keep0_trans _ _ _ HW10.out.k hk)
  clear hk
  go_wp2
  go_ret
  exact ⟨rfl, HK.out⟩
theorem walkWatchNames (w : World) : Calls Try.prog 6 #[] w fun e w' => e = .returned (.bool true) ∧ Below w.heap.size w w' := (walkWatchNames_ w).mono fun _ _ ⟨h, k⟩ => ⟨h, k.b⟩
end Go.Proofs.Ytenphdgnaknbeaa
