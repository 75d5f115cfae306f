/-
  The ring's law: at, rises; contracts as the examples ask them.
-/
import Derived.Test.YtafolmgbmobfbaaRinC
import Derived.Test.YtafolmgbmobfbaaRef3D
namespace Go.Proofs.Ytafolmgbmobfbaa
open Go.RowKit
attribute [local irreducible] kAll
attribute [local go_sem] kQuiet kQuietUpon

theorem at_any (a : Int) (w : World) : Calls Try.prog 8 #[.int .i64 a] w (Tell (idV (a, 1)) w) := by
  go_enter Try.func8, Try.ntmps8
  go_wp2
  refine bodyPost_ret (v := idV (a, 1)) (by simp [results, Try.results8, go_sem]) rfl ⟨rfl, ?_⟩
  exact (Keep.refl _ w).alloc _
theorem isl_blk {w : World} {g : Nat} {t : TypeId} {cs : Array Value} (hb : Blk w g t cs) (l : List ID) (hc : cs.toList = l.flatMap cID) (hl : l.length ≤ 1000) : ISl w (some ⟨g, 0, none⟩) l.length l.length l := by
  have hs : cs.size = l.length * 2 := by rw [← Array.length_toList, hc, flat_len cID 2 (fun _ => rfl)]
  refine ⟨⟨rfl, ?_⟩, Nat.le_refl _, by unfold maxLen; omega, .inr ⟨g, 0, rfl⟩⟩
  rw [← hc]
  exact RdK.of_blk hb l.length 2 hs
theorem order_is (A : Option Addr) (n c : Nat) (l : List ID) (me : ID) (r : List ID) (w : World) (h : RdI w A n l) (hn : n ≤ 1000000) (hr : ordM l me = r) :
    Calls Try.prog 10 #[.slice A n c, idV me] w (NewI r w) := by subst hr; exact order_any A n c l me w h hn
theorem watched_is (A : Option Addr) (m c : Nat) (ids : List ID) (me : ID) (A2 : Option Addr) (m2 c2 : Nat) (not : List ID) (n : Int) (raw r : List ID) (w : World) (h : RdI w A m ids) (h2 : RdI w A2 m2 not) (hm : m ≤ 500000) (hm2 : m2 ≤ 1000000)
    (hn : -9223372036854775808 ≤ n ∧ n ≤ 9223372036854775807) (h3 : watL not ids me n = raw) (h4 : Ris r) (h5 : raw.Perm r) :
    Calls Try.prog 11 #[.slice A m c, idV me, .slice A2 m2 c2, .int .i64 n] w (GotI r w) := by
  have e : watM not ids me n = r := by
    rw [watM_eq, h3, ← setM_of_ris h4]
    exact setM_ext (fun x => h5.mem_iff)
  subst e
  exact watched_any A m c ids me A2 m2 c2 not n w h h2 hm hm2 hn
theorem same_is (A B : Option Addr) (n m c d : Nat) (l k0 : List ID) (w : World) (h : RdI w A n l) (h2 : RdI w B m k0) (hn : n ≤ 1000000) (hm : m ≤ 1000000) (hp : l.Perm k0) :
    Calls Try.prog 15 #[.slice A n c, .slice B m d] w (Tell (.bool true) w) := by
  have e : setM l = setM k0 := setM_ext (fun x => hp.mem_iff)
  have := sameR_any A B n m c d l k0 w h h2 hn hm
  rwa [decide_eq_true e] at this
theorem behind_is (A : Option Addr) (m c : Nat) (ids : List ID) (me r : ID) (w : World) (h : RdI w A m ids) (hm : m ≤ 500000) (hr : (ordM ids me).getLast? = some r) :
    Calls Try.prog 9 #[.slice A m c, idV me] w (Tell (.tuple #[idV r, .bool true]) w) := by
  have := behind_any A m c ids me w h hm
  unfold behV lastM at this
  rwa [hr] at this
def okL (l : List ID) : Bool := decide (l.length ≤ 100) && decide (Ris l)
theorem all_next {ls : List (List ID)} {k : Nat} (hk : k < ls.length) (h : (ls.take k).all okL = true) : (ls.take (k + 1)).all okL = okL (ls.getD k []) := by
  rw [List.take_succ_eq_append_getElem hk, List.all_append, h]
  simp [List.getD, hk]
theorem all_not {ls : List (List ID)} {k : Nat} (hk : k < ls.length) (h : okL (ls.getD k []) = false) : ls.all okL = false := by
  rw [List.all_eq_false]
  exact ⟨ls[k], List.getElem_mem hk, by simp [List.getD, hk] at h; simp [h]⟩
set_option maxRecDepth 100000 in
set_option maxHeartbeats 2000000 in
theorem rises_any (g m c : Nat) (ls : List (List ID)) (w : World) (hm : ls.length = m) (hm2 : m ≤ 100) (h : ∀ i, i < m → ∃ A n d, w.cell? ⟨g, i, none⟩ = some (.slice A n d) ∧ RdI w A n (ls.getD i []) ∧ n ≤ 9223372036854775807) :
    Calls Try.prog 13 #[.slice (some ⟨g, 0, none⟩) m c] w (Tell (.bool (ls.all okL)) w) := by
  have H := Lib.hid h
  have HL := Lib.hid hm
  clear h hm
  go_enter Try.func13, Try.ntmps13
  go_wp2
  go_loopw [3] (fun i wr => ∃ k : Nat, k ≤ m ∧ i = .int .i64 (k : Int) ∧ Hid ((ls.take k).all okL = true) ∧ Hid (Keep (fun _ => False) w wr)) (fun i _ => m - (intOf i).toNat)
  case atStart => exact ⟨0, by omega, rfl, Lib.hid (by simp), Lib.hid (Keep.refl _ _)⟩
  case round =>
    obtain ⟨k, hk, rfl, HA, HK⟩ := hrel
    by_cases hlt : k < m
    · obtain ⟨A, n, d, q0, hr, hn⟩ := H.out k hlt
      have q0 := HK.out.cell q0 (fun h => h)
      have HR := Lib.hid (hr.keep0 HK.out)
      have HLn := Lib.hid hr.1
      have HX := Lib.hid (all_next (by rw [HL.out]; exact hlt) HA.out)
      have HY := Lib.hid (fun h => all_not (ls := ls) (k := k) (by rw [HL.out]; exact hlt) h)
      clear hr
      generalize ls.getD k [] = l at *
      have hkI : (k : Int) < (m : Int) := by omega
      have hkJ : (0 : Int) ≤ (k : Int) := by omega
      have e2 : IntKind.i64.wrap (k : Int) = (k : Int) := IntWalk.i64_in _ (by omega)
      by_cases h1 : n ≤ 100
      · have h1I : ¬ (n : Int) > 100 := by omega
        go_wp2_with fail
        refine (risingR_any A n d l _ HR.out hn).mono ?_
        rintro e w1 ⟨rfl, hk1⟩
        have HK1 := Lib.hid (keep0_trans _ _ _ HK.out hk1)
        clear hk1
        by_cases h2 : Ris l
        · have hd : decide (Ris l) = true := by simp [h2]
          have HX2 : Hid ((ls.take (k + 1)).all okL = true) := Lib.hid (by rw [HX.out]; unfold okL; simp [h2, HLn.out, h1])
          clear h2
          go_wp2
          go_roundw
          case rel => exact ⟨k + 1, by omega, by go_num, HX2, HK1⟩
          case measure => simp [intOf]; omega
        · have hd : decide (Ris l) = false := by simp [h2]
          have HY2 := Lib.hid (HY.out (by unfold okL; simp [h2]))
          clear h2
          go_wp2
          go_ret
          exact ⟨ret_bool HY2.out.symm, HK1.out⟩
      · have h1I : (n : Int) > 100 := by omega
        have HY2 := Lib.hid (HY.out (by unfold okL; simp [HLn.out, h1]))
        go_wp2
        go_ret
        exact ⟨ret_bool HY2.out.symm, HK.out⟩
    · obtain rfl : k = m := by omega
      have HM : Hid (ls.all okL = true) := Lib.hid (by have := HA.out; rwa [List.take_of_length_le (by rw [HL.out]; exact Nat.le_refl _)] at this)
      go_wp2
      go_ret
      exact ⟨ret_bool HM.out.symm, HK.out⟩
end Go.Proofs.Ytafolmgbmobfbaa
