/-
  The clocks' law: contracts as its walks use them; large; a list of ticks, an ID that came in.
-/
import Derived.Test.YtljmpjkfdkcjnaaCloJ
import Derived.Test.YtljmpjkfdkcjnaaOpen
namespace Go.Proofs.Ytljmpjkfdkcjnaa
open Go.RowKit Go.WideShapes Go.Joins

/-- a slice of B ticks at most -/
def IsTB (B : Nat) (w : World) (v : Value) (l : List Tick) : Prop := ∃ A n c, v = .slice A n c ∧ RdT w A n l ∧ n ≤ B
theorem IsTB.keep0 {B : Nat} {w w' : World} {v : Value} {l : List Tick} (h : IsTB B w v l) (hk : Keep (fun _ => False) w w') : IsTB B w' v l := by
  obtain ⟨A, n, c, e, h, hb⟩ := h
  exact ⟨A, n, c, e, h.keep0 hk, hb⟩
theorem isTB_nil (w : World) : IsTB 0 w (.slice none 0 0) [] := ⟨_, _, _, rfl, RdT.none_ _ _, Nat.le_refl _⟩
def GetsT (B : Nat) (l : List Tick) (w : World) (e : Ending) (w' : World) : Prop := ∃ u, e = .returned u ∧ IsTB B w' u l ∧ Keep (fun _ => False) w w'
theorem IsTB.len {B : Nat} {w : World} {v : Value} {l : List Tick} (h : IsTB B w v l) : l.length ≤ B := by
  obtain ⟨A, n, c, e, h, hb⟩ := h
  rw [h.1]; exact hb
theorem joinI_any {B1 B2 : Nat} {v u : Value} {l k : List Tick} {w : World} (h : IsTB B1 w v l) (h2 : IsTB B2 w u k) (hb : B1 + B2 ≤ 1000000) : Calls Try.prog 15 #[v, u] w (GetsT (B1 + B2) (joinM l k) w) := by
  have e1 := joinM_len l k
  have e2 := h.len
  have e3 := h2.len
  obtain ⟨A, n, c, rfl, h, hn⟩ := h
  obtain ⟨A', n', c', rfl, h2, hn2⟩ := h2
  refine (joinC_any A A' n n' c c' l k w h h2 (by omega) (by omega)).mono ?_
  rintro e w' ⟨row, A3, c3, rfl, hs, _, hk⟩
  exact ⟨_, rfl, ⟨A3, _, c3, rfl, hs.tsl.1, by omega⟩, hk⟩
theorem getI_is {B : Nat} {v : Value} {l : List Tick} (x : ID) {w : World} (m : Int) (h : IsTB B w v l) (hb : B ≤ 1000000) (he : getM l x = m) : Calls Try.prog 11 #[v, idV x] w (Tell (.int .i64 m) w) := by
  obtain ⟨A, n, c, rfl, h, hn⟩ := h
  rw [← he]
  exact get_any A n c l x w h (by omega)
theorem cmpI_is {B1 B2 : Nat} {v u : Value} {l k : List Tick} {w : World} (m : Int) (h : IsTB B1 w v l) (h2 : IsTB B2 w u k) (hb : B1 + B2 ≤ 1000000) (he : cmpM l k = m) : Calls Try.prog 9 #[v, u] w (Tell (.int .u8 m) w) := by
  obtain ⟨A, n, c, rfl, h, hn⟩ := h
  obtain ⟨A', n', c', rfl, h2, hn2⟩ := h2
  rw [← he]
  exact compareC_any A A' n n' c c' l k w h h2 (by omega) (by omega)
theorem sameI_is {B1 B2 : Nat} {v u : Value} {l k : List Tick} {w : World} (r : Bool) (h : IsTB B1 w v l) (h2 : IsTB B2 w u k) (hb : B1 + B2 ≤ 1000000) (he : decide (l = k) = r) : Calls Try.prog 17 #[v, u] w (Tell (.bool r) w) := by
  obtain ⟨A, n, c, rfl, h, hn⟩ := h
  obtain ⟨A', n', c', rfl, h2, hn2⟩ := h2
  rw [← he]
  exact ticks_any A A' n n' c c' l k w h h2 (by omega) (by omega)
theorem mayI_is {B : Nat} {v : Value} {l : List Tick} {w : World} (r : Bool) (h : IsTB B w v l) (hb : B ≤ 1000000) (he : mayT l = r) : Calls Try.prog 13 #[v] w (Tell (.bool r) w) := by
  obtain ⟨A, n, c, rfl, h, hn⟩ := h
  rw [← he]
  exact mayC_any A n c l w h (by omega)
theorem upI_is {B : Nat} {v : Value} {l : List Tick} (x : ID) {w : World} (h : IsTB B w v l) (hb : B ≤ 1000000) : Calls Try.prog 12 #[v, idV x] w (fun e w' => ∃ u, e = .returned (.tuple #[u, .int .i64 (upE l x)]) ∧ IsTB (B + 1) w' u (upL l x) ∧ Keep (fun _ => False) w w') := by
  have hl := h.len
  obtain ⟨A, n, c, rfl, h, hn⟩ := h
  refine (up_any A n c l x w h (by omega)).mono ?_
  rintro e w' ⟨A', n', c', rfl, hs, hk⟩
  refine ⟨_, rfl, ⟨A', n', c', rfl, hs.1, ?_⟩, hk⟩
  rw [← hs.1.1]
  unfold upL
  split
  · have := joinM_len l [(x, getM l x + 1)]
    unfold upC
    simp at this
    omega
  · simp
/-- slices of ticks, in a row -/
abbrev slV (x : Option Addr × Nat × Nat) : Value := .slice x.1 x.2.1 x.2.2
def IsLg (w : World) (v : Value) (L : List Nat) : Prop := ∃ A m c, ∃ X : List (Option Addr × Nat × Nat), v = .slice A m c ∧ X.map (fun x => x.2.1) = L ∧ X.length = m ∧ RdK w 1 A m (X.map slV)
theorem IsLg.keep0 {w w' : World} {v : Value} {L : List Nat} (h : IsLg w v L) (hk : Keep (fun _ => False) w w') : IsLg w' v L := by
  obtain ⟨A, m, c, X, e, h1, h2, h⟩ := h
  exact ⟨A, m, c, X, e, h1, h2, h.keep0 hk⟩
set_option maxRecDepth 100000 in
set_option maxHeartbeats 1000000 in
theorem large_any (A : Option Addr) (m c : Nat) (X : List (Option Addr × Nat × Nat)) (w : World) (hl : X.length = m) (h : RdK w 1 A m (X.map slV)) (hm : m ≤ 1000) :
    Calls Try.prog 14 #[.slice A m c] w (Tell (.bool (X.any (fun x => decide (150 < x.2.1)))) w) := by
  have HL := Lib.hid hl
  have HR := Lib.hid h
  clear h hl
  go_enter Try.func14, Try.ntmps14
  go_wp2_with fail
  go_loopw [3] (fun j wr => ∃ q : Nat, q ≤ m ∧ j = .int .i64 (q : Int) ∧ Hid (∀ x ∈ X.take q, ¬ 150 < x.2.1) ∧ Hid (Keep (fun _ => False) w wr)) (fun j _ => m - (intOf j).toNat)
  case atStart => exact ⟨0, Nat.zero_le _, rfl, Lib.hid (by simp), Lib.hid (Keep.refl _ _)⟩
  case round =>
    obtain ⟨q, hq, rfl, HN, HK⟩ := hrel
    by_cases hlt : q < m
    · have hlt' : q < X.length := by rw [HL.out]; exact hlt
      obtain ⟨g, off, v, hA, hv, hc⟩ := HR.out.2 (q * 1) (by omega)
      rw [Nat.mul_one] at hv hc
      have e : (X.map slV)[q]? = some (slV X[q]) := by simp [hlt']
      rw [e] at hv
      injection hv with hv
      subst hv
      have q0 := HK.out.cell hc (fun h => h)
      have HX : Hid (¬ 150 < (X[q]).2.1 → ∀ x ∈ X.take (q + 1), ¬ 150 < x.2.1) := Lib.hid fun hx x hm => by
        rw [List.take_succ_eq_append_getElem hlt', List.mem_append, List.mem_singleton] at hm
        rcases hm with hm | hm
        · exact HN.out x hm
        · rw [hm]; exact hx
      have HY : Hid (150 < (X[q]).2.1 → X.any (fun x => decide (150 < x.2.1)) = true) := Lib.hid fun hx => List.any_eq_true.2 ⟨X[q], List.getElem_mem hlt', by simpa using hx⟩
      subst hA
      clear hc e
      generalize X[q] = x at q0 HX HY
      obtain ⟨A1, n1, c1⟩ := x
      simp only at q0 HX HY
      have hkI : (q : Int) < (m : Int) := by omega
      have hkJ : (0 : Int) ≤ (q : Int) := by omega
      have e2 : IntKind.i64.wrap (q : Int) = (q : Int) := IntWalk.i64_in _ (by omega)
      by_cases hb : 150 < n1
      · have hbI : (150 : Int) < (n1 : Int) := by omega
        have HM := Lib.hid (HY.out hb)
        clear HX HY
        go_wp2
        go_ret
        exact ⟨ret_bool HM.out.symm, HK.out⟩
      · have hbI : ¬ (150 : Int) < (n1 : Int) := by omega
        have HM := Lib.hid (HX.out hb)
        clear HX HY
        go_wp2
        go_roundw
        case rel => exact ⟨q + 1, by omega, by go_num, HM, HK⟩
        case measure => simp [intOf]; omega
    · obtain rfl : q = m := by omega
      have HM : Hid (X.any (fun x => decide (150 < x.2.1)) = false) := Lib.hid (by
        rw [List.any_eq_false]
        intro x hx
        have := HN.out x (by rw [List.take_of_length_le (by rw [HL.out]; exact Nat.le_refl _)]; exact hx)
        simpa using this)
      go_wp2
      go_ret
      exact ⟨ret_bool HM.out.symm, HK.out⟩
theorem large_is {v : Value} {L : List Nat} {w : World} (r : Bool) (h : IsLg w v L) (hm : L.length ≤ 1000) (he : L.any (fun x => decide (150 < x)) = r) : Calls Try.prog 14 #[v] w (Tell (.bool r) w) := by
  obtain ⟨A, m, c, X, rfl, h1, h2, h⟩ := h
  have e : X.any (fun x => decide (150 < x.2.1)) = r := by rw [← he, ← h1, List.any_map]; rfl
  rw [← e]
  exact large_any A m c X w h2 h (by rw [← h2, ← List.length_map (f := fun x : Option Addr × Nat × Nat => x.2.1), h1]; exact hm)

theorem Try.cellsI : Try.prog.cellsOf 3 = 1 := by kernel_rfl
theorem Try.cellsId : Try.prog.cellsOf 28 = 2 := by kernel_rfl
theorem Try.cellsTick : Try.prog.cellsOf 35 = 3 := by kernel_rfl
section
variable {H : Type} {enc : TypeId × Value → H} {W : World} {base : Nat} {b : Bool} {spare : Nat → Bool}
theorem each_id (n : Nat) (cs : List Value) (z : DataW H × List MemPlace) (hl : cs.length = 2) (h : DataW.trod enc Try.prog W base spare b n 28 cs = some z) : ∃ x : ID, cs = cID x := by
  obtain ⟨xs, k, _, _, _, hlen, hfs⟩ := DataW.trod_struct Try.underlying28 h
  have hlen' : xs.length = 2 := hlen
  have h0 := hfs 0 _ rfl
  have h1 := hfs 1 _ rfl
  rw [List.getElem?_eq_getElem (by omega : 0 < xs.length)] at h0
  rw [List.getElem?_eq_getElem (by omega : 1 < xs.length)] at h1
  match cs, hl with
  | [v0, v1], _ =>
    simp [Try.cellsI] at h0 h1
    obtain ⟨x, e0, _, _⟩ := DataW.trod_int Try.underlying3 h0
    obtain ⟨y, e1, _, _⟩ := DataW.trod_int Try.underlying3 h1
    injection e0 with e0
    injection e1 with e1
    subst e0 e1
    exact ⟨(x, y), rfl⟩
theorem each_tick (n : Nat) (cs : List Value) (z : DataW H × List MemPlace) (hl : cs.length = 3) (h : DataW.trod enc Try.prog W base spare b n 35 cs = some z) : ∃ x : Tick, cs = cT x := by
  obtain ⟨xs, k, _, _, _, hlen, hfs⟩ := DataW.trod_struct Try.underlying35 h
  have hlen' : xs.length = 2 := hlen
  have h0 := hfs 0 _ rfl
  have h1 := hfs 1 _ rfl
  rw [List.getElem?_eq_getElem (by omega : 0 < xs.length)] at h0
  rw [List.getElem?_eq_getElem (by omega : 1 < xs.length)] at h1
  match cs, hl with
  | [v0, v1, v2], _ =>
    simp [Try.cellsI, Try.cellsId] at h0 h1
    obtain ⟨p, hp⟩ := each_id _ _ _ rfl h0
    obtain ⟨y, e1, _, _⟩ := DataW.trod_int Try.underlying3 h1
    injection e1 with e1
    injection hp with q0 q1
    injection q1 with q1 _
    subst e1 q0 q1
    exact ⟨(p, y), rfl⟩
def InTs (w : World) (v : Value) : Prop := ∃ A n c, ∃ l : List Tick, v = .slice A n c ∧ n ≤ c ∧ c ≤ maxLen ∧ RdT w A n l
instance : Inhabited Tick := ⟨tick0⟩
theorem open_ticks {v : Value} {d : DataW H} {p : List MemPlace} (hv : Value.okWide Try.prog W .any base 24 v) (h : DataW.Trod enc Try.prog W 0 spare b 24 v d p) : InTs W v := by
  obtain ⟨A0, len, cap, rfl⟩ := okWide_slice Try.underlying24 hv
  obtain ⟨fuel, hf⟩ := h
  obtain ⟨A, n, c, l, e, hn, hc, hl, hr⟩ := open_listK cT (fun _ => rfl) Try.underlying24 Try.cellsTick (by omega) each_tick hf
  exact ⟨A, n, c, l, e, hn, hc, ⟨hl, hr⟩⟩
def InId (_ : World) (v : Value) : Prop := ∃ p : ID, v = idV p
theorem open_id {v : Value} {d : DataW H} {p : List MemPlace} (hv : Value.okWide Try.prog W .any base 28 v) (h : DataW.Trod enc Try.prog W 0 spare b 28 v d p) : InId W v := by
  obtain ⟨cs, rfl, hsz⟩ := okWide_struct Try.underlying28 hv
  obtain ⟨fuel, hf⟩ := h
  obtain ⟨x, hx⟩ := each_id _ _ _ (by simpa [Value.cells, Try.cellsId] using hsz) hf
  refine ⟨x, ?_⟩
  have : cs = #[.int .i64 x.1, .int .i64 x.2] := by
    apply Array.ext'
    simpa [Value.cells] using hx
  rw [this]
end
end Go.Proofs.Ytljmpjkfdkcjnaa
