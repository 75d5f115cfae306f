/-
  The reference's watch (coveyref16) in memory: New, find, Watched; the reference's detector's Copy.
-/
import Derived.Test.YtenphdgnaknbeaaAccT
import Derived.Test.YtenphdgnaknbeaaAccS
import Derived.Test.YtenphdgnaknbeaaWatA
import Derived.Test.YtenphdgnaknbeaaRef3D
import Derived.Test.YtenphdgnaknbeaaEq
namespace Go.Proofs.Ytenphdgnaknbeaa
open Go.RowKit
set_option maxRecDepth 100000

theorem RHas.keepS {w w' : World} {b : Nat} {row : Option Nat} {r : R} {S : Nat → Prop} (h : RHas w b row r) (hk : Keep S w w') (hb : ¬ S b) (hr : ∀ g, row = some g → ¬ S g) : RHas w' b row r := by
  obtain ⟨A, n, c, h1, h2⟩ := h
  exact ⟨A, n, c, h1.keep hk hb, h2.keep hk hr⟩
theorem RHas.row_lt {w : World} {b : Nat} {row : Option Nat} {r : R} (h : RHas w b row r) : ∀ g, row = some g → g < w.heap.size := by
  obtain ⟨A, n, c, _, hs⟩ := h
  exact hs.lt
theorem RHas.blk_lt {w : World} {b : Nat} {row : Option Nat} {r : R} (h : RHas w b row r) : b < w.heap.size := by
  obtain ⟨A, n, c, hb, _⟩ := h
  exact hb.lt
theorem RHas.ne_blk {w : World} {g : Nat} {row : Option Nat} {r : R} (h : RHas w g row r) {b : Nat} {t : TypeId} {cs : Array Value} (hb : Blk w b t cs) (h1 : t ≠ 79) (h2 : t ≠ 3) : b ≠ g ∧ row ≠ some b := by
  obtain ⟨A, n, c, hg, hs⟩ := h
  refine ⟨hb.ne_ hg h1, fun e => ?_⟩
  obtain ⟨cs', hb'⟩ := hs.row_at b e
  exact hb.ne_ hb' h2 rfl
theorem RHas.row_far {w : World} {b b' : Nat} {row row' : Option Nat} {r r' : R} (h : RHas w b row r) (h' : RHas w b' row' r') : row ≠ some b' := by
  intro e
  obtain ⟨A, n, c, _, hs⟩ := h
  obtain ⟨A', n', c', hb', _⟩ := h'
  obtain ⟨cs', hb⟩ := hs.row_at b' e
  exact hb'.ne_ hb (by decide) rfl

/-- an entry: whose, and the block of its detector -/
abbrev Ent := ID × Nat
abbrev cO (e : Ent) : List Value := [.int .i64 e.1.1, .int .i64 e.1.2, .pointer (some ⟨e.2, 0, none⟩)]
def ent0 : Ent := ((0, 0), 0)
structure RDets (w : World) (S : Nat → Prop) (L : List Ent) (ρ : Nat → Option Nat) (md : Nat → R) : Prop where
  has : ∀ e ∈ L, RHas w e.2 (ρ e.2) (md e.2) ∧ (md e.2).Ok ∧ S e.2 ∧ ∀ h, ρ e.2 = some h → S h
  ap : ∀ e ∈ L, ∀ f ∈ L, ∀ g, ρ e.2 = some g → ρ f.2 = some g → e.2 = f.2
  one : (L.map Prod.snd).Nodup
  lt : ∀ g, S g → g < w.heap.size
theorem RDets.keep {w w' : World} {S T : Nat → Prop} {L : List Ent} {ρ : Nat → Option Nat} {md : Nat → R} (h : RDets w S L ρ md) (hk : Keep T w w') (hT : ∀ g, S g → ¬ T g) : RDets w' S L ρ md :=
  ⟨fun e he => by
    obtain ⟨h1, h2, h3, h4⟩ := h.has e he
    exact ⟨h1.keepS hk (hT _ h3) (fun q hq => hT _ (h4 q hq)), h2, h3, h4⟩, h.ap, h.one, fun g hg => Nat.lt_of_lt_of_le (h.lt g hg) hk.size⟩
theorem RDets.more {w : World} {S T : Nat → Prop} {L : List Ent} {ρ : Nat → Option Nat} {md : Nat → R} (h : RDets w S L ρ md) (hs : ∀ g, S g → T g) (hl : ∀ g, T g → g < w.heap.size) : RDets w T L ρ md :=
  ⟨fun e he => by
    obtain ⟨h1, h2, h3, h4⟩ := h.has e he
    exact ⟨h1, h2, hs _ h3, fun q hq => hs _ (h4 q hq)⟩, h.ap, h.one, hl⟩
theorem RDets.nil_ (w : World) (S : Nat → Prop) (hl : ∀ g, S g → g < w.heap.size) (ρ : Nat → Option Nat) (md : Nat → R) : RDets w S [] ρ md :=
  ⟨fun _ h => (by cases h), fun _ h => (by cases h), List.nodup_nil, hl⟩
/-- one detector has turned -/
theorem RDets.turn {w w' : World} {S : Nat → Prop} {L : List Ent} {ρ : Nat → Option Nat} {md : Nat → R} (h : RDets w S L ρ md) {e : Ent} (he : e ∈ L) {r' : R} (ok : r'.Ok) {x : Ending} (ht : RTurns e.2 (ρ e.2) r' w x w') :
    x = .returned (.tuple #[]) ∧ (∃ ρ', RDets w' (grow S w w') L ρ' (fun y => if y = e.2 then r' else md y)) ∧ Keep (fun k => k = e.2) w w' ∧ Keep S w w' := by
  obtain ⟨hx, row', hh, hk, hr⟩ := ht
  obtain ⟨g1, g2, g3, g4⟩ := h.has e he
  have old : ∀ f ∈ L, ¬ f.2 = e.2 → ∀ g, ρ f.2 = some g → row' = some g → False := fun f hf hne g hg hg2 => by
    rcases hr with hr | hr
    · exact hne (h.ap f hf e he g hg (by rw [← hr, hg2]))
    · have h1 := hr g hg2
      have h2 := (h.has f hf).1.row_lt g hg; omega
  refine ⟨hx, ⟨fun y => if y = e.2 then row' else ρ y, ⟨fun f hf => ?_, fun f hf f2 hf2 g hg hg2 => ?_, h.one, fun y hy => hy.elim (fun hy => Nat.lt_of_lt_of_le (h.lt y hy) hk.size) (fun hy => hy.2)⟩⟩, hk, hk.mono fun k _ y => y ▸ g3⟩
  · by_cases e1 : f.2 = e.2
    · rw [if_pos e1, if_pos e1, e1]
      refine ⟨hh, ok, .inl g3, fun y hy => ?_⟩
      rcases hr with hr | hr
      · exact .inl (g4 y (by rw [← hr, hy]))
      · exact .inr ⟨hr y hy, hh.row_lt _ hy⟩
    · rw [if_neg e1, if_neg e1]
      obtain ⟨k1, k2, k3, k4⟩ := h.has f hf
      exact ⟨k1.keepS hk e1 (fun y hy hy2 => k1.row_far g1 (hy2 ▸ hy)), k2, .inl k3, fun y hy => .inl (k4 y hy)⟩
  · by_cases e1 : f.2 = e.2 <;> by_cases e2 : f2.2 = e.2
    · rw [e1, e2]
    · rw [if_pos e1] at hg; rw [if_neg e2] at hg2
      exact (old f2 hf2 e2 g hg2 hg).elim
    · rw [if_neg e1] at hg; rw [if_pos e2] at hg2
      exact (old f hf e1 g hg hg2).elim
    · rw [if_neg e1] at hg; rw [if_neg e2] at hg2
      exact h.ap f hf f2 hf2 g hg hg2
/-- The reference's watch in block b; all that is its own lies in S. -/
def RWt (w : World) (b : Nat) (S : Nat → Prop) (mn mx wd : Int) (L : List Ent) (md : Nat → R) : Prop :=
  ∃ row A c ρ, Blk w b 66 #[.int .i64 mn, .int .i64 mx, .int .i64 wd, .slice A L.length c] ∧ SlK w 69 3 row A L.length c (L.flatMap cO) ∧ S b ∧ (∀ g, row = some g → S g) ∧ RDets w S L ρ md
theorem RWt.keep {w w' : World} {b : Nat} {S T : Nat → Prop} {mn mx wd : Int} {L : List Ent} {md : Nat → R} (h : RWt w b S mn mx wd L md) (hk : Keep T w w') (hT : ∀ g, S g → ¬ T g) : RWt w' b S mn mx wd L md := by
  obtain ⟨row, A, c, ρ, h1, h2, h3, h4, h5⟩ := h
  exact ⟨row, A, c, ρ, h1.keep hk (hT _ h3), h2.keep hk (fun g hg => hT _ (h4 g hg)), h3, h4, h5.keep hk hT⟩
theorem RWt.keep0 {w w' : World} {b : Nat} {S : Nat → Prop} {mn mx wd : Int} {L : List Ent} {md : Nat → R} (h : RWt w b S mn mx wd L md) (hk : Keep (fun _ => False) w w') : RWt w' b S mn mx wd L md := h.keep hk (fun _ _ h => h)
theorem RWt.lt {w : World} {b : Nat} {S : Nat → Prop} {mn mx wd : Int} {L : List Ent} {md : Nat → R} (h : RWt w b S mn mx wd L md) : ∀ g, S g → g < w.heap.size := by
  obtain ⟨row, A, c, ρ, _, _, _, _, h⟩ := h
  exact h.lt
set_option maxHeartbeats 400000 in
theorem rwnew_bad (mn mx wd : Int) (w : World) (h : ¬ MayNew mn mx wd) :
    Calls Try.prog 17 #[.int .i64 mn, .int .i64 mx, .int .i64 wd] w fun e w' => e = .returned (.tuple #[.pointer none, .int .i64 1]) ∧ w' = w := by
  go_enter Try.func17, Try.ntmps17
  go_wp2_with fail
  refine (rnew_bad mn mx wd w h).mono ?_
  rintro e w' ⟨rfl, rfl⟩
  go_wp2
  go_ret2
  exact ⟨rfl, rfl⟩
set_option maxHeartbeats 400000 in
theorem rwnew_ok (mn mx wd : Int) (w : World) (h : MayNew mn mx wd) :
    Calls Try.prog 17 #[.int .i64 mn, .int .i64 mx, .int .i64 wd] w fun e w' => ∃ b S md, e = .returned (.tuple #[.pointer (some ⟨b, 0, none⟩), .int .i64 0]) ∧ RWt w' b S mn mx wd [] md ∧ (∀ g, S g → w.heap.size ≤ g) ∧ Keep (fun _ => False) w w' := by
  obtain ⟨h1, h2, h3, h4, h5⟩ := h
  go_enter Try.func17, Try.ntmps17
  go_wp2_with fail
  refine (rnew_ok mn mx wd w h1 h2 h3 h4 h5).mono ?_
  rintro e w' ⟨rfl, hw⟩
  have hk : Keep (fun _ => False) w w' := by rw [hw]; exact (Keep.refl _ _).alloc _
  have HK := Lib.hid hk
  clear hw hk
  go_wp2
  go_ret2
  have hsz := HK.out.size
  exact ⟨w'.heap.size, fun g => w'.heap.size ≤ g ∧ g < w'.heap.size + 1, fun _ => ⟨0, 0, 0, false, 0, []⟩, rfl, ⟨none, none, 0, fun _ => none, Blk.new _ _ _, SlK.nil_ _ _ _, ⟨by omega, by omega⟩, fun g hg => (by cases hg), RDets.nil_ _ _ (fun g hg => by simp; omega) _ _⟩, fun g hg => by omega, HK.out.alloc _⟩
theorem SlK.ent {w : World} {t : TypeId} {row : Option Nat} {A : Option Addr} {n c : Nat} {L : List Ent} (h : SlK w t 3 row A n c (L.flatMap cO)) (hL : L.length = n) {i : Nat} (hi : i < n) : ∃ g off, A = some ⟨g, off, none⟩ ∧ w.cell? ⟨g, off + i * 3, none⟩ = some (.int .i64 (L.getD i ent0).1.1) ∧
    w.cell? ⟨g, off + i * 3 + 1, none⟩ = some (.int .i64 (L.getD i ent0).1.2) ∧ w.cell? ⟨g, off + i * 3 + 2, none⟩ = some (.pointer (some ⟨(L.getD i ent0).2, 0, none⟩)) := by
  have hl : i < L.length := by omega
  have e : L.getD i ent0 = L[i] := by simp [List.getD, hl]
  rw [e]
  obtain ⟨g, off, v, h1, h2, h3⟩ := h.rd.2 (i * 3) (by omega)
  have get : ∀ j, j < 3 → ∃ v, w.cell? ⟨g, off + (i * 3 + j), none⟩ = some v ∧ (cO L[i])[j]? = some v := fun j hj => by
    obtain ⟨g', off', v', q1, q2, q3⟩ := h.rd.2 (i * 3 + j) (by omega)
    rw [h1] at q1; injection q1 with q1; injection q1 with q4 q5; subst q4 q5
    exact ⟨v', q3, by rw [← flat_get cO 3 (fun _ => rfl) L i j hl hj]; exact q2⟩
  obtain ⟨v0, a0, b0⟩ := get 0 (by omega)
  obtain ⟨v1, a1, b1⟩ := get 1 (by omega)
  obtain ⟨v2, a2, b2⟩ := get 2 (by omega)
  simp at b0 b1 b2
  subst b0 b1 b2
  simp only [← Nat.add_assoc] at a1 a2
  exact ⟨g, off, h1, a0, a1, a2⟩
/-- where x stands in L -/
def IsFind (L : List Ent) (x : ID) (i : Int) : Prop := (i = -1 ∧ ∀ e ∈ L, e.1 ≠ x) ∨ ∃ k : Nat, i = (k : Int) ∧ k < L.length ∧ (L.getD k ent0).1 = x
set_option maxHeartbeats 1000000 in
theorem rfind_any {w : World} {b : Nat} {S : Nat → Prop} {mn mx wd : Int} {L : List Ent} {md : Nat → R} (h : RWt w b S mn mx wd L md) (hL : L.length ≤ 1000000) (x : ID) :
    Calls Try.prog 37 #[.pointer (some ⟨b, 0, none⟩), idV x] w fun e w' => ∃ i, e = .returned (.int .i64 i) ∧ IsFind L x i ∧ Keep (fun _ => False) w w' := by
  obtain ⟨row, A, c, ρ, hb, hs, _⟩ := h
  obtain ⟨a, i⟩ := x
  have HB := Lib.hid hb
  have HS := Lib.hid hs
  have hI := Blk.new w 33 #[.int .i64 a, .int .i64 i]
  have hk0 := (Keep.refl (fun _ => False) w).alloc (.cells #[.int .i64 a, .int .i64 i] 33)
  have HI := Lib.hid hI
  have HK0 := Lib.hid hk0
  clear hb hs hI hk0
  go_enter Try.func37, Try.ntmps37
  go_wp2
  obtain ⟨W0, hW0⟩ : ∃ W0, w.alloc (.cells #[.int .i64 a, .int .i64 i] 33) = W0 := ⟨_, rfl⟩
  rw [hW0] at HI HK0 ⊢
  clear hW0
  go_loopw [5] (fun j wr => ∃ k : Nat, k ≤ L.length ∧ j = .int .i64 (k : Int) ∧ Hid (∀ e ∈ L.take k, e.1 ≠ (a, i)) ∧ Hid (Keep (fun _ => False) W0 wr)) (fun j _ => L.length - (intOf j).toNat)
  case atStart => exact ⟨0, Nat.zero_le _, rfl, Lib.hid (by simp), Lib.hid (Keep.refl _ _)⟩
  case round =>
    obtain ⟨k, hk, rfl, HN, HK⟩ := hrel
    have e2 : IntKind.i64.wrap ((k : Int) + 1) = (k : Int) + 1 := IntWalk.i64_in _ (by omega)
    have c3 := (HB.out.keep (keep0_trans _ _ _ HK0.out HK.out) (fun h => h)).cell 3
    simp at c3
    by_cases hkl : k < L.length
    · obtain ⟨g, off, hA, p0, p1, _⟩ := (HS.out.keep (keep0_trans _ _ _ HK0.out HK.out) (fun _ _ h => h)).ent rfl hkl
      have i0 := (HI.out.keep HK.out (fun h => h)).cell 0
      have i1' := (HI.out.keep HK.out (fun h => h)).cell 1
      simp at i0 i1'
      subst hA
      have HX := Lib.hid (fun (he : (L.getD k ent0).1 = (a, i)) => (show IsFind L (a, i) (k : Int) from .inr ⟨k, rfl, hkl, he⟩))
      have HY := Lib.hid (fun (he : ¬ (L.getD k ent0).1 = (a, i)) => (show ∀ e ∈ L.take (k + 1), e.1 ≠ (a, i) from fun e hm => by
        rw [List.take_succ_eq_append_getElem hkl, List.mem_append, List.mem_singleton] at hm
        rcases hm with hm | rfl
        · exact HN.out e hm
        · have e3 : L.getD k ent0 = L[k] := by simp [List.getD, hkl]
          rw [e3] at he; exact he))
      generalize (L.getD k ent0).1 = y at p0 p1 HX HY
      obtain ⟨ya, yi⟩ := y
      simp only at p0 p1
      have q1 : (k : Int) < (L.length : Int) := by omega
      have q2 : (0 : Int) ≤ (k : Int) := by omega
      have G := gID
      by_cases he : ((ya, yi) : ID) = (a, i)
      · have E : ∀ W, (binOp .eql 33 (.agg #[.int .i64 ya, .int .i64 yi]) (.agg #[.int .i64 a, .int .i64 i])).run Try.prog W = .ok (.bool true) W := fun W => by
          have := eql_ID (ya, yi) (a, i) W
          rw [decide_eq_true he] at this
          exact this
        have HQ := Lib.hid (HX.out he)
        clear he HX HY
        go_wp2
        go_quiet (fail)
        go_wp2
        go_ret
        exact ⟨_, rfl, HQ.out, keep0_trans _ _ _ HK0.out (HK.out.drewN _)⟩
      · have E : ∀ W, (binOp .eql 33 (.agg #[.int .i64 ya, .int .i64 yi]) (.agg #[.int .i64 a, .int .i64 i])).run Try.prog W = .ok (.bool false) W := fun W => by
          have := eql_ID (ya, yi) (a, i) W
          rw [decide_eq_false he] at this
          exact this
        have HQ := Lib.hid (HY.out he)
        clear he HX HY
        go_wp2
        go_quiet (fail)
        go_wp2
        go_roundw
        case rel => exact ⟨k + 1, by omega, by go_num, HQ, Lib.hid (HK.out.drewN _)⟩
        case measure => simp [intOf]; omega
    · obtain rfl : k = L.length := by omega
      go_wp2
      go_ret
      refine ⟨_, rfl, .inl ⟨rfl, ?_⟩, keep0_trans _ _ _ HK0.out HK.out⟩
      have := HN.out
      rwa [List.take_length] at this
end Go.Proofs.Ytenphdgnaknbeaa
