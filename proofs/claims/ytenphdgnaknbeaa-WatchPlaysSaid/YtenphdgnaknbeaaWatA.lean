/-
  A watch in memory ('Wt'); package watch's New.
-/
import Derived.Test.YtenphdgnaknbeaaMapW
import Derived.Test.YtenphdgnaknbeaaAccC
import Derived.Test.YtenphdgnaknbeaaSlK
import Derived.Carry
namespace Go.Proofs.Ytenphdgnaknbeaa
open Go.RowKit
set_option maxRecDepth 100000

/-- who is watched, and by what -/
abbrev M := ID → Option D
def newD (mn mx wd : Int) : D := ⟨mn, mx, wd, -1, []⟩
def MayNew (mn mx wd : Int) : Prop := 1 ≤ mn ∧ mn ≤ mx ∧ mx ≤ 4096 ∧ 1 ≤ wd ∧ wd ≤ 4096
theorem newD_ok {mn mx wd : Int} (h : MayNew mn mx wd) : (newD mn mx wd).Ok := by
  obtain ⟨h1, h2, h3, h4, h5⟩ := h
  constructor <;> simp [newD] <;> omega
def updM (m : M) (x : ID) (d : D) : M := fun y => if y = x then some d else m y

/-- The detectors of m lie in the blocks that f says, their gaps in those that ρ says; all among S; no two share one. -/
structure Dets (w : World) (S : Nat → Prop) (f ρ : ID → Option Nat) (m : M) : Prop where
  dom : ∀ x, f x = none ↔ m x = none
  has : ∀ x g d, f x = some g → m x = some d → Has w g (ρ x) d ∧ d.Ok ∧ S g ∧ ∀ h, ρ x = some h → S h
  ap1 : ∀ x y g, f x = some g → f y = some g → x = y
  ap2 : ∀ x y g, f x ≠ none → f y ≠ none → ρ x = some g → ρ y = some g → x = y
  lt : ∀ g, S g → g < w.heap.size

theorem Has.keepS {w w' : World} {b : Nat} {row : Option Nat} {d : D} {S : Nat → Prop} (h : Has w b row d) (hk : Keep S w w') (hb : ¬ S b) (hr : ∀ g, row = some g → ¬ S g) : Has w' b row d := by
  obtain ⟨A, n, c, h1, h2⟩ := h
  exact ⟨A, n, c, h1.keep hk hb, h2.keep hk hr⟩
theorem Has.row_far {w : World} {b b' : Nat} {row row' : Option Nat} {d d' : D} (h : Has w b row d) (h' : Has w b' row' d') : row ≠ some b' := by
  intro e
  obtain ⟨A, n, c, _, hs⟩ := h
  obtain ⟨A', n', c', hb', _⟩ := h'
  rcases hs.2.2.2 with ⟨h1, _⟩ | ⟨g', off, cur, h1, _, hbb, _⟩
  · rw [h1] at e; cases e
  · rw [e] at h1; injection h1 with h1; subst h1
    exact Blk.ne_ hb' hbb (by decide) rfl
theorem Has.row_lt {w : World} {b : Nat} {row : Option Nat} {d : D} (h : Has w b row d) : ∀ g, row = some g → g < w.heap.size := by
  obtain ⟨A, n, c, _, hs⟩ := h
  exact hs.lt
theorem Has.blk_lt {w : World} {b : Nat} {row : Option Nat} {d : D} (h : Has w b row d) : b < w.heap.size := by
  obtain ⟨A, n, c, hb, _⟩ := h
  exact hb.lt
theorem Dets.nil_ (w : World) (S : Nat → Prop) (hl : ∀ g, S g → g < w.heap.size) (ρ : ID → Option Nat) : Dets w S (fun _ => none) ρ (fun _ => none) :=
  ⟨fun _ => ⟨fun _ => rfl, fun _ => rfl⟩, fun _ _ _ h => (by cases h), fun _ _ _ h => (by cases h), fun _ _ _ h => absurd rfl h, hl⟩
theorem Dets.keep {w w' : World} {S T : Nat → Prop} {f ρ : ID → Option Nat} {m : M} (h : Dets w S f ρ m) (hk : Keep T w w') (hT : ∀ g, S g → ¬ T g) : Dets w' S f ρ m :=
  ⟨h.dom, fun x g d hf hm => by
    obtain ⟨h1, h2, h3, h4⟩ := h.has x g d hf hm
    exact ⟨h1.keepS hk (hT _ h3) (fun q hq => hT _ (h4 q hq)), h2, h3, h4⟩, h.ap1, h.ap2, fun g hg => Nat.lt_of_lt_of_le (h.lt g hg) hk.size⟩
theorem Dets.keep0 {w w' : World} {S : Nat → Prop} {f ρ : ID → Option Nat} {m : M} (h : Dets w S f ρ m) (hk : Keep (fun _ => False) w w') : Dets w' S f ρ m := h.keep hk (fun _ _ h => h)
/-- with more room -/
theorem Dets.more {w : World} {S T : Nat → Prop} {f ρ : ID → Option Nat} {m : M} (h : Dets w S f ρ m) (hs : ∀ g, S g → T g) (hl : ∀ g, T g → g < w.heap.size) : Dets w T f ρ m :=
  ⟨h.dom, fun x g d hf hm => by
    obtain ⟨h1, h2, h3, h4⟩ := h.has x g d hf hm
    exact ⟨h1, h2, hs _ h3, fun q hq => hs _ (h4 q hq)⟩, h.ap1, h.ap2, hl⟩
/-- the room behind a call that took new memory -/
def grow (S : Nat → Prop) (w w' : World) (g : Nat) : Prop := S g ∨ (w.heap.size ≤ g ∧ g < w'.heap.size)
/-- one detector has turned -/
theorem Dets.turn {w w' : World} {S : Nat → Prop} {f ρ : ID → Option Nat} {m : M} (h : Dets w S f ρ m) {x : ID} {g : Nat} {d d' : D} (hf : f x = some g) (hm : m x = some d) {row' : Option Nat}
    (hh : Has w' g row' d') (ok : d'.Ok) (hk : Keep (fun k => k = g ∨ ρ x = some k) w w') (hr : row' = ρ x ∨ ∃ q, row' = some q ∧ w.heap.size ≤ q) :
    Dets w' (grow S w w') f (fun y => if y = x then row' else ρ y) (updM m x d') := by
  obtain ⟨g1, g2, g3, g4⟩ := h.has x g d hf hm
  have hlt : ∀ q, S q → q < w'.heap.size := fun q hq => Nat.lt_of_lt_of_le (h.lt q hq) hk.size
  refine ⟨fun y => ?_, fun y q e hfy hmy => ?_, h.ap1, fun y z q hy hz hqy hqz => ?_, fun q hq => ?_⟩
  · unfold updM
    split
    · rename_i e; subst e; simp [hf]
    · exact h.dom y
  · unfold updM at hmy
    split at hmy
    · rename_i ey; subst ey
      rw [hf] at hfy; injection hfy with hfy; subst hfy
      injection hmy with hmy; subst hmy
      simp only [if_true]
      refine ⟨hh, ok, .inl g3, fun p hp => ?_⟩
      rcases hr with hr | ⟨p', hp', hle⟩
      · exact .inl (g4 p (by rw [← hr, hp]))
      · rw [hp] at hp'; injection hp' with hp'; subst hp'
        exact .inr ⟨hle, hh.row_lt _ hp⟩
    · rename_i ey
      rw [if_neg ey]
      obtain ⟨k1, k2, k3, k4⟩ := h.has y q e hfy hmy
      refine ⟨k1.keepS hk ?_ ?_, k2, .inl k3, fun p hp => .inl (k4 p hp)⟩
      · rintro (rfl | e2)
        · exact ey (h.ap1 y x _ hfy hf)
        · exact g1.row_far k1 e2
      · rintro p hp (rfl | e2)
        · exact k1.row_far g1 hp
        · exact ey (h.ap2 y x p (by rw [hfy]; simp) (by rw [hf]; simp) hp e2)
  · split at hqy <;> split at hqz
    · rename_i e1 e2; rw [e1, e2]
    · rename_i e1 e2
      subst e1
      rcases hr with hr | ⟨p', hp', hle⟩
      · exact h.ap2 y z q hy hz (by rw [← hr, hqy]) hqz
      · exfalso
        cases hz' : f z with
        | none => exact hz hz'
        | some gz =>
          cases hmz : m z with
          | none => exact hz ((h.dom z).2 hmz)
          | some dz =>
            have := (h.has z gz dz hz' hmz).1.row_lt q hqz
            rw [hqy] at hp'; injection hp' with hp'; omega
    · rename_i e1 e2
      subst e2
      rcases hr with hr | ⟨p', hp', hle⟩
      · exact h.ap2 y z q hy hz hqy (by rw [← hr, hqz])
      · exfalso
        cases hz' : f y with
        | none => exact hy hz'
        | some gz =>
          cases hmz : m y with
          | none => exact hy ((h.dom y).2 hmz)
          | some dz =>
            have := (h.has y gz dz hz' hmz).1.row_lt q hqy
            rw [hqz] at hp'; injection hp' with hp'; omega
    · exact h.ap2 y z q hy hz hqy hqz
  · rcases hq with hq | ⟨_, hq⟩
    · exact hlt q hq
    · exact hq
/-- one detector more, in new memory -/
theorem Dets.add {w : World} {S : Nat → Prop} {f ρ : ID → Option Nat} {m : M} (h : Dets w S f ρ m) {x : ID} {g : Nat} {d : D} {row : Option Nat}
    (hh : Has w g row d) (ok : d.Ok) (hS : S g) (hSr : ∀ q, row = some q → S q) (h1 : ∀ y, y ≠ x → f y ≠ some g) (h2 : ∀ y q, y ≠ x → f y ≠ none → row = some q → ρ y ≠ some q) :
    Dets w S (updF f x g) (fun y => if y = x then row else ρ y) (updM m x d) := by
  refine ⟨fun y => ?_, fun y q e hfy hmy => ?_, fun y z q hy hz => ?_, fun y z q hy hz hqy hqz => ?_, h.lt⟩
  · unfold updM updF
    split
    · simp
    · exact h.dom y
  · unfold updM at hmy
    unfold updF at hfy
    by_cases ey : y = x
    · subst ey
      simp only [if_true] at hfy hmy ⊢
      injection hfy with hfy; subst hfy
      injection hmy with hmy; subst hmy
      exact ⟨hh, ok, hS, hSr⟩
    · rw [if_neg ey] at hfy hmy ⊢
      exact h.has y q e hfy hmy
  · unfold updF at hy hz
    split at hy <;> split at hz
    · rename_i e1 e2; rw [e1, e2]
    · rename_i e1 e2; injection hy with hy; subst hy; exact absurd hz (h1 z e2)
    · rename_i e1 e2; injection hz with hz; subst hz; exact absurd hy (h1 y e1)
    · exact h.ap1 y z q hy hz
  · unfold updF at hy hz
    split at hqy <;> split at hqz
    · rename_i e1 e2; rw [e1, e2]
    · rename_i e1 e2; rw [if_neg e2] at hz; exact absurd hqz (h2 z q e2 hz hqy)
    · rename_i e1 e2; rw [if_neg e1] at hy; exact absurd hqy (h2 y q e1 hy hqz)
    · rename_i e1 e2
      rw [if_neg e1] at hy; rw [if_neg e2] at hz
      exact h.ap2 y z q hy hz hqy hqz

theorem Dets.blk_lt {w : World} {S : Nat → Prop} {f ρ : ID → Option Nat} {m : M} (h : Dets w S f ρ m) {x : ID} (hx : f x ≠ none) : ∃ g d, f x = some g ∧ m x = some d ∧ Has w g (ρ x) d ∧ S g ∧ ∀ q, ρ x = some q → S q := by
  cases hf : f x with
  | none => exact absurd hf hx
  | some g =>
    cases hm : m x with
    | none => rw [(h.dom x).2 hm] at hf; cases hf
    | some d =>
      obtain ⟨h1, h2, h3, h4⟩ := h.has x g d hf hm
      exact ⟨g, d, rfl, rfl, h1, h3, h4⟩
/-- one detector fewer -/
theorem Dets.del {w : World} {S : Nat → Prop} {f ρ : ID → Option Nat} {m : M} (h : Dets w S f ρ m) (x : ID) : Dets w S (delF f x) ρ (fun y => if y = x then none else m y) := by
  refine ⟨fun y => ?_, fun y g d hf hm => ?_, fun y z g hy hz => ?_, fun y z g hy hz hqy hqz => ?_, h.lt⟩
  · unfold delF
    split
    · simp
    · exact h.dom y
  · unfold delF at hf
    split at hf
    · cases hf
    · rename_i e
      rw [if_neg e] at hm
      exact h.has y g d hf hm
  · unfold delF at hy hz
    split at hy
    · cases hy
    · split at hz
      · cases hz
      · exact h.ap1 y z g hy hz
  · unfold delF at hy hz
    split at hy
    · exact absurd rfl hy
    · split at hz
      · exact absurd rfl hz
      · exact h.ap2 y z g hy hz hqy hqz
/-- The watch in block b, with bounds, watches m; all that is its own lies in the blocks S. -/
def Wt (w : World) (b n : Nat) (S : Nat → Prop) (mn mx wd : Int) (m : M) : Prop :=
  ∃ mb f ρ, Blk w b 57 #[.int .i64 mn, .int .i64 mx, .int .i64 wd, .map (some mb)] ∧ MapI w mb n f ∧ S b ∧ S mb ∧ Dets w S f ρ m
theorem Wt.lt {w : World} {b n : Nat} {S : Nat → Prop} {mn mx wd : Int} {m : M} (h : Wt w b n S mn mx wd m) : ∀ g, S g → g < w.heap.size := by
  obtain ⟨mb, f, ρ, _, _, _, _, h⟩ := h
  exact h.lt
theorem Wt.keep {w w' : World} {b n : Nat} {S T : Nat → Prop} {mn mx wd : Int} {m : M} (h : Wt w b n S mn mx wd m) (hk : Keep T w w') (hT : ∀ g, S g → ¬ T g) : Wt w' b n S mn mx wd m := by
  obtain ⟨mb, f, ρ, h1, h2, h3, h4, h5⟩ := h
  exact ⟨mb, f, ρ, h1.keep hk (hT _ h3), h2.keep hk (hT _ h4), h3, h4, h5.keep hk hT⟩
theorem Wt.keep0 {w w' : World} {b n : Nat} {S : Nat → Prop} {mn mx wd : Int} {m : M} (h : Wt w b n S mn mx wd m) (hk : Keep (fun _ => False) w w') : Wt w' b n S mn mx wd m := h.keep hk (fun _ _ h => h)
theorem Wt.mono {w : World} {b n n' : Nat} {S : Nat → Prop} {mn mx wd : Int} {m : M} (h : Wt w b n S mn mx wd m) (hn : n ≤ n') : Wt w b n' S mn mx wd m := by
  obtain ⟨mb, f, ρ, h1, h2, h3⟩ := h
  exact ⟨mb, f, ρ, h1, h2.mono hn, h3⟩
theorem Wt.wf {w : World} {b n : Nat} {S : Nat → Prop} {mn mx wd : Int} {m : M} (h : Wt w b n S mn mx wd m) {x : ID} (hx : m x ≠ none) : wfI x := by
  obtain ⟨mb, f, ρ, h1, h2, h3, h4, h5⟩ := h
  cases hf : f x with
  | none => exact absurd ((h5.dom x).1 hf) hx
  | some g => exact h2.wf hf
theorem Wt.ok {w : World} {b n : Nat} {S : Nat → Prop} {mn mx wd : Int} {m : M} (h : Wt w b n S mn mx wd m) {x : ID} {d : D} (hx : m x = some d) : d.Ok := by
  obtain ⟨mb, f, ρ, h1, h2, h3, h4, h5⟩ := h
  cases hf : f x with
  | none => rw [(h5.dom x).1 hf] at hx; cases hx
  | some g => exact (h5.has x g d hf hx).2.1

theorem SlK.row_at {w : World} {e : TypeId} {k : Nat} {row : Option Nat} {A : Option Addr} {n c : Nat} {xs : List Value} (h : SlK w e k row A n c xs) : ∀ g, row = some g → ∃ cs, Blk w g e cs := by
  intro g hg
  rcases h.2.2.2 with ⟨q, _⟩ | ⟨g', off, cur, q, _, hb, _⟩
  · rw [q] at hg; cases hg
  · rw [hg] at q; injection q with q; subst q; exact ⟨_, hb⟩
theorem keepS0 {S : Nat → Prop} {a b c : World} (h : Keep (fun _ => False) a b) (k : Keep S b c) : Keep S a c := (h.mono fun _ _ h => h.elim).trans (k.mono fun _ _ h => .inl h)
theorem keepS0' {S : Nat → Prop} {a b c : World} (h : Keep S a b) (k : Keep (fun _ => False) b c) : Keep S a c := h.trans (k.mono fun _ _ h => h.elim)
theorem keepSS {S : Nat → Prop} {a b c : World} (h : Keep S a b) (k : Keep (grow S a b) b c) : Keep S a c := h.trans (k.mono fun _ _ h => h.imp id fun h => h.1)
theorem Has.ne_blk {w : World} {g : Nat} {row : Option Nat} {d : D} (h : Has w g row d) {b : Nat} {t : TypeId} {cs : Array Value} (hb : Blk w b t cs) (h1 : t ≠ 74) (h2 : t ≠ 3) : b ≠ g ∧ row ≠ some b := by
  obtain ⟨A, n, c, hg, hs⟩ := h
  refine ⟨hb.ne_ hg h1, fun e => ?_⟩
  rcases hs.2.2.2 with ⟨h3, _⟩ | ⟨g', off, cur, h3, _, hbb, _⟩
  · rw [h3] at e; cases e
  · rw [e] at h3; injection h3 with h3; subst h3
    exact hb.ne_ hbb h2 rfl
theorem Has.ne_map {w : World} {g : Nat} {row : Option Nat} {d : D} (h : Has w g row d) {mb n : Nat} {f : ID → Option Nat} (hm : MapI w mb n f) : mb ≠ g ∧ row ≠ some mb := by
  obtain ⟨A, n', c, hg, hs⟩ := h
  obtain ⟨D, ⟨es, clock, hb, _⟩, _⟩ := hm
  refine ⟨?_, fun e => ?_⟩
  · rintro rfl
    unfold Blk at hg
    rw [hb] at hg; cases hg
  · rcases hs.2.2.2 with ⟨h3, _⟩ | ⟨g', off, cur, h3, _, hbb, _⟩
    · rw [h3] at e; cases e
    · rw [e] at h3; injection h3 with h3; subst h3
      unfold Blk at hbb
      rw [hb] at hbb; cases hbb
/-- a call on one detector of a watch -/
theorem wt_turn {w w' : World} {b mb n : Nat} {S : Nat → Prop} {mn mx wd : Int} {f ρ : ID → Option Nat} {m : M} (hb : Blk w b 57 #[.int .i64 mn, .int .i64 mx, .int .i64 wd, .map (some mb)]) (hM : MapI w mb n f) (hD : Dets w S f ρ m)
    {x : ID} {g : Nat} {d d' : D} (hf : f x = some g) (hm : m x = some d) (ok : d'.Ok) {e : Ending} (ht : Turns g (ρ x) d' w e w') :
    e = .returned (.tuple #[]) ∧ Blk w' b 57 #[.int .i64 mn, .int .i64 mx, .int .i64 wd, .map (some mb)] ∧ MapI w' mb n f ∧ (∃ ρ', Dets w' (grow S w w') f ρ' (updM m x d')) ∧ Keep S w w' := by
  obtain ⟨he, row', hh, hk, hr⟩ := ht
  obtain ⟨h1, h2, h3, h4⟩ := hD.has _ g d hf hm
  have n1 := h1.ne_blk hb (by decide) (by decide)
  have n2 := h1.ne_map hM
  refine ⟨he, hb.keep hk ?_, hM.keep hk ?_, ⟨_, hD.turn hf hm hh ok hk hr⟩, hk.mono fun k _ e => ?_⟩
  · rintro (e | e)
    · exact n1.1 e
    · exact n1.2 e
  · rintro (e | e)
    · exact n2.1 e
    · exact n2.2 e
  · rcases e with rfl | e
    · exact h3
    · exact h4 k e
set_option maxHeartbeats 400000 in
theorem wnew_bad (mn mx wd : Int) (w : World) (h : ¬ MayNew mn mx wd) :
    Calls Try.prog 10 #[.int .i64 mn, .int .i64 mx, .int .i64 wd] w fun e w' => e = .returned (.tuple #[.pointer none, .int .i64 1]) ∧ w' = w := by
  go_enter Try.func10, Try.ntmps10
  go_wp2_with fail
  refine (new_bad mn mx wd w h).mono ?_
  rintro e w' ⟨rfl, rfl⟩
  go_wp2
  go_ret2
  exact ⟨rfl, rfl⟩
set_option maxHeartbeats 400000 in
theorem wnew_ok (mn mx wd : Int) (w : World) (h : MayNew mn mx wd) :
    Calls Try.prog 10 #[.int .i64 mn, .int .i64 mx, .int .i64 wd] w fun e w' => ∃ b S, e = .returned (.tuple #[.pointer (some ⟨b, 0, none⟩), .int .i64 0]) ∧ Wt w' b 0 S mn mx wd (fun _ => none) ∧ (∀ g, S g → w.heap.size ≤ g) ∧ Keep (fun _ => False) w w' := by
  have hmm := @run_makeMap Try.prog
  obtain ⟨h1, h2, h3, h4, h5⟩ := h
  go_enter Try.func10, Try.ntmps10
  go_wp2_with fail
  refine (new_ok mn mx wd w h1 h2 h3 h4 h5).mono ?_
  rintro e w' ⟨rfl, hw⟩
  have hk : Keep (fun _ => False) w w' := by rw [hw]; exact (Keep.refl _ _).alloc _
  have HK := Lib.hid hk
  clear hw hk
  go_wp2
  go_ret2
  have hb : Blk ((w'.alloc (.map #[] 0)).alloc (.cells #[.int .i64 mn, .int .i64 mx, .int .i64 wd, .map (some w'.heap.size)] 57)) (w'.heap.size + 1) 57 #[.int .i64 mn, .int .i64 mx, .int .i64 wd, .map (some w'.heap.size)] := Blk.new_ (by simp) _ _
  have hm := (MapI.made w').keep (S := fun _ => False) ((Keep.refl _ _).alloc (.cells #[.int .i64 mn, .int .i64 mx, .int .i64 wd, .map (some w'.heap.size)] 57)) (fun h => h)
  have hsz := HK.out.size
  refine ⟨w'.heap.size + 1, fun g => w'.heap.size ≤ g ∧ g < w'.heap.size + 2, ?_, ⟨w'.heap.size, _, fun _ => none, hb, hm, ⟨by omega, by omega⟩, ⟨by omega, by omega⟩, Dets.nil_ _ _ (fun g hg => by simp; omega) _⟩, fun g hg => by omega, (HK.out.alloc _).alloc _⟩
  simp
end Go.Proofs.Ytenphdgnaknbeaa
