/-
  The program's detector and the reference's, beside each other, in memory of the law's own.
-/
import Derived.Test.YtmlgaikabnbghaaAccF
import Derived.Test.YtmlgaikabnbghaaAccS
import Derived.Test.YtmlgaikabnbghaaAccT
namespace Go.Proofs.Ytmlgaikabnbghaa
open Go.RowKit Go.WideShapes Go.Deep

structure RSt (w0 w : World) (b : Nat) (row : Option Nat) (r : R) : Prop where
  has : RHas w b row r
  own : w0.heap.size ≤ b
  rown : ∀ g, row = some g → w0.heap.size ≤ g
  ok : r.Ok
def Both (w0 : World) (b : Nat) (d : D) (b' : Nat) (r : R) (w : World) : Prop :=
  ∃ row row', St w0 w b row d ∧ RSt w0 w b' row' r ∧ ∀ g, row = some g → row' ≠ some g
theorem SlK.row_at {w : World} {e : TypeId} {k : Nat} {row : Option Nat} {A : Option Addr} {n c : Nat} {xs : List Value} (h : SlK w e k row A n c xs) : ∀ g, row = some g → ∃ cs, Blk w g e cs := by
  intro g hg
  rcases h.2.2.2 with ⟨q, _⟩ | ⟨g', off, cur, q, _, hb, _⟩
  · rw [q] at hg; cases hg
  · rw [hg] at q; injection q with q; subst q; exact ⟨_, hb⟩
theorem Sl.row_at {w : World} {e : TypeId} {row : Option Nat} {A : Option Addr} {n c : Nat} {xs : List Value} (h : Sl w e row A n c xs) : ∀ g, row = some g → ∃ cs, Blk w g e cs := h.toK.row_at
theorem RHas.keep {w w' : World} {b : Nat} {row : Option Nat} {r : R} {S : Nat → Prop} (h : RHas w b row r) (hk : Keep S w w') (hb : ¬ S b) (hr : ∀ g, row = some g → ¬ S g) : RHas w' b row r := by
  obtain ⟨A, n, c, h1, h2⟩ := h
  exact ⟨A, n, c, h1.keep hk hb, h2.keep hk hr⟩
theorem Has.keep {w w' : World} {b : Nat} {row : Option Nat} {d : D} {S : Nat → Prop} (h : Has w b row d) (hk : Keep S w w') (hb : ¬ S b) (hr : ∀ g, row = some g → ¬ S g) : Has w' b row d := by
  obtain ⟨A, n, c, h1, h2⟩ := h
  exact ⟨A, n, c, h1.keep hk hb, h2.keep hk hr⟩
theorem Both.old {w0 w : World} {b b' : Nat} {d : D} {r : R} (h : Both w0 b d b' r w) : Below w0.heap.size w0 w := by
  obtain ⟨_, _, h1, _⟩ := h
  exact h1.old
theorem Both.keep {w0 w w' : World} {b b' : Nat} {d : D} {r : R} (h : Both w0 b d b' r w) (hk : Keep (fun _ => False) w w') : Both w0 b d b' r w' := by
  obtain ⟨row, row', h1, h2, h3⟩ := h
  exact ⟨row, row', ⟨h1.old.trans (hk.below h1.old.size fun _ h => h.elim), h1.has.keep hk (fun h => h) (fun _ _ h => h), h1.own, h1.rown, h1.ok⟩, ⟨h2.has.keep hk (fun h => h) (fun _ _ h => h), h2.own, h2.rown, h2.ok⟩, h3⟩
theorem Both.drewN {w0 w : World} {b b' : Nat} {d : D} {r : R} (h : Both w0 b d b' r w) (n : Nat) : Both w0 b d b' r (w.drewN n) := h.keep ((Keep.refl _ w).drewN n)
theorem Both.turn {w0 w w' : World} {b b' : Nat} {d d1 : D} {r : R} {row row' : Option Nat} (h1 : St w0 w b row d) (h2 : RSt w0 w b' row' r) (h3 : ∀ g, row = some g → row' ≠ some g) (ok : d1.Ok) {e : Ending} (ht : Turns b row d1 w e w') : e = .returned (.tuple #[]) ∧ Both w0 b d1 b' r w' := by
  have hst := h1.turn ok ht
  obtain ⟨he, row1, hh, hk, hr1⟩ := ht
  obtain ⟨A, n, c, hb, hs⟩ := h1.has
  have hhas2 := h2.has
  obtain ⟨A2, n2, c2, hb2, hs2⟩ := h2.has
  have e1 : ∀ g, row = some g → g ≠ b' := fun g hg e => by obtain ⟨cs, hcs⟩ := hs.row_at g hg; exact Blk.ne_ hcs hb2 (by decide) e
  have e2 : ∀ g, row' = some g → g ≠ b := fun g hg e => by obtain ⟨cs, hcs⟩ := hs2.row_at g hg; exact Blk.ne_ hcs hb (by decide) e
  have e3 : b' ≠ b := Blk.ne_ hb2 hb (by decide)
  refine ⟨he, row1, row', ⟨hst.2.old, hh, h1.own, ?_, ok⟩, ⟨hhas2.keep hk ?_ ?_, h2.own, h2.rown, h2.ok⟩, ?_⟩
  · rintro g rfl
    rcases hr1 with e | ⟨g', hg, hle⟩
    · exact h1.rown g e.symm
    · injection hg with hg; subst hg; have := h1.old.size; omega
  · rintro (h | h)
    · exact e3 h
    · exact e1 _ h rfl
  · rintro g hg (h | h)
    · exact e2 g hg h
    · exact h3 g h hg
  · rintro g rfl hg
    rcases hr1 with e | ⟨g', hg', hle⟩
    · exact h3 g e.symm hg
    · injection hg' with hg'; subst hg'; have := hs2.lt _ hg; omega
theorem Both.rturn {w0 w w' : World} {b b' : Nat} {d : D} {r r1 : R} {row row' : Option Nat} (h1 : St w0 w b row d) (h2 : RSt w0 w b' row' r) (h3 : ∀ g, row = some g → row' ≠ some g) (ok : r1.Ok) {e : Ending} (ht : RTurns b' row' r1 w e w') : e = .returned (.tuple #[]) ∧ Both w0 b d b' r1 w' := by
  obtain ⟨he, row1, hh, hk, hr1⟩ := ht
  have hhas := h1.has
  obtain ⟨A, n, c, hb, hs⟩ := h1.has
  obtain ⟨A2, n2, c2, hb2, hs2⟩ := h2.has
  have e1 : ∀ g, row = some g → g ≠ b' := fun g hg e => by obtain ⟨cs, hcs⟩ := hs.row_at g hg; exact Blk.ne_ hcs hb2 (by decide) e
  have e3 : b ≠ b' := Blk.ne_ hb hb2 (by decide)
  have hsz := h1.old.size
  refine ⟨he, row, row1, ⟨h1.old.trans (hk.below hsz (fun k hk => by have := h2.own; omega)), hhas.keep hk e3 e1, h1.own, h1.rown, h1.ok⟩, ⟨hh, h2.own, ?_, ok⟩, ?_⟩
  · rintro g rfl
    rcases hr1 with e | hle
    · exact h2.rown g e.symm
    · have := hle g rfl; omega
  · rintro g hg e
    rcases hr1 with e' | hle
    · exact h3 g hg (by rw [← e', e])
    · have := hle g e; have := hs.lt g hg; omega

theorem both_begin {w0 w : World} {b b' : Nat} {d : D} {r : R} (h : Both w0 b d b' r w) (now : Int) :
    Calls Try.prog 16 #[.pointer (some ⟨b, 0, none⟩), .int .i64 now] w fun e w' => e = .returned (.tuple #[]) ∧ Both w0 b (d.begin_ now) b' r w' := by
  obtain ⟨row, row', h1, h2, h3⟩ := h
  exact (begin_any b row d now w h1.has).mono fun e w' ht => Both.turn h1 h2 h3 (h1.ok.begin_ now) ht
theorem both_heard {w0 w : World} {b b' : Nat} {d : D} {r : R} (h : Both w0 b d b' r w) (now : Int) :
    Calls Try.prog 13 #[.pointer (some ⟨b, 0, none⟩), .int .i64 now] w fun e w' => e = .returned (.tuple #[]) ∧ Both w0 b (d.heard now) b' r w' := by
  obtain ⟨row, row', h1, h2, h3⟩ := h
  exact (heard_any b row d now w h1.has h1.ok).mono fun e w' ht => Both.turn h1 h2 h3 (h1.ok.heard now) ht
theorem both_rbegin {w0 w : World} {b b' : Nat} {d : D} {r : R} (h : Both w0 b d b' r w) (now : Int) :
    Calls Try.prog 20 #[.pointer (some ⟨b', 0, none⟩), .int .i64 now] w fun e w' => e = .returned (.tuple #[]) ∧ Both w0 b d b' (r.begin_ now) w' := by
  obtain ⟨row, row', h1, h2, h3⟩ := h
  exact (rbegin_any b' row' r now w h2.has).mono fun e w' ht => Both.rturn h1 h2 h3 (h2.ok.begin_ now) ht
theorem both_rheard {w0 w : World} {b b' : Nat} {d : D} {r : R} (h : Both w0 b d b' r w) (now : Int) (hl : r.gaps.length ≤ 100000) :
    Calls Try.prog 21 #[.pointer (some ⟨b', 0, none⟩), .int .i64 now] w fun e w' => e = .returned (.tuple #[]) ∧ Both w0 b d b' (r.heard now) w' := by
  obtain ⟨row, row', h1, h2, h3⟩ := h
  exact (rheard_any b' row' r now w h2.has h2.ok hl).mono fun e w' ht => Both.rturn h1 h2 h3 (h2.ok.heard now) ht
theorem both_limit {w0 w : World} {b b' : Nat} {d : D} {r : R} (h : Both w0 b d b' r w) (v : Int) (hv : d.limit = v) :
    Calls Try.prog 12 #[.pointer (some ⟨b, 0, none⟩)] w (Tells (.int .i64 v) w) := by
  obtain ⟨row, row', h1, h2, h3⟩ := h
  subst hv
  exact limit_any b row d w h1.has h1.ok
theorem both_rlimit {w0 w : World} {b b' : Nat} {d : D} {r : R} (h : Both w0 b d b' r w) (hl : r.gaps.length ≤ 4000) (v : Int) (hv : r.limit = v) :
    Calls Try.prog 22 #[.pointer (some ⟨b', 0, none⟩)] w (Tells (.int .i64 v) w) := by
  obtain ⟨row, row', h1, h2, h3⟩ := h
  subst hv
  exact rlimit_any b' row' r w h2.has h2.ok hl
theorem both_late {w0 w : World} {b b' : Nat} {d : D} {r : R} (h : Both w0 b d b' r w) (now : Int) (v : Bool) (hv : d.late now = v) :
    Calls Try.prog 14 #[.pointer (some ⟨b, 0, none⟩), .int .i64 now] w (Tells (.bool v) w) := by
  obtain ⟨row, row', h1, h2, h3⟩ := h
  subst hv
  exact late_any b row d now w h1.has h1.ok
theorem both_rlate {w0 w : World} {b b' : Nat} {d : D} {r : R} (h : Both w0 b d b' r w) (hl : r.gaps.length ≤ 4000) (now : Int) (v : Bool) (hv : r.late now = v) :
    Calls Try.prog 23 #[.pointer (some ⟨b', 0, none⟩), .int .i64 now] w (Tells (.bool v) w) := by
  obtain ⟨row, row', h1, h2, h3⟩ := h
  subst hv
  exact rlate_any b' row' r now w h2.has h2.ok hl
theorem Both.rok {w0 w : World} {b b' : Nat} {d : D} {r : R} (h : Both w0 b d b' r w) : r.Ok := by obtain ⟨_, _, _, h2, _⟩ := h; exact h2.ok

theorem both_do {w0 w : World} {b b' : Nat} {d : D} {r : R} (h : Both w0 b d b' r w) (k now : Int) :
    Calls Try.prog 19 #[.agg #[.int .u8 k, .int .i64 now], .pointer (some ⟨b, 0, none⟩)] w fun e w' => e = .returned (.tuple #[]) ∧ Both w0 b (stepD d (k, now)) b' r w' := by
  have HX := Lib.hid (h.keep ((Keep.refl _ w).alloc (.cells #[.int .u8 k, .int .i64 now] 29)))
  clear h
  by_cases hk : k = 0
  · subst hk
    have HS := Lib.hid (stepD_zero d now)
    go_enter Try.func19, Try.ntmps19
    go_wp2_with fail
    refine (both_begin HX.out now).mono ?_
    rintro e w1 ⟨rfl, h4⟩
    have H4 := Lib.hid h4
    clear h4
    go_wp2
    go_end0
    exact ⟨rfl, by rw [HS.out]; exact H4.out⟩
  · have HS := Lib.hid (stepD_pos d k now hk)
    have hk0 : (k == 0) = false := by simpa using hk
    clear hk
    go_enter Try.func19, Try.ntmps19
    go_wp2_with fail
    refine (both_heard HX.out now).mono ?_
    rintro e w1 ⟨rfl, h4⟩
    have H4 := Lib.hid h4
    clear h4
    go_wp2
    go_end0
    exact ⟨rfl, by rw [HS.out]; exact H4.out⟩
theorem both_new {w0 w : World} {b : Nat} {row : Option Nat} {d : D} (h : St w0 w b row d) (mn mx wd : Int) (hm : MayNew mn mx wd) :
    Calls Try.prog 18 #[.int .i64 mn, .int .i64 mx, .int .i64 wd] w fun e w' => e = .returned (.tuple #[.pointer (some ⟨w.heap.size, 0, none⟩), .int .i64 0]) ∧ Both w0 b d w.heap.size ⟨mn, mx, wd, false, 0, []⟩ w' := by
  obtain ⟨h1, h2, h3, h4, h5⟩ := hm
  refine (rnew_ok mn mx wd w h1 h2 h3 h4 h5).mono fun e w' ⟨he, hw⟩ => ⟨he, row, none, ?_, ?_, (fun _ _ h => by cases h)⟩
  · subst hw
    exact ⟨h.old.alloc h.old.size _, h.has.keep ((Keep.refl (fun _ => False) w).alloc _) (fun h => h) (fun _ _ h => h), h.own, h.rown, h.ok⟩
  · subst hw
    exact ⟨⟨none, 0, 0, Blk.new _ _ _, SlK.nil_ _ _ _⟩, h.old.size, (fun _ h => by cases h), ⟨h1, h2, h3, h4, h5, by simp, by simp, by simp, by simp⟩⟩
/-- a step of the reference's -/
def stepR (r : R) (s : Int × Int) : R := if s.1 = 0 then r.begin_ s.2 else r.heard s.2
def playsR (r : R) (l : List (Int × Int)) : R := l.foldl stepR r
theorem playsR_succ (r : R) (l : List (Int × Int)) (k : Nat) (h : k < l.length) : playsR r (l.take (k + 1)) = stepR (playsR r (l.take k)) (l.getD k (0, 0)) := by
  unfold playsR
  rw [List.take_succ_eq_append_getElem h, List.foldl_append]
  simp [List.getD, h]
theorem stepR_ok {r : R} (h : r.Ok) (s : Int × Int) : (stepR r s).Ok := by
  unfold stepR
  split
  · exact h.begin_ _
  · exact h.heard _
theorem sim_step {d : D} {r : R} (h : Sim d r) (ok : r.Ok) (s : Int × Int) : Sim (stepD d s) (stepR r s) := by
  unfold stepD stepR
  split
  · exact h.begin_ ok _
  · exact h.heard ok _
theorem stepR_len (r : R) (s : Int × Int) : (stepR r s).gaps.length ≤ r.gaps.length + 1 := by
  unfold stepR
  split
  · rw [R.begin_len]; omega
  · exact R.heard_len r _
theorem plays_both (mn mx wd : Int) (hm : MayNew mn mx wd) (l : List (Int × Int)) : Sim (plays (newD mn mx wd) l) (playsR ⟨mn, mx, wd, false, 0, []⟩ l) ∧ (playsR ⟨mn, mx, wd, false, 0, []⟩ l).Ok ∧ (playsR ⟨mn, mx, wd, false, 0, []⟩ l).gaps.length ≤ l.length := by
  obtain ⟨h1, h2, h3, h4, h5⟩ := hm
  have : ∀ (l : List (Int × Int)) (d : D) (r : R), Sim d r → r.Ok → Sim (plays d l) (playsR r l) ∧ (playsR r l).Ok ∧ (playsR r l).gaps.length ≤ r.gaps.length + l.length := by
    intro l
    induction l with
    | nil => intro d r h ok; exact ⟨h, ok, by simp [playsR]⟩
    | cons s l ih =>
      intro d r h ok
      have := ih _ _ (sim_step h ok s) (stepR_ok ok s)
      have hl := stepR_len r s
      simp only [plays, playsR, List.foldl_cons, List.length_cons] at *
      exact ⟨this.1, this.2.1, by omega⟩
  have := this l (newD mn mx wd) ⟨mn, mx, wd, false, 0, []⟩ ⟨rfl, rfl, rfl, by simp [newD], by simp [newD]⟩ ⟨h1, h2, h3, h4, h5, by simp, by simp, by simp, by simp⟩
  simpa using this

/-- ints that came in -/
def Ints (w0 : World) (A : Option Addr) (n : Nat) (l : List Int) : Prop :=
  l.length = n ∧ ∀ k, k < n → ∃ g off, A = some ⟨g, off, none⟩ ∧ g < w0.heap.size ∧ w0.cell? ⟨g, off + k, none⟩ = some (.int .i64 (l.getD k 0))
def IsInts (w : World) (v : Value) : Prop := ∃ A n c l, v = .slice A n c ∧ n ≤ c ∧ c ≤ maxLen ∧ Ints w A n l
theorem open_intsl {H : Type} {enc : TypeId × Value → H} {W : World} {base : Nat} {v : Value} {d : DataW H} {p : List MemPlace} {b : Bool} {spare : Nat → Bool}
    (hv : Value.okWide Try.prog W .any base 38 v) (h : DataW.Trod enc Try.prog W 0 spare b 38 v d p) : IsInts W v := by
  obtain ⟨A, len, cap, rfl⟩ := okWide_slice Try.underlying38 hv
  obtain ⟨fuel, hf⟩ := h
  rcases ChangeShapes.open_ints Try.underlying38 Try.underlying3 Try.cells3 hf with ⟨hcs, _⟩ | ⟨a, len', cap', zs, hcs, _, hl, hm, hzl, _, hz, _⟩
  · simp [Value.cells] at hcs
    obtain ⟨rfl, rfl, rfl⟩ := hcs
    exact ⟨none, 0, 0, [], rfl, Nat.le_refl _, by simp [maxLen], rfl, fun k hk => by omega⟩
  · simp [Value.cells] at hcs
    obtain ⟨rfl, rfl, rfl⟩ := hcs
    have hlm : len ≤ zs.length := by rw [hzl]; split <;> omega
    refine ⟨some a, len, cap, zs.take len, rfl, hl, hm, by simp; omega, fun k hk => ?_⟩
    have h1 := hz k (by omega)
    obtain ⟨g, off, spot⟩ := a
    have hspot : spot = none := by
      have := World.cell?_spot (hz 0 (by omega))
      simpa [Addr.add] using this
    subst hspot
    have hlt := World.block_lt_of_cell? W _ h1
    rw [Addr.add_lit] at h1 hlt
    refine ⟨g, off, rfl, hlt, ?_⟩
    rw [h1]
    have : k < zs.length := by omega
    simp [List.getD, this, hk]
end Go.Proofs.Ytmlgaikabnbghaa
