/-
  A detector that the law itself made: what each method does to it, told once ('St'); Step.do; the examples ('works').
-/
import Derived.Test.YtmlgaikabnbghaaAccC
namespace Go.Proofs.Ytmlgaikabnbghaa
open Go.RowKit

/-- The law began in w0; now, in w, a detector d of its own lies in block b; nothing of old has turned. -/
structure St (w0 w : World) (b : Nat) (row : Option Nat) (d : D) : Prop where
  old : Below w0.heap.size w0 w
  has : Has w b row d
  own : w0.heap.size ≤ b
  rown : ∀ g, row = some g → w0.heap.size ≤ g
  ok : d.Ok

/-- d lies in b in the end. -/
def Now (w0 : World) (b : Nat) (d : D) (w : World) : Prop := ∃ row, St w0 w b row d
theorem Now.ok {w0 w : World} {b : Nat} {d : D} (h : Now w0 b d w) : d.Ok := by obtain ⟨_, h⟩ := h; exact h.ok
theorem Now.old {w0 w : World} {b : Nat} {d : D} (h : Now w0 b d w) : Below w0.heap.size w0 w := by obtain ⟨_, h⟩ := h; exact h.old
theorem Now.keep {w0 w w' : World} {b : Nat} {d : D} (h : Now w0 b d w) {S : Nat → Prop} (hk : Keep S w w') (hS : ∀ k, S k → False) : Now w0 b d w' := by
  obtain ⟨row, h⟩ := h
  obtain ⟨A, n, c, hb, hs⟩ := h.has
  exact ⟨row, h.old.trans (hk.below h.old.size fun k hk => (hS k hk).elim), ⟨A, n, c, hb.keep hk (hS _), hs.keep hk fun g _ => hS g⟩, h.own, h.rown, h.ok⟩
theorem Now.drewN {w0 w : World} {b : Nat} {d : D} (h : Now w0 b d w) (k : Nat) : Now w0 b d (w.drewN k) := h.keep (S := fun _ => False) ((Keep.refl _ w).drewN k) (fun _ h => h)
theorem Now.alloc {w0 w : World} {b : Nat} {d : D} (h : Now w0 b d w) (o : Obj) : Now w0 b d (w.alloc o) := h.keep (S := fun _ => False) ((Keep.refl _ w).alloc o) (fun _ h => h)

theorem St.turn {w0 w : World} {b : Nat} {row : Option Nat} {d d' : D} (h : St w0 w b row d) (ok : d'.Ok) {e : Ending} {w' : World} (ht : Turns b row d' w e w') : e = .returned (.tuple #[]) ∧ Now w0 b d' w' := by
  obtain ⟨he, row', hh, hk, hr⟩ := ht
  refine ⟨he, row', h.old.trans (hk.below h.old.size ?_), hh, h.own, ?_, ok⟩
  · rintro k (rfl | hk)
    · exact h.own
    · exact h.rown k hk
  · rintro g rfl
    rcases hr with hr | ⟨g', hg, hle⟩
    · exact h.rown g hr.symm
    · injection hg with hg; subst hg; have := h.old.size; omega

theorem now_begin {w0 w : World} {b : Nat} {d : D} (h : Now w0 b d w) (now : Int) :
    Calls Try.prog 16 #[.pointer (some ⟨b, 0, none⟩), .int .i64 now] w fun e w' => e = .returned (.tuple #[]) ∧ Now w0 b (d.begin_ now) w' := by
  obtain ⟨row, h⟩ := h
  exact (begin_any b row d now w h.has).mono fun e w' ht => h.turn (h.ok.begin_ now) ht
theorem now_heard {w0 w : World} {b : Nat} {d : D} (h : Now w0 b d w) (now : Int) :
    Calls Try.prog 13 #[.pointer (some ⟨b, 0, none⟩), .int .i64 now] w fun e w' => e = .returned (.tuple #[]) ∧ Now w0 b (d.heard now) w' := by
  obtain ⟨row, h⟩ := h
  exact (heard_any b row d now w h.has h.ok).mono fun e w' ht => h.turn (h.ok.heard now) ht
theorem now_limit {w0 w : World} {b : Nat} {d : D} (h : Now w0 b d w) (v : Int) (hv : d.limit = v) :
    Calls Try.prog 12 #[.pointer (some ⟨b, 0, none⟩)] w fun e w' => e = .returned (.int .i64 v) ∧ Now w0 b d w' := by
  have hN := h
  obtain ⟨row, h⟩ := h
  subst hv
  exact (limit_any b row d w h.has h.ok).mono fun e w' ⟨he, k, hk⟩ => ⟨he, by subst hk; exact hN.drewN k⟩
theorem now_late {w0 w : World} {b : Nat} {d : D} (h : Now w0 b d w) (now : Int) (v : Bool) (hv : d.late now = v) :
    Calls Try.prog 14 #[.pointer (some ⟨b, 0, none⟩), .int .i64 now] w fun e w' => e = .returned (.bool v) ∧ Now w0 b d w' := by
  have hN := h
  obtain ⟨row, h⟩ := h
  subst hv
  exact (late_any b row d now w h.has h.ok).mono fun e w' ⟨he, k, hk⟩ => ⟨he, by subst hk; exact hN.drewN k⟩

/-- New, with bounds that may be. -/
def newD (mn mx wd : Int) : D := ⟨mn, mx, wd, -1, []⟩
def MayNew (mn mx wd : Int) : Prop := 1 ≤ mn ∧ mn ≤ mx ∧ mx ≤ 4096 ∧ 1 ≤ wd ∧ wd ≤ 4096
theorem now_new {w0 w : World} (h0 : Below w0.heap.size w0 w) (mn mx wd : Int) (h : MayNew mn mx wd) :
    Calls Try.prog 15 #[.int .i64 mn, .int .i64 mx, .int .i64 wd] w fun e w' => e = .returned (.tuple #[.pointer (some ⟨w.heap.size, 0, none⟩), .int .i64 0]) ∧ Now w0 w.heap.size (newD mn mx wd) w' := by
  obtain ⟨h1, h2, h3, h4, h5⟩ := h
  refine (new_ok mn mx wd w h1 h2 h3 h4 h5).mono fun e w' ⟨he, hw⟩ => ⟨he, none, ?_⟩
  subst hw
  exact ⟨h0.alloc h0.size _, ⟨none, 0, 0, Blk.new _ _ _, by simpa [newD] using Sl.nil_ _ _⟩, h0.size, (fun g hg => by cases hg),
    ⟨h1, h2, h3, h4, h5, by simp [newD], by simp [newD], by simp [newD], by simp [newD]; omega⟩⟩

def dA : D := newD 3 10 2
def dB : D := dA.begin_ 5
def dC : D := dB.heard 6
def dD : D := dC.heard 8
def dE : D := dD.heard 11

set_option maxHeartbeats 1000000 in
/-- The examples are as they are told; the call makes memory of its own alone. -/
theorem works_any (w : World) : Calls Try.prog 10 #[] w fun e w' => e = .returned (.bool true) ∧ Below w.heap.size w w' := by
  go_enter Try.func10, Try.ntmps10
  go_wp2_with fail
  refine (now_new (Below.refl _ w) 3 10 2 (by unfold MayNew; decide)).mono ?_; rintro e w1 ⟨rfl, h1⟩
  go_wp2_with fail
  refine (now_late h1 99 false (by decide)).mono ?_; clear h1; rintro e w2 ⟨rfl, h2⟩
  go_wp2_with fail
  refine (now_begin h2 5).mono ?_; clear h2; rintro e w1 ⟨rfl, h1⟩
  go_wp2_with fail
  refine (now_late h1 15 false (by decide)).mono ?_; clear h1; rintro e w2 ⟨rfl, h2⟩
  go_wp2_with fail
  refine (now_late h2 16 true (by decide)).mono ?_; clear h2; rintro e w1 ⟨rfl, h1⟩
  go_wp2_with fail
  refine (now_limit h1 10 (by decide)).mono ?_; clear h1; rintro e w2 ⟨rfl, h2⟩
  go_wp2_with fail
  refine (now_heard h2 6).mono ?_; clear h2; rintro e w1 ⟨rfl, h1⟩
  go_wp2_with fail
  refine (now_heard h1 8).mono ?_; clear h1; rintro e w2 ⟨rfl, h2⟩
  go_wp2_with fail
  refine (now_heard h2 11).mono ?_; clear h2; rintro e w1 ⟨rfl, h1⟩
  go_wp2_with fail
  refine (now_limit h1 5 (by decide)).mono ?_; clear h1; rintro e w2 ⟨rfl, h2⟩
  go_wp2_with fail
  refine (now_late h2 16 false (by decide)).mono ?_; clear h2; rintro e w1 ⟨rfl, h1⟩
  go_wp2_with fail
  refine (now_late h1 17 true (by decide)).mono ?_; clear h1; rintro e w2 ⟨rfl, h2⟩
  go_wp2
  go_ret
  exact ⟨rfl, h2.old⟩

/-- a step: kind, now -/
def stepD (d : D) (s : Int × Int) : D := if s.1 = 0 then d.begin_ s.2 else d.heard s.2
theorem stepD_zero (d : D) (n : Int) : stepD d (0, n) = d.begin_ n := by simp [stepD]
theorem stepD_pos (d : D) (k n : Int) (h : ¬ k = 0) : stepD d (k, n) = d.heard n := by simp [stepD, h]
theorem stepD_ok {d : D} (h : d.Ok) (s : Int × Int) : (stepD d s).Ok := by
  unfold stepD
  split
  · exact h.begin_ _
  · exact h.heard _

theorem do_begin {w0 w : World} {b : Nat} {d : D} (h : Now w0 b d w) (now : Int) :
    Calls Try.prog 19 #[.agg #[.int .u8 0, .int .i64 now], .pointer (some ⟨b, 0, none⟩)] w fun e w' => e = .returned (.tuple #[]) ∧ Now w0 b (stepD d (0, now)) w' := by
  have H := Lib.hid (stepD_zero d now)
  go_enter Try.func19, Try.ntmps19
  go_wp2_with fail
  refine (now_begin (h.alloc _) now).mono ?_
  rintro e w1 ⟨rfl, h1⟩
  go_wp2
  go_end0
  exact ⟨rfl, by rw [H.out]; exact h1⟩
theorem do_heard {w0 w : World} {b : Nat} {d : D} (h : Now w0 b d w) (k now : Int) (hk : ¬ k = 0) :
    Calls Try.prog 19 #[.agg #[.int .u8 k, .int .i64 now], .pointer (some ⟨b, 0, none⟩)] w fun e w' => e = .returned (.tuple #[]) ∧ Now w0 b (stepD d (k, now)) w' := by
  have H := Lib.hid (stepD_pos d k now hk)
  have hk0 : (k == 0) = false := by simpa using hk
  clear hk
  go_enter Try.func19, Try.ntmps19
  go_wp2_with fail
  refine (now_heard (h.alloc _) now).mono ?_
  rintro e w1 ⟨rfl, h1⟩
  go_wp2
  go_end0
  exact ⟨rfl, by rw [H.out]; exact h1⟩
theorem do_any {w0 w : World} {b : Nat} {d : D} (h : Now w0 b d w) (k now : Int) :
    Calls Try.prog 19 #[.agg #[.int .u8 k, .int .i64 now], .pointer (some ⟨b, 0, none⟩)] w fun e w' => e = .returned (.tuple #[]) ∧ Now w0 b (stepD d (k, now)) w' := by
  by_cases hk : k = 0
  · subst hk; exact do_begin h now
  · exact do_heard h k now hk

/-- The slice of steps that came in, in the world w0. -/
def Steps (w0 : World) (A : Option Addr) (n : Nat) (l : List (Int × Int)) : Prop :=
  l.length = n ∧ ∀ k, k < n → ∃ g off, A = some ⟨g, off, none⟩ ∧ g < w0.heap.size ∧
    w0.cell? ⟨g, off + k * 2, none⟩ = some (.int .u8 (l.getD k (0, 0)).1) ∧ w0.cell? ⟨g, off + k * 2 + 1, none⟩ = some (.int .i64 (l.getD k (0, 0)).2)
def plays (d : D) (l : List (Int × Int)) : D := l.foldl stepD d
theorem plays_succ (d : D) (l : List (Int × Int)) (k : Nat) (h : k < l.length) : plays d (l.take (k + 1)) = stepD (plays d (l.take k)) (l.getD k (0, 0)) := by
  unfold plays
  rw [List.take_succ_eq_append_getElem h, List.foldl_append]
  simp [List.getD, h]

set_option maxHeartbeats 1000000 in
theorem run_bad (A : Option Addr) (n c : Nat) (mn mx wd : Int) (w : World) (h : ¬ MayNew mn mx wd) :
    Calls Try.prog 11 #[.int .i64 mn, .int .i64 mx, .int .i64 wd, .slice A n c] w fun e w' => e = .returned (.tuple #[.pointer none, .bool false]) ∧ w = w' := by
  go_enter Try.func11, Try.ntmps11
  go_wp2_with fail
  refine (new_bad mn mx wd _ h).mono ?_
  rintro e w1 ⟨rfl, rfl⟩
  go_wp2
  refine wp_loop_rounds 1 ?_
  rw [rounds_succ]
  go_wp2
  all_goals
    go_ret2
    exact ⟨rfl, rfl⟩

set_option maxHeartbeats 1000000 in
theorem run_good {w0 w : World} (h0 : Below w0.heap.size w0 w) (A : Option Addr) (n c : Nat) (l : List (Int × Int)) (hl : Steps w0 A n l) (hn : n ≤ 1000) (mn mx wd : Int) (h : MayNew mn mx wd) (b : Nat) (hb : b = w.heap.size) :
    Calls Try.prog 11 #[.int .i64 mn, .int .i64 mx, .int .i64 wd, .slice A n c] w fun e w' => e = .returned (.tuple #[.pointer (some ⟨b, 0, none⟩), .bool true]) ∧ Now w0 b (plays (newD mn mx wd) l) w' := by
  have HL := Lib.hid hl
  clear hl
  have HB := Lib.hid hb
  clear hb
  go_enter Try.func11, Try.ntmps11
  go_wp2_with fail
  refine (now_new h0 mn mx wd h).mono ?_
  rw [← HB.out]
  rintro e w1 ⟨rfl, h1⟩
  go_wp2
  go_loopw [12] (fun i wr => ∃ k : Nat, k ≤ n ∧ i = .int .i64 k ∧ Now w0 b (plays (newD mn mx wd) (l.take k)) wr) (fun i _ => n - (intOf i).toNat)
  case atStart => exact ⟨0, Nat.zero_le _, rfl, by simpa [plays] using h1⟩
  case round =>
    obtain ⟨k, hk, rfl, hN⟩ := hrel
    by_cases hlt : k < n
    · obtain ⟨g, off, rfl, hg, hc1, hc2⟩ := HL.out.2 k hlt
      have ho := hN.old
      have hd1 := (ho.cell (p := ⟨g, off + k * 2, none⟩) hg).trans hc1
      have hd2 := (ho.cell (p := ⟨g, off + k * 2 + 1, none⟩) hg).trans hc2
      have HP := Lib.hid (plays_succ (newD mn mx wd) l k (by rw [HL.out.1]; exact hlt))
      generalize l.getD k (0, 0) = s at HP hd1 hd2
      obtain ⟨s1, s2⟩ := s
      clear hc1 hc2 ho h1
      simp only at hd1 hd2
      go_wp2_with fail
      refine (do_any hN s1 s2).mono ?_
      clear hN
      rintro e w2 ⟨rfl, h2⟩
      go_wp2
      go_roundw
      case rel => exact ⟨k + 1, by omega, by go_num, by rw [HP.out]; exact h2⟩
      case measure => simp [intOf]; omega
    · obtain rfl : k = n := by omega
      have hfull : l.take k = l := List.take_of_length_le (by rw [HL.out.1]; exact Nat.le_refl _)
      rw [hfull] at hN
      clear hfull
      go_wp2
      go_ret2
      exact ⟨rfl, hN⟩
end Go.Proofs.Ytmlgaikabnbghaa
