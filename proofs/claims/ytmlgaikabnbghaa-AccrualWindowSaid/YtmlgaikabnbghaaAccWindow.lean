/-
  AccrualWindow: the plain law, and the walk.
-/
import Derived.Test.YtmlgaikabnbghaaAccF
namespace Go.Proofs.Ytmlgaikabnbghaa
open Go.RowKit Go.WideShapes

/-- the slice of ints that came in -/
def Ints (w0 : World) (A : Option Addr) (n : Nat) (l : List Int) : Prop :=
  l.length = n ∧ ∀ k, k < n → ∃ g off, A = some ⟨g, off, none⟩ ∧ g < w0.heap.size ∧ w0.cell? ⟨g, off + k, none⟩ = some (.int .i64 (l.getD k 0))
def IsInts (w : World) (v : Value) : Prop := ∃ A n c l, v = .slice A n c ∧ n ≤ c ∧ c ≤ maxLen ∧ Ints w A n l
theorem open_intsp {H : Type} {enc : TypeId × Value → H} {W : World} {base : Nat} {v : Value} {d : DataW H} {p : List MemPlace} {b : Bool} {spare : Nat → Bool}
    (hv : Value.okWide Try.prog W .any base 38 v) (h : DataW.Trod enc Try.prog W 0 spare b 38 v d p) : IsInts W v := by
  obtain ⟨A, len, cap, rfl⟩ := okWide_slice Try.underlying38 hv
  obtain ⟨fuel, hf⟩ := h
  rcases Deep.open_slice1 Try.underlying38 Try.cells3 hf with ⟨hcs, _⟩ | ⟨a, len', cap', m, n, V, D, P, hcs, _, hl, hm, hmm, _, hx⟩
  · simp [Value.cells] at hcs
    obtain ⟨rfl, rfl, rfl⟩ := hcs
    exact ⟨none, 0, 0, [], rfl, Nat.le_refl _, by simp [maxLen], rfl, fun k hk => by omega⟩
  · simp [Value.cells] at hcs
    obtain ⟨rfl, rfl, rfl⟩ := hcs
    have hlm : len ≤ m := by rw [hmm]; split <;> omega
    have each : ∀ k, k < len → ∃ x : Int, W.cell? (a.add k) = some (.int .i64 x) := by
      intro k hk
      obtain ⟨h1, h2⟩ := hx k (by omega)
      obtain ⟨x, e0, _, _⟩ := DataW.trod_int Try.underlying3 h2
      simp at e0
      exact ⟨x, by rw [h1, e0]⟩
    obtain ⟨S, hS⟩ := Deep.choose_lt (α := Int) each
    refine ⟨some a, len, cap, (List.range len).map S, rfl, hl, hm, by simp, fun k hk => ?_⟩
    have h1 := hS k hk
    obtain ⟨g, off, spot⟩ := a
    have hspot : spot = none := by
      have := World.cell?_spot (hS 0 (by omega))
      simpa [Addr.add] using this
    subst hspot
    have hlt := World.block_lt_of_cell? W _ h1
    rw [Addr.add_lit] at h1 hlt
    refine ⟨g, off, rfl, hlt, ?_⟩
    rw [h1]; simp [List.getD, hk]

/-! The plain law -/
def lastN (w : Nat) (l : List Int) : List Int := l.drop (l.length - w)
theorem lastN_push (w : Nat) (x : List Int) (g : Int) : lastN w (lastN w x ++ [g]) = lastN w (x ++ [g]) := by
  unfold lastN
  have h1 : x.drop (x.length - w) ++ [g] = (x ++ [g]).drop (x.length - w) := by rw [List.drop_append_of_le_length (by omega)]
  rw [h1, List.drop_drop]
  congr 1
  simp only [List.length_drop, List.length_append, List.length_singleton]
  omega
theorem lastN_all (w : Nat) (x gs : List Int) (h : w ≤ gs.length) : lastN w (x ++ gs) = lastN w gs := by
  unfold lastN
  rw [List.length_append, show x.length + gs.length - w = x.length + (gs.length - w) by omega, List.drop_length_add_append]
theorem lastN_short (w : Nat) (x : List Int) (h : x.length ≤ w) : lastN w x = x := by
  unfold lastN
  rw [show x.length - w = 0 by omega]; rfl
def after (d : D) (gs : List Int) : D := { d with last := d.last + gs.sum, gaps := lastN d.wd.toNat (d.gaps ++ gs) }
theorem sum_nonneg (l : List Int) (h : ∀ g ∈ l, 0 ≤ g ∧ g < 5000) : 0 ≤ l.sum ∧ l.sum ≤ 5000 * l.length := by
  have := sum_bd l 5000 (fun g hg => by have := h g hg; omega)
  exact this
theorem after_zero (d : D) (h : d.Ok) : after d [] = d := by
  unfold after
  rw [List.append_nil, lastN_short _ _ (by have := h.len; have := h.wd1; omega)]
  simp
theorem after_succ (d : D) (gs : List Int) (g : Int) (h0 : 0 ≤ d.last) (h1 : 0 ≤ gs.sum) (hg : 0 ≤ g) (hs : d.last + gs.sum + g ≤ 1099511627776) :
    (after d gs).heard (d.last + gs.sum + g) = after d (gs ++ [g]) := by
  have ha : atv (d.last + gs.sum) (d.last + gs.sum + g) = d.last + gs.sum + g := by unfold atv wi; omega
  unfold D.heard
  simp only [after, ha]
  have hne : ¬ (d.last + gs.sum = -1) := by omega
  rw [if_neg hne]
  congr 1
  · simp only [List.sum_append, List.sum_cons, List.sum_nil]; omega
  · unfold D.push
    simp only
    have e : d.last + gs.sum + g - (d.last + gs.sum) = g := by omega
    rw [e, ← List.append_assoc, ← lastN_push]
    generalize lastN d.wd.toNat (d.gaps ++ gs) = y
    unfold lastN
    simp
theorem late_at (d : D) (t : Int) (h0 : 0 ≤ d.last) (ht : 0 ≤ t) (hs : d.last + t ≤ 1099511627776) : d.late (d.last + t) = decide (d.limit < t) := by
  unfold D.late
  have hne : ¬ d.last = -1 := by omega
  rw [if_neg hne]
  have hb : atv d.last (d.last + t) - d.last = t := by unfold atv wi; omega
  rw [hb]
def topM (l : List (Int × Int)) : Int := l.foldl (fun m s => max m (min s.2 1000000)) 0
theorem topM_succ (l : List (Int × Int)) (k : Nat) (h : k < l.length) : topM (l.take (k + 1)) = max (topM (l.take k)) (min (l.getD k (0, 0)).2 1000000) := by
  unfold topM
  rw [List.take_succ_eq_append_getElem h, List.foldl_append]
  simp [List.getD, h]
theorem foldl_topM (l : List (Int × Int)) : ∀ m : Int, 0 ≤ m → m ≤ 1000000 → m ≤ l.foldl (fun m s => max m (min s.2 1000000)) m ∧ l.foldl (fun m s => max m (min s.2 1000000)) m ≤ 1000000 := by
  induction l with
  | nil => intro m h1 h2; exact ⟨Int.le_refl _, h2⟩
  | cons s t ih =>
    intro m h1 h2
    have := ih (max m (min s.2 1000000)) (by omega) (by omega)
    exact ⟨by simp only [List.foldl_cons]; omega, by simp only [List.foldl_cons]; omega⟩
theorem topM_bd (l : List (Int × Int)) : 0 ≤ topM l ∧ topM l ≤ 1000000 := foldl_topM l 0 (by decide) (by decide)
theorem plays_lastM (l : List (Int × Int)) : ∀ (d : D) (m : Int), (∀ s ∈ l, s.2 ≤ 1000000) → 0 ≤ m → m ≤ 1000000 → d.last ≤ m → (plays d l).last ≤ l.foldl (fun m s => max m (min s.2 1000000)) m := by
  induction l with
  | nil => intro d m _ _ _ h; exact h
  | cons s t ih =>
    intro d m hs h1 h2 h
    have hs0 := hs s (by simp)
    refine ih (stepD d s) (max m (min s.2 1000000)) (fun x hx => hs x (by simp [hx])) (by omega) (by omega) ?_
    unfold stepD D.begin_ D.heard atv wi
    split
    · split
      · simp only; omega
      · omega
    · simp only; omega
/-- What the law comes to, of the two detectors behind all. -/
theorem window_eq {d c : D} (hd : d.Ok) (hc : c.Ok) (h1 : c.mn = d.mn) (h2 : c.mx = d.mx) (h3 : c.wd = d.wd) (N : Int) (hdl : d.last ≤ N) (hcl : c.last ≤ N) (hN0 : 0 ≤ N) (hN : N ≤ 1099511627776) (gs : List Int) (hl : d.wd ≤ gs.length) :
    after (c.heard N) gs = after (d.heard N) gs := by
  have hdL : (d.heard N).last = N := by unfold D.heard atv wi; simp only; omega
  have hcL : (c.heard N).last = N := by unfold D.heard atv wi; simp only; omega
  unfold after
  rw [hdL, hcL, lastN_all _ _ _ (by have h := hc.wd1; simp only [D.heard]; omega), lastN_all _ _ _ (by have h := hd.wd1; simp only [D.heard]; omega)]
  simp only [D.heard, h1, h2, h3]

def gmod (x : Int) : Int := IntKind.i64.wrap ((IntKind.u64.wrap x).tmod 5000)
theorem gmod_bd (x : Int) : 0 ≤ gmod x ∧ gmod x < 5000 := by
  obtain ⟨g, h1, h2⟩ := mod_u64 x 5000 (by decide) (by decide)
  unfold gmod
  rw [h2]
  omega

set_option maxHeartbeats 1000000 in
theorem run_nil (mn mx wd : Int) (w : World) (h : MayNew mn mx wd) :
    Calls Try.prog 11 #[.int .i64 mn, .int .i64 mx, .int .i64 wd, .slice none 0 0] w fun e w' => e = .returned (.tuple #[.pointer (some ⟨w.heap.size, 0, none⟩), .bool true]) ∧
      w' = w.alloc (.cells #[.int .i64 mn, .int .i64 mx, .int .i64 wd, .int .i64 (-1), .slice none 0 0] 49) := by
  obtain ⟨h1, h2, h3, h4, h5⟩ := h
  go_enter Try.func11, Try.ntmps11
  go_wp2_with fail
  refine (new_ok mn mx wd _ h1 h2 h3 h4 h5).mono ?_
  rintro e w1 ⟨rfl, rfl⟩
  go_wp2
  refine wp_loop_rounds 1 ?_
  rw [rounds_succ]
  go_wp2
  all_goals
    go_ret2
    exact ⟨rfl, rfl⟩
theorem newD_ok {mn mx wd : Int} (h : MayNew mn mx wd) : (newD mn mx wd).Ok := by
  obtain ⟨h1, h2, h3, h4, h5⟩ := h
  exact ⟨h1, h2, h3, h4, h5, by simp [newD], by simp [newD], by simp [newD], by simp [newD]; omega⟩
theorem now2_run_nil {w0 w : World} {b : Nat} {d : D} (hN : Now w0 b d w) (mn mx wd : Int) (h : MayNew mn mx wd) :
    Calls Try.prog 11 #[.int .i64 mn, .int .i64 mx, .int .i64 wd, .slice none 0 0] w fun e w' => ∃ b', e = .returned (.tuple #[.pointer (some ⟨b', 0, none⟩), .bool true]) ∧ Now2 w0 b d b' (newD mn mx wd) w' := by
  refine (run_nil mn mx wd w h).mono ?_
  rintro e w' ⟨rfl, rfl⟩
  exact ⟨_, rfl, Now2.make (row' := none) hN ((Keep.refl (fun _ => False) w).alloc _) ⟨none, 0, 0, Blk.new _ _ _, by simpa [newD] using Sl.nil_ _ _⟩ (newD_ok h) (Nat.le_refl _) (fun g hg => by cases hg)⟩
end Go.Proofs.Ytmlgaikabnbghaa
