/-
  The plain model of the reference's detector (coveyref15), and that it stands for the program's.
-/
import Derived.Test.YtenphdgnaknbeaaAccP
namespace Go.Proofs.Ytenphdgnaknbeaa

structure R where
  mn : Int
  mx : Int
  wd : Int
  yes : Bool
  last : Int
  gaps : List Int
def clampT (now : Int) : Int := if now < 0 then 0 else if 1099511627776 < now then 1099511627776 else now
def ratT (yes : Bool) (last now : Int) : Int := if yes = true ∧ clampT now < last then last else clampT now
namespace R
def fromT (r : R) : Nat := r.gaps.length - r.wd.toNat
def begin_ (r : R) (now : Int) : R := if r.yes then r else { r with last := ratT r.yes r.last now, yes := true }
def heard (r : R) (now : Int) : R := { r with last := ratT r.yes r.last now, yes := true, gaps := if r.yes then r.gaps ++ [ratT r.yes r.last now - r.last] else r.gaps }
def twice (s n : Int) : Int := if 2 * s % n = 0 then 2 * s / n else 2 * s / n + 1
def limit (r : R) : Int :=
  if r.gaps.length - r.fromT = 0 then r.mx else
    if twice (r.gaps.drop r.fromT).sum ((r.gaps.length - r.fromT : Nat) : Int) < r.mn then r.mn else if r.mx < twice (r.gaps.drop r.fromT).sum ((r.gaps.length - r.fromT : Nat) : Int) then r.mx else twice (r.gaps.drop r.fromT).sum ((r.gaps.length - r.fromT : Nat) : Int)
def late (r : R) (now : Int) : Bool := r.yes && decide (r.limit < ratT r.yes r.last now - r.last)
structure Ok (r : R) : Prop where
  mn1 : 1 ≤ r.mn
  mx1 : r.mn ≤ r.mx
  mx2 : r.mx ≤ 4096
  wd1 : 1 ≤ r.wd
  wd2 : r.wd ≤ 4096
  last1 : 0 ≤ r.last
  last2 : r.last ≤ 1099511627776
  gap : ∀ g ∈ r.gaps, 0 ≤ g ∧ g ≤ 1099511627776
  none : r.yes = false → r.gaps = [] ∧ r.last = 0
end R
theorem ratT_bd {yes : Bool} {last : Int} (now : Int) (h1 : 0 ≤ last) (h2 : last ≤ 1099511627776) : 0 ≤ ratT yes last now ∧ ratT yes last now ≤ 1099511627776 ∧ (yes = true → last ≤ ratT yes last now) := by
  unfold ratT clampT
  split <;> (repeat' split) <;> (refine ⟨?_, ?_, ?_⟩) <;> (try intro h) <;> simp_all <;> omega
theorem R.Ok.begin_ {r : R} (h : r.Ok) (now : Int) : (r.begin_ now).Ok := by
  unfold R.begin_
  cases hy : r.yes
  · have hb := ratT_bd (yes := false) now h.last1 h.last2
    exact { h with last1 := hb.1, last2 := hb.2.1, none := fun e => by simp at e }
  · simpa [hy] using h
theorem R.Ok.heard {r : R} (h : r.Ok) (now : Int) : (r.heard now).Ok := by
  unfold R.heard
  have hb := ratT_bd (yes := r.yes) now h.last1 h.last2
  refine { h with last1 := hb.1, last2 := hb.2.1, none := fun e => by simp at e, gap := ?_ }
  intro g hg
  cases hy : r.yes
  · simp only [hy] at hg; exact h.gap g (by simpa using hg)
  · simp only [hy, if_true] at hg
    rcases List.mem_append.1 hg with hg | hg
    · exact h.gap g hg
    · simp only [List.mem_singleton] at hg
      rw [hy] at hb
      have := hb.2.2 rfl
      have := h.last1
      omega
theorem R.heard_len (r : R) (now : Int) : (r.heard now).gaps.length ≤ r.gaps.length + 1 := by
  unfold R.heard
  split <;> simp
theorem R.begin_len (r : R) (now : Int) : (r.begin_ now).gaps.length = r.gaps.length := by
  unfold R.begin_
  split <;> simp

/-- d is what the reference's detector r stands for -/
structure Sim (d : D) (r : R) : Prop where
  mn : d.mn = r.mn
  mx : d.mx = r.mx
  wd : d.wd = r.wd
  last : d.last = if r.yes then r.last else -1
  gaps : d.gaps = r.gaps.drop r.fromT
theorem rat_atv {yes : Bool} {last : Int} (now : Int) (h1 : 0 ≤ last) : atv (if yes then last else -1) now = ratT yes last now := by
  unfold atv wi ratT clampT
  cases yes <;> simp <;> (repeat' split) <;> omega
theorem Sim.begin_ {d : D} {r : R} (h : Sim d r) (ok : r.Ok) (now : Int) : Sim (d.begin_ now) (r.begin_ now) := by
  have hl := h.last
  have hr := ok.last1
  unfold D.begin_ R.begin_
  cases hy : r.yes
  · rw [hy] at hl
    have e : d.last = -1 := by simpa using hl
    rw [if_pos e]
    have := rat_atv (yes := false) (last := r.last) now hr
    refine ⟨h.mn, h.mx, h.wd, ?_, h.gaps⟩
    rw [e]
    simpa using this
  · rw [hy] at hl
    have e : ¬ d.last = -1 := by simp at hl; omega
    rw [if_neg e]
    simpa using h
theorem drop_push (l : List Int) (x : Int) (k : Nat) (hk : 1 ≤ k) : ((l.drop (l.length - k)) ++ [x]).drop ((l.drop (l.length - k)).length + 1 - k) = (l ++ [x]).drop ((l ++ [x]).length - k) := by
  simp only [List.length_drop, List.length_append, List.length_singleton]
  have h0 : l.drop (l.length - k) ++ [x] = (l ++ [x]).drop (l.length - k) := by rw [List.drop_append_of_le_length (by omega)]
  rw [h0, List.drop_drop]
  congr 1
  omega
theorem Sim.heard {d : D} {r : R} (h : Sim d r) (ok : r.Ok) (now : Int) : Sim (d.heard now) (r.heard now) := by
  have hl := h.last
  have hr := ok.last1
  have hw := ok.wd1
  unfold D.heard R.heard
  cases hy : r.yes
  · rw [hy] at hl
    have e : d.last = -1 := by simpa using hl
    have hg := (ok.none hy).1
    have := rat_atv (yes := false) (last := r.last) now hr
    refine ⟨h.mn, h.mx, h.wd, ?_, ?_⟩
    · simp only [e]; simpa using this
    · simp only [e, if_true]
      rw [h.gaps]
      simp [hg, R.fromT]
  · rw [hy] at hl
    have e : ¬ d.last = -1 := by simp at hl; omega
    have e2 : d.last = r.last := by simpa using hl
    have := rat_atv (yes := true) (last := r.last) now hr
    simp only [if_true] at this
    refine ⟨h.mn, h.mx, h.wd, ?_, ?_⟩
    · simp only [e2, if_true]; exact this
    · simp only [if_neg e, if_true]
      unfold D.push
      rw [h.gaps, h.wd, e2, this]
      simp only [R.fromT]
      exact drop_push _ _ _ (by omega)
theorem twice_eq (s n : Int) (hn : 0 < n) : (2 * s + n - 1) / n = R.twice s n := by
  unfold R.twice
  have h1 := Int.emod_add_mul_ediv (2 * s) n
  have h2 := Int.emod_nonneg (2 * s) (b := n) (by omega)
  have h3 := Int.emod_lt_of_pos (2 * s) hn
  generalize 2 * s / n = q at *
  generalize 2 * s % n = t at *
  have e : 2 * s + n - 1 = (t + n - 1) + n * q := by omega
  rw [e, Int.add_mul_ediv_left _ _ (by omega)]
  split
  · rename_i h0
    rw [Int.ediv_eq_zero_of_lt (by omega) (by omega)]; omega
  · rename_i h0
    have : (t + n - 1) / n = 1 := by
      rw [show t + n - 1 = (t - 1) + n * 1 by omega, Int.add_mul_ediv_left _ _ (by omega), Int.ediv_eq_zero_of_lt (by omega) (by omega)]; rfl
    rw [this]; omega
theorem Sim.limit {d : D} {r : R} (h : Sim d r) (ok : r.Ok) : d.limit = r.limit := by
  unfold D.limit R.limit
  have hlen : d.gaps.length = r.gaps.length - r.fromT := by rw [h.gaps, List.length_drop]
  by_cases h0 : d.gaps = []
  · rw [if_pos h0, if_pos (by rw [← hlen, h0]; rfl), h.mx]
  · have hp : 0 < d.gaps.length := List.length_pos_iff.2 h0
    rw [if_neg h0, if_neg (by omega), ← hlen, ← h.gaps, twice_eq _ _ (by omega), h.mn, h.mx]
    have := ok.mx1
    unfold wi
    split
    · omega
    · split <;> omega
theorem Sim.late {d : D} {r : R} (h : Sim d r) (ok : r.Ok) (now : Int) : d.late now = r.late now := by
  unfold D.late R.late
  have hl := h.last
  have hr := ok.last1
  rw [h.limit ok]
  cases hy : r.yes
  · rw [hy] at hl
    rw [if_pos (by simpa using hl)]; rfl
  · rw [hy] at hl
    have e : d.last = r.last := by simpa using hl
    have := rat_atv (yes := true) (last := r.last) now hr
    simp only [if_true] at this
    rw [if_neg (by omega), e, this]; rfl
end Go.Proofs.Ytenphdgnaknbeaa
