/-
  The plain model of package accrual's Detector: what its methods compute; nothing of the program.
-/
import Init
namespace Go.Proofs.Ytenphdgnaknbeaa

/-- x within the bounds -/
def wi (x low high : Int) : Int := max low (min x high)
def atv (last now : Int) : Int := wi now (max last 0) 1099511627776

theorem wi_eq (x low high : Int) : wi x low high = if low < (if x < high then x else high) then (if x < high then x else high) else low := by
  unfold wi; omega


structure D where
  mn : Int
  mx : Int
  wd : Int
  last : Int
  gaps : List Int
namespace D
def begin_ (d : D) (now : Int) : D := if d.last = -1 then { d with last := atv d.last now } else d
def push (d : D) (g : Int) : List Int := (d.gaps ++ [g]).drop (d.gaps.length + 1 - d.wd.toNat)
def heard (d : D) (now : Int) : D :=
  { d with last := atv d.last now, gaps := if d.last = -1 then d.gaps else d.push (atv d.last now - d.last) }
def limit (d : D) : Int := if d.gaps = [] then d.mx else wi ((2 * d.gaps.sum + d.gaps.length - 1) / d.gaps.length) d.mn d.mx
def late (d : D) (now : Int) : Bool := if d.last = -1 then false else decide (d.limit < atv d.last now - d.last)
structure Ok (d : D) : Prop where
  mn1 : 1 ≤ d.mn
  mx1 : d.mn ≤ d.mx
  mx2 : d.mx ≤ 4096
  wd1 : 1 ≤ d.wd
  wd2 : d.wd ≤ 4096
  last1 : -1 ≤ d.last
  last2 : d.last ≤ 1099511627776
  gap : ∀ g ∈ d.gaps, 0 ≤ g ∧ g ≤ 1099511627776
  len : (d.gaps.length : Int) ≤ d.wd
end D

theorem wi_lo (x low high : Int) (h : low ≤ high) : low ≤ wi x low high ∧ wi x low high ≤ high := by unfold wi; omega
theorem atv_bd {last now : Int} (h1 : -1 ≤ last) (h2 : last ≤ 1099511627776) : 0 ≤ atv last now ∧ last ≤ atv last now ∧ atv last now ≤ 1099511627776 := by
  unfold atv wi; omega
theorem sum_bd (l : List Int) (M : Int) (h : ∀ g ∈ l, 0 ≤ g ∧ g ≤ M) : 0 ≤ l.sum ∧ l.sum ≤ M * l.length := by
  induction l with
  | nil => simp
  | cons a t ih =>
    have h1 := h a (by simp)
    have h2 := ih (fun g hg => h g (by simp [hg]))
    simp only [List.sum_cons, List.length_cons]
    have : M * ((t.length + 1 : Nat) : Int) = M * t.length + M := by rw [Int.natCast_add, Int.mul_add]; simp
    omega
theorem D.Ok.begin_ {d : D} (h : d.Ok) (now : Int) : (d.begin_ now).Ok := by
  unfold D.begin_
  split
  · have := atv_bd (now := now) h.last1 h.last2
    exact { h with last1 := by simp; omega, last2 := by simp; omega }
  · exact h
theorem D.Ok.heard {d : D} (h : d.Ok) (now : Int) : (d.heard now).Ok := by
  have hb := atv_bd (now := now) h.last1 h.last2
  have hw := h.wd1
  have hlen := h.len
  have hl := h.last1
  refine { mn1 := h.mn1, mx1 := h.mx1, mx2 := h.mx2, wd1 := h.wd1, wd2 := h.wd2, last1 := by simp [D.heard]; omega, last2 := by simp [D.heard]; omega, gap := ?_, len := ?_ }
  · intro g hg
    by_cases hl' : d.last = -1
    · simp [D.heard, hl'] at hg; exact h.gap g hg
    · simp only [D.heard, hl', if_false, D.push] at hg
      have hg' := List.mem_of_mem_drop hg
      simp only [List.mem_append, List.mem_singleton] at hg'
      rcases hg' with h1 | rfl
      · exact h.gap g h1
      · omega
  · by_cases hl' : d.last = -1
    · simp [D.heard, hl']; exact h.len
    · simp only [D.heard, hl', if_false, D.push, List.length_drop, List.length_append, List.length_singleton]
      omega
theorem D.limit_bd {d : D} (h : d.Ok) : d.mn ≤ d.limit ∧ d.limit ≤ d.mx := by
  unfold D.limit
  split
  · exact ⟨h.mx1, Int.le_refl _⟩
  · exact wi_lo _ _ _ h.mx1
end Go.Proofs.Ytenphdgnaknbeaa
