/-
  The region that draws its order: operations behind a guard.
-/
import Derived.Test.YtlfpefnlgiohbaaGreatKrip
namespace Go.Proofs.YtlfpefnlgiohbaaGreat
set_option maxRecDepth 100000
section
variable {P : Program} {ops : Array Oper} {R : World → World → Prop} {W0 : World} {Q : Act → World → Prop} {k : Nat} {o : Oper} {l : List Oper} {Ts : List KSpec} {a : Act} {F : List (Nat × (World → Prop))}
/-- an operation that is passed over -/
theorem kAll_skip (hw : Region.wanted o (yielded ops a.tmps) = false) (h : kAll P ops R W0 Q (k + 1) l Ts (a.put o.dst undef) F) : kAll P ops R W0 Q k (o :: l) (none :: Ts) a F :=
  kAll_q fun K hK => by
    rw [if_neg (by rw [hw]; exact Bool.false_ne_true)]; exact hK _ h
/-- an operation that only reckons, its guard open -/
theorem kAll_pw (hw : Region.wanted o (yielded ops a.tmps) = true) (h : ∀ K : Act → Prop, (∀ a', kAll P ops R W0 Q (k + 1) l Ts a' F → K a') → ∃ v, (∀ W, kQuiet P o a W v) ∧ K (a.put o.dst v)) :
    kAll P ops R W0 Q k (o :: l) (none :: Ts) a F :=
  kAll_p fun K hK => by
    rw [if_pos hw]; exact h K hK
theorem kStep_w {T : Value → World → Prop} {W : World} (hw : Region.wanted o (yielded ops a.tmps) = true) (h : ∀ (K : Act → World → Prop) (Q : Exit → Act → World → Prop), (∀ v W', R W W' → T v W' → K (a.put o.dst v) W') → o.wp P a W K Q) : kStep P ops R o a W T :=
  kStep_of fun K Q hK => by
    rw [if_pos hw]; exact h K Q hK
end
end Go.Proofs.YtlfpefnlgiohbaaGreat
