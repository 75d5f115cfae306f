/-
  A region that draws its order inside a round of a range over a function: what is shown without a fence holds there, too ('wpAny_in'); lib/XKrip's law there. Made by gen_kripin.py.
-/
import Derived.Test.YtjgkalcldekmpaaGreatDoorKrip
import Derived.Test.YtjgkalcldekmpaaGreatDoorKrip2
import Derived.RangeFuncCalls
import Derived.OrdersIn
import Derived.TacticsIn
namespace Go.Proofs.YtjgkalcldekmpaaGreatDoor
open Go.RowKit

theorem oper_in {P : Program} {o : Oper} {a : Act} {w : World} {K K' : Act → World → Prop} {Q : Exit → Act → World → Prop} (l n : Nat) (hd : ∀ c, o.op ≠ .defer c) (hK : ∀ a w, K a w → K' a w) (h : o.wp P a w K Q) : o.wpIn (Fence.wide.inRound l) n P a w K' Q := by
  unfold Oper.wp at h
  unfold Oper.wpIn
  refine ⟨fun _ _ => trivial, ?_⟩
  rw [show (Fence.wide.inRound l).round = some l from rfl, Oper.semAt_some l a.eval o hd]
  generalize (execOp a.eval o).run P w = r at h ⊢
  cases r with
  | halt x w' => cases x <;> exact h
  | ok nx w' =>
    cases nx with
    | value v => exact hK _ _ h
    | skip => exact hK _ _ h
    | defer d => exact hK _ _ h
    | enter f args =>
      refine ⟨(fun h => by cases h), CallsIn.mono (CallsIn.inRound l (callsIn_wide.2 h)) fun e w'' he => ?_⟩
      cases e with
      | returned v => exact hK _ _ he
      | panicked c => exact he
      | outgrown => exact he
    | row row args => exact ⟨(fun h => by cases h), fun c cs _ => let ⟨v, w2, r, s⟩ := h c cs; ⟨v, w2, hK _ _ r, stepsIn_wide.2 s⟩⟩
    | _ => exact h.elim
theorem wpOp_in {P : Program} {ops : Array Oper} {Q : Exit → Act → World → Prop} {i : Nat} {K K' : Act → World → Prop} {a : Act} {w : World} (l n : Nat) (hd : ∀ o ∈ ops, ∀ c, o.op ≠ .defer c) (hlo : ¬ LetsOut Q) (hK : ∀ a w, K a w → K' a w) (h : wpOp P ops Q i K a w) : wpOpIn (Fence.wide.inRound l) n P ops Q i K' a w := by
  unfold wpOp at h
  unfold wpOpIn
  cases ho : ops[i]? with
  | none => simp only [ho] at h ⊢; exact hK _ _ h
  | some o =>
    simp only [ho] at h ⊢
    split at h
    · rename_i hw
      rw [if_pos hw]
      rcases h with h | ⟨_, h⟩
      · exact oper_in l n (hd o (Array.mem_of_getElem? ho)) hK h
      · exact absurd h hlo
    · rename_i hw
      rw [if_neg hw]
      exact ⟨fun _ _ => trivial, hK _ _ h⟩
theorem wpAny_in {P : Program} {ops : List Oper} {Q : Exit → Act → World → Prop} {l n : Nat} (hd : ∀ o ∈ ops, ∀ c, o.op ≠ .defer c) (hlo : ¬ LetsOut Q) : ∀ (fuel : Nat) (listed : Array Bool) (a : Act) (w : World), wpAny P .any ops.toArray Q fuel listed a w → wpAnyIn (Fence.wide.inRound l) n P .any ops.toArray Q fuel listed a w
  | 0, listed, a, w, h => h
  | fuel + 1, listed, a, w, h => ⟨h.1, fun i hi => wpOp_in l n (fun o ho => hd o (by simpa using ho)) hlo (fun a w h => wpAny_in hd hlo fuel _ a w h) (h.2 i hi)⟩
section
variable {P : Program} {R : World → World → Prop}
theorem wpIn_region_krip {P : Program} (R : World → World → Prop) (hRefl : ∀ a, R a a) (htr : ∀ a b c, R a b → R b c → R a c) {id : Nat} {Q' : Exit → Act → World → Prop} {a : Act} {w : World} {l : List Oper} (n : Nat) (lp nn : Nat) (hd : ∀ o ∈ l, ∀ c, o.op ≠ .defer c) (hlo : ¬ LetsOut Q') (hm : P.follows .mixedOrders = true)
    (hB : kripB l.toArray n = true) {Ts : List KSpec}
    (h : kAll P l.toArray R w.drew (fun a W => wpList P l.toArray Q' (l.drop n) a W) 0 (l.take n) Ts a []) : (Code.region id l.toArray true).wpIn (Fence.wide.inRound lp) nn P Q' a w := by
  have hB := kripB_spec hB
  have hle := hB.le
  refine wpIn_region_any hm (wpAny_in hd hlo _ _ _ _ ?_)
  have dat := fun u => kAll_data (Ts := Ts) (a0 := a) u (l.take n) Ts 0 [] (fun _ => undef) (fun j hj => by
    have : j < n := by simp at hj; omega
    simp [this]) (fun j => by simp) (fun _ _ _ => trivial) (fun _ _ => trivial) h
  have hlen : 0 + (l.take n).length = n := by simp at hle ⊢; omega
  rw [hlen] at dat
  let V := fun u => Classical.choose (dat u)
  have hV : ∀ u, _ := fun u => Classical.choose_spec (dat u)
  have inv0 : KInv l.toArray R w.drew n Ts a V (Array.replicate l.toArray.size false) a (fun _ => undef) w.drew := by
    refine ⟨⟨by simp, fun j oj _ hl => (by rw [getD_replicate_false] at hl; cases hl), fun t _ ht => getD_in (by simpa using ht) (getD_replicate_false _ _)⟩, hRefl _, fun j T hl => (by rw [getD_replicate_false] at hl; cases hl), fun u _ j hl => (by rw [getD_replicate_false] at hl; cases hl), ?_⟩
    exact (KSlots.init l.toArray a (fun _ => undef)).congrL (fun j _ => by rw [getD_replicate_false]; simp) (fun _ h => h.elim)
  have hu0 : (unl n (Array.replicate l.toArray.size false)).length = n := by
    unfold unl
    rw [List.filter_eq_self.2 (fun j _ => by rw [getD_replicate_false]; rfl)]
    simp
  have := KInv.run (P := P) (Q' := Q') hB hRefl htr (Ts := Ts) (V := V) (fun u j hj => (hV u).2.1 j (Nat.zero_le _) (by omega)) (fun u W hW hf => by
    exact (hV u).2.2 W hW (fun i T hi hT => hf i T (by omega) hT)) n _ a _ w.drew inv0 hu0
  rw [show n + (l.toArray.size - n) = l.toArray.size by omega] at this
  exact this
end
end Go.Proofs.YtjgkalcldekmpaaGreatDoor
