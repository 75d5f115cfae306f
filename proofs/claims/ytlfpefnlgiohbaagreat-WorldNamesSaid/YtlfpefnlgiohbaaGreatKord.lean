/-
  The same for a region in the order of the text.
-/
import Derived.Test.YtlfpefnlgiohbaaGreatKrip2
namespace Go.Proofs.YtlfpefnlgiohbaaGreat
set_option maxRecDepth 100000
section
variable {P : Program} {ops : Array Oper} {R : World → World → Prop} {W0 : World}
theorem kHas_of_all {o : Oper} {W : World} : ∀ {F : List (Nat × (World → Prop))}, kAllHas W F → kHas o W F
  | [], _ => trivial
  | p :: F, h => ⟨by split; exact h.1; trivial, kHas_of_all h.2⟩
theorem kAllHas_mono {W W' : World} : ∀ {F : List (Nat × (World → Prop))}, (∀ p ∈ F, p.2 W → p.2 W') → kAllHas W F → kAllHas W' F
  | [], _, _ => trivial
  | p :: _, hm, h => ⟨hm p List.mem_cons_self h.1, kAllHas_mono (fun q hq => hm q (List.mem_cons_of_mem _ hq)) h.2⟩
theorem wp_quiet {o : Oper} {a : Act} {W : World} {v : Value} {K : Act → World → Prop} {Q' : Exit → Act → World → Prop} (h : kQuiet P o a W v) (hK : K (a.put o.dst v) W) : o.wp P a W K Q' := by
  unfold kQuiet at h
  unfold Oper.wp
  generalize (execOp a.eval o).run P W = r at *
  cases r with
  | ok n w' =>
    cases n with
    | value u =>
      simp only [kQuietUpon] at h
      obtain ⟨e1, e2⟩ := h
      subst e1 e2
      exact hK
    | skip =>
      simp only [kQuietUpon] at h
      obtain ⟨e1, e2⟩ := h
      subst e1 e2
      exact hK
    | _ => exact h.elim
  | halt x w' => exact h.elim
theorem wpList_kord (hRefl : ∀ a, R a a) (htr : ∀ a b c, R a b → R b c → R a c) {Q' : Exit → Act → World → Prop} (rest : List Oper) :
    ∀ (l : List Oper) (Ts : List KSpec) (k : Nat) (a : Act) (F : List (Nat × (World → Prop))) (W : World), R W0 W → (∀ p ∈ F, ∀ W W', R W W' → p.2 W → p.2 W') → kAllHas W F →
      kAll P ops R W0 (fun a W => wpList P ops Q' rest a W) k l Ts a F → wpList P ops Q' (l ++ rest) a W
  | [], Ts, k, a, F, W, hW, _, hF, h => by
    cases Ts <;> (unfold kAll at h; exact h W hW hF)
  | o :: l, [], k, a, F, W, hW, _, hF, h => by unfold kAll at h; exact h.elim
  | o :: l, none :: Ts, k, a, F, W, hW, hm, hF, h => by
    unfold kAll at h
    rw [List.cons_append, wpList]
    split
    · rename_i hw
      rw [if_pos hw] at h
      obtain ⟨v, h1, h2⟩ := h
      exact .inl (wp_quiet (h1 W hW (kHas_of_all hF)) (wpList_kord hRefl htr rest l Ts (k + 1) _ F W hW hm hF h2))
    · rename_i hw
      rw [if_neg hw] at h
      exact wpList_kord hRefl htr rest l Ts (k + 1) _ F W hW hm hF h
  | o :: l, some (.inl c) :: Ts, k, a, F, W, hW, hm, hF, h => by
    unfold kAll at h
    obtain ⟨h1, h2⟩ := h
    have h1 := h1 W hW (kHas_of_all hF)
    unfold kStep at h1
    rw [List.cons_append, wpList]
    split
    · rename_i hw
      rw [if_pos hw] at h1
      refine .inl (h1 _ _ fun v W' hR hv => ?_)
      subst hv
      exact wpList_kord hRefl htr rest l Ts (k + 1) _ F W' (htr _ _ _ hW hR) hm (kAllHas_mono (fun p hp => hm p hp W W' hR) hF) h2
    · rename_i hw
      rw [if_neg hw] at h1
      rw [h1]
      exact wpList_kord hRefl htr rest l Ts (k + 1) _ F W hW hm hF h2
  | o :: l, some (.inr T) :: Ts, k, a, F, W, hW, hm, hF, h => by
    unfold kAll at h
    obtain ⟨h0, h1, h2⟩ := h
    have h1 := h1 W hW (kHas_of_all hF)
    unfold kStep at h1
    have hm' : ∀ v, ∀ p ∈ ((k, T v) :: F), ∀ W W', R W W' → p.2 W → p.2 W' := by
      intro v p hp
      rcases List.mem_cons.1 hp with rfl | hp
      · exact h0 v
      · exact hm p hp
    rw [List.cons_append, wpList]
    split
    · rename_i hw
      rw [if_pos hw] at h1
      refine .inl (h1 _ _ fun v W' hR hv => ?_)
      exact wpList_kord hRefl htr rest l Ts (k + 1) _ _ W' (htr _ _ _ hW hR) (hm' v) ⟨hv, kAllHas_mono (fun p hp => hm p hp W W' hR) hF⟩ (h2 v)
    · rename_i hw
      rw [if_neg hw] at h1
      exact wpList_kord hRefl htr rest l Ts (k + 1) _ _ W hW (hm' undef) ⟨h1, hF⟩ (h2 undef)
/-- A region in the order of the text: the first n operations, each shown once, in whatever later world; then the rest. -/
theorem wp_region_kord {P : Program} (R : World → World → Prop) (hRefl : ∀ a, R a a) (htr : ∀ a b c, R a b → R b c → R a c) {id : Nat} {Q' : Exit → Act → World → Prop} {a : Act} {w : World} {l : List Oper} (n : Nat) {Ts : List KSpec}
    (h : kAll P l.toArray R w (fun a W => wpList P l.toArray Q' (l.drop n) a W) 0 (l.take n) Ts a []) : (Code.region id l.toArray false).wp P Q' a w := by
  refine wp_region_lit ?_
  have := wpList_kord hRefl htr (l.drop n) (l.take n) Ts 0 a [] w (hRefl w) (fun p hp => by cases hp) trivial h
  rwa [List.take_append_drop] at this
/-- as kAll_d, kAll_t, the frame to be reckoned anew -/
theorem kAll_dn {Q : Act → World → Prop} {k : Nat} {o : Oper} {l : List Oper} {Ts : List KSpec} {a : Act} {F : List (Nat × (World → Prop))} (c : Value) (h : ∀ W, R W0 W → kHas o W F → kStep P ops R o a W (fun v _ => v = c)) (hr : ∀ K : Act → Prop, (∀ a', kAll P ops R W0 Q (k + 1) l Ts a' F → K a') → K (a.put o.dst c)) :
    kAll P ops R W0 Q k (o :: l) (some (.inl c) :: Ts) a F := kAll_d c h (hr _ (fun _ h => h))
theorem kAll_tn {Q : Act → World → Prop} {k : Nat} {o : Oper} {l : List Oper} {Ts : List KSpec} {a : Act} {F : List (Nat × (World → Prop))} (T : Value → World → Prop) (hm : ∀ v W W', R W W' → T v W → T v W') (h : ∀ W, R W0 W → kHas o W F → kStep P ops R o a W T)
    (hr : ∀ u, ∀ K : Act → Prop, (∀ a', kAll P ops R W0 Q (k + 1) l Ts a' ((k, T u) :: F) → K a') → K (a.put o.dst u)) : kAll P ops R W0 Q k (o :: l) (some (.inr T) :: Ts) a F := kAll_t T hm h (fun u => hr u _ (fun _ h => h))
end
end Go.Proofs.YtlfpefnlgiohbaaGreat
