/-
  A store into one known cell: what it keeps ('KeepC'), for a drawn region with one writing operation (lib/XKpiv).
-/
import Derived.Test.YtlfpefnlgiohbaaGreatKpiv
import Derived.Test.YtlfpefnlgiohbaaGreatKord
import Derived.Test.YtlfpefnlgiohbaaGreatID
namespace Go.Proofs.YtlfpefnlgiohbaaGreat
set_option maxRecDepth 100000
open Go.RowKit Go

/-- of the old blocks only b may be another one, and of its cells only k -/
def KeepC (b k : Nat) (W W' : World) : Prop := Keep (fun g => g = b) W W' ∧ ∀ j v, j ≠ k → W.cell? ⟨b, j, none⟩ = some v → W'.cell? ⟨b, j, none⟩ = some v
theorem KeepC.refl (b k : Nat) (w : World) : KeepC b k w w := ⟨Keep.refl _ w, fun _ _ _ h => h⟩
theorem KeepC.trans (b k : Nat) (x y z : World) (h : KeepC b k x y) (h' : KeepC b k y z) : KeepC b k x z := ⟨h.1.trans (h'.1.mono fun _ _ e => .inl e), fun j v hj hc => h'.2 j v hj (h.2 j v hj hc)⟩
theorem KeepC.of0 (b k : Nat) (x y : World) (h : Keep (fun _ => False) x y) : KeepC b k x y := ⟨h.mono fun _ _ e => e.elim, fun _ _ _ hc => h.cell hc (fun e => e)⟩
theorem KeepC.set (b k : Nat) (w : World) (v : Value) : KeepC b k w (w.setCell ⟨b, k, none⟩ v) :=
  ⟨(Keep.refl (fun g => g = b) w).setCell (p := ⟨b, k, none⟩) (fun _ => rfl) v, fun j u hj hc => (World.cell?_setCell_other (w := w) (a := ⟨b, k, none⟩) (b := ⟨b, j, none⟩) (v := v) (by intro e; injection e with _ e; exact hj e.symm)).trans hc⟩
theorem KeepC.cell {b k : Nat} {W W' : World} (h : KeepC b k W W') {j : Nat} {v : Value} (hj : j ≠ k) (hc : W.cell? ⟨b, j, none⟩ = some v) : W'.cell? ⟨b, j, none⟩ = some v := h.2 j v hj hc
/-- behind a region's draw -/
theorem KeepC.d {b k : Nat} {a c : World} (h : KeepC b k a.drew c) : KeepC b k a c := KeepC.trans b k _ _ _ (KeepC.of0 b k _ _ ((Keep.refl _ a).drew)) h
section
variable {P : Program} {ops : Array Oper} {R R0 : World → World → Prop} {p : Nat} {W0 : World} {Q : Act → World → Prop} {k : Nat} {o : Oper} {l : List Oper} {Ts : List KSpec} {a : Act} {F : List (Nat × (World → Prop))}
/-- as kAllP_d, _t, _u, the frame to be reckoned anew -/
theorem kAllP_dn (c : Value) (hk : k ≠ p) (h : ∀ W, R W0 W → kHas o W F → kStep P ops R0 o a W (fun v _ => v = c)) (hr : ∀ K : Act → Prop, (∀ a', kAllP P ops R R0 p W0 Q (k + 1) l Ts a' F → K a') → K (a.put o.dst c)) : kAllP P ops R R0 p W0 Q k (o :: l) (some (.inl c) :: Ts) a F :=
  kAllP_d c hk h (hr _ (fun _ h => h))
theorem kAllP_tn (T : Value → World → Prop) (hk : k = p) (hm : ∀ v W W', R0 W W' → T v W → T v W') (h : ∀ W, R0 W0 W → kHas o W F → kStep P ops R o a W T) (hr : ∀ u, ∀ K : Act → Prop, (∀ a', kAllP P ops R R0 p W0 Q (k + 1) l Ts a' ((k, T u) :: F) → K a') → K (a.put o.dst u)) :
    kAllP P ops R R0 p W0 Q k (o :: l) (some (.inr T) :: Ts) a F := kAllP_t T hk hm h (fun u => hr u _ (fun _ h => h))
theorem kAllP_un (T : Value → World → Prop) (hk : k ≠ p) (hm : ∀ v W W', R W W' → T v W → T v W') (h : ∀ W, R W0 W → kHas o W F → kStep P ops R0 o a W T) (hr : ∀ u, ∀ K : Act → Prop, (∀ a', kAllP P ops R R0 p W0 Q (k + 1) l Ts a' ((k, T u) :: F) → K a') → K (a.put o.dst u)) :
    kAllP P ops R R0 p W0 Q k (o :: l) (some (.inr T) :: Ts) a F := kAllP_u T hk hm h (fun u => hr u _ (fun _ h => h))
/-- as kAll_skip, the frame to be reckoned anew -/
theorem kAll_skipn {R : World → World → Prop} (hw : Region.wanted o (yielded ops a.tmps) = false) (hr : ∀ K : Act → Prop, (∀ a', kAll P ops R W0 Q (k + 1) l Ts a' F → K a') → K (a.put o.dst undef)) : kAll P ops R W0 Q k (o :: l) (none :: Ts) a F := kAll_skip hw (hr _ (fun _ h => h))
theorem kAllP_skipn (hw : Region.wanted o (yielded ops a.tmps) = false) (hr : ∀ K : Act → Prop, (∀ a', kAllP P ops R R0 p W0 Q (k + 1) l Ts a' F → K a') → K (a.put o.dst undef)) : kAllP P ops R R0 p W0 Q k (o :: l) (none :: Ts) a F := kAllP_skip hw (hr _ (fun _ h => h))
end
end Go.Proofs.YtlfpefnlgiohbaaGreat
