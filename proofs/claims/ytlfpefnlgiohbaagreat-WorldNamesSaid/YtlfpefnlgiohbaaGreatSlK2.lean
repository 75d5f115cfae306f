/-
  Slices of elements of k cells: an append at a step of a region that draws its order; an empty slice; one-cell slices both ways.
-/
import Derived.Test.YtlfpefnlgiohbaaGreatSlK
namespace Go.Proofs.YtlfpefnlgiohbaaGreat
set_option maxRecDepth 100000
open Go.RowKit
section
variable {w w' : World} {e : TypeId} {k : Nat} {row : Option Nat} {A : Option Addr} {n c : Nat} {xs : List Value}
theorem step_append_slK {P : Program} {ops : Array Oper} {o : Oper} {a : Act} {K : Act → World → Prop} {Q : Exit → Act → World → Prop} {E : Prop} (hgd : o.guard = none) (s x : Operand) (t : TypeId)
    (ho : o.op = .call { callee := .builtin .append, args := #[s, x], argTypes := #[t, t] })
    (i : TypeInfo) (z : Value) (bytes : Nat) (ht : P.underlying t = some (.slice e)) (hi : P.info? e = some i) (hz : i.zero = some z)
    (hsize : i.size = k) (hby : i.bytes = bytes) (hzs : z.cells.size = k) (hk : 0 < k) (h : SlK w e k row A n c xs) (hs : a.eval s = .slice A n c) {B : Option Addr} {m d : Nat} {ys : List Value} (hx : a.eval x = .slice B m d) (hy : RdK w k B m ys) (h1 : ∀ u ∈ ys, u.oneCell' = true)
    (h63 : n + m ≤ maxLen) (hbytes : (n + m) * bytes ≤ 140737488355328)
    (hK : ∀ row' A' c' w', SlK w' e k row' A' (n + m) c' (xs ++ ys) → ((m = 0 ∧ row' = row ∧ A' = A ∧ c' = c ∧ w' = w) ∨ Grew row A c w row' A' c' w') → K (a.put o.dst (.slice A' (n + m) c')) w') :
    if Region.wanted o (yielded ops a.tmps) = true then Oper.wp P o a w K Q else E := by
  have hw : Region.wanted o (yielded ops a.tmps) = true := by simp [Region.wanted, hgd]
  rw [if_pos hw]
  exact wp_append_slK s x t ho i z bytes ht hi hz hsize hby hzs hk h hs hx hy h1 h63 hbytes hK
/-- behind an append to memory of the call's own -/
theorem grew_both {w0 w w' : World} {row row' : Option Nat} {A A' : Option Addr} {c c' m : Nat} (h : (m = 0 ∧ row' = row ∧ A' = A ∧ c' = c ∧ w' = w) ∨ Grew row A c w row' A' c' w') (h0 : Keep (fun _ => False) w0 w) (hr : ∀ g, row = some g → w0.heap.size ≤ g) :
    Keep (fun _ => False) w0 w' ∧ ∀ g, row' = some g → w0.heap.size ≤ g := by
  rcases h with ⟨_, rfl, _, _, rfl⟩ | h
  · exact ⟨h0, hr⟩
  · exact ⟨h.keep0 h0 hr, h.own h0.size hr⟩
theorem grew_keep {w w' : World} {row row' : Option Nat} {A A' : Option Addr} {c c' m : Nat} (h : (m = 0 ∧ row' = row ∧ A' = A ∧ c' = c ∧ w' = w) ∨ Grew row A c w row' A' c' w') : Keep (fun g => row = some g) w w' := by
  rcases h with ⟨_, rfl, _, _, rfl⟩ | h
  · exact Keep.refl _ _
  · exact h.keep
theorem SlK.empty {g : Nat} (h : Blk w g e #[]) : SlK w e k (some g) (some ⟨g, 0, none⟩) 0 0 [] :=
  ⟨by simp, Nat.le_refl _, by simp [maxLen], .inr ⟨g, 0, #[], rfl, rfl, h, by simp, by simp⟩⟩
theorem RdK.one {g : Nat} {t : TypeId} {v : Value} (h : Blk w g t #[v]) : RdK w 1 (some ⟨g, 0, none⟩) 1 [v] := RdK.of_blk h 1 1 rfl
theorem Sl.toK (h : Sl w e row A n c xs) : SlK w e 1 row A n c xs :=
  ⟨by rw [h.1]; omega, h.2.1, h.2.2.1, h.2.2.2.imp id fun ⟨g, off, cur, h1, h2, h3, h4, h5⟩ => ⟨g, off, cur, h1, h2, h3, by omega, fun j hj => h5 j (by omega)⟩⟩
theorem SlK.toSl (h : SlK w e 1 row A n c xs) : Sl w e row A n c xs :=
  ⟨by rw [h.1]; omega, h.2.1, h.2.2.1, h.2.2.2.imp id fun ⟨g, off, cur, h1, h2, h3, h4, h5⟩ => ⟨g, off, cur, h1, h2, h3, by omega, fun j hj => h5 j (by omega)⟩⟩
end
end Go.Proofs.YtlfpefnlgiohbaaGreat
