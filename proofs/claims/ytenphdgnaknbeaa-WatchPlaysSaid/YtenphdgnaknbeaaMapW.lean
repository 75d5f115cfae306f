/-
  The laws of XMapI at the operation, for the walk.
-/
import Derived.Test.YtenphdgnaknbeaaMapI
import Derived.Lib.Hide
namespace Go.Proofs.Ytenphdgnaknbeaa
open Go.RowKit Go.Maps
section
variable {w : World} {mb n r : Nat} {f : ID → Option Nat} {ops : Array Oper} {rest : List Oper} {o : Oper} {a : Act} {Q : Exit → Act → World → Prop}
theorem wpList_range_I (hg : o.guard = none) (m : Operand) (hop : o.op = Op.range 55 m) (hm : a.eval m = .map (some mb)) (h : MapI w mb n f)
    (hK : ∀ w' cnt, Hid (RangeI w' mb w.heap.size n f (fun x => (f x).isSome) cnt) → Hid (cnt ≤ n) → Hid (Keep (fun _ => False) w w') → w'.heap.size = w.heap.size + 1 → wpList Try.prog ops Q rest (a.put o.dst (.pointer (some ⟨w.heap.size, 0, none⟩))) w') :
    wpList Try.prog ops Q (o :: rest) a w := by
  refine wpList_plain hg fun K' hK' => ?_
  obtain ⟨w', cnt, hrun, r1, r2, r3, r4⟩ := h.range
  unfold Oper.wp
  simp [execOp, hop, hm, hrun, Result.andThen]
  exact hK' _ _ (hK w' cnt (Lib.hid r1) (Lib.hid r2) (Lib.hid r3) r4)
theorem wpList_next_I {left : ID → Bool} {cnt : Nat} (hg : o.guard = none) (it : Operand) (hop : o.op = Op.next it false) (hit : a.eval it = .pointer (some ⟨r, 0, none⟩)) (h : RangeI w mb r n f left cnt)
    (hDone : Hid (∀ x, left x = false) → wpList Try.prog ops Q rest (a.put o.dst (.tuple #[.bool false])) w)
    (hMore : ∀ (u v : Int) (b : Nat) (w' : World) (cnt' : Nat), Hid (wfI (u, v)) → Hid (left (u, v) = true) → Hid (f (u, v) = some b) → Hid (RangeI w' mb r n f (fun y => left y && !decide (y = (u, v))) cnt') → Hid (cnt' < cnt) → Hid (Keep (fun g => g = r) w w') → w'.heap.size = w.heap.size →
      (Instr.entry (.pointer (some ⟨r, 0, none⟩))).run Try.prog w' = .ok (.tuple #[.agg #[.int .i64 u, .int .i64 v], .pointer (some ⟨b, 0, none⟩)]) w' → wpList Try.prog ops Q rest (a.put o.dst (.tuple #[.bool true, .agg #[.int .i64 u, .int .i64 v], .pointer (some ⟨b, 0, none⟩)])) w') :
    wpList Try.prog ops Q (o :: rest) a w := by
  refine wpList_plain hg fun K' hK' => ?_
  unfold Oper.wp
  rcases h.next o.type with ⟨_, hl, hrun⟩ | ⟨x, b, w', cnt', hx, hl, hf, hrun, hrg, hlt, hk, hs, hen⟩
  · simp [execOp, hop, hit, hrun, Result.andThen]
    exact hK' _ _ (hDone (Lib.hid hl))
  · simp [execOp, hop, hit, hrun, Result.andThen]
    exact hK' _ _ (hMore x.1 x.2 b w' cnt' (Lib.hid hx) (Lib.hid hl) (Lib.hid hf) (Lib.hid hrg) (Lib.hid hlt) (Lib.hid hk) hs hen)
theorem wpList_delete_I {left : ID → Bool} {cnt : Nat} (hg : o.guard = none) (m x : Operand) (hop : o.op = Op.call { callee := Callee.builtin Builtin.delete, args := #[m, x], argTypes := #[55, 33] })
    (hm : a.eval m = .map (some mb)) (h : RangeI w mb r n f left cnt) (k : ID) (hk : wfI k) (hx : a.eval x = idV k)
    (hK : ∀ w' cnt', Hid (RangeI w' mb r n (delF f k) (fun y => left y && !decide (y = k)) cnt') → Hid (cnt' ≤ cnt) → Hid (Keep (fun g => g = mb) w w') → wpList Try.prog ops Q rest (a.put o.dst (.tuple #[])) w') :
    wpList Try.prog ops Q (o :: rest) a w := by
  refine wpList_plain hg fun K' hK' => ?_
  obtain ⟨w', cnt', hrun, r1, r2, r3⟩ := h.drop hk o.type
  unfold Oper.wp
  simp [execOp, hop, resolve, invoke, builtin, hm, hx, hrun, Result.andThen]
  exact hK' _ _ (hK w' cnt' (Lib.hid r1) (Lib.hid r2) (Lib.hid r3))
theorem wpList_put_I (hg : o.guard = none) (m x v : Operand) (hop : o.op = Op.mapUpdate 55 m x v) (hm : a.eval m = .map (some mb)) (h : MapI w mb n f) (hn : n < maxLen)
    (k : ID) (hk : wfI k) (hx : a.eval x = idV k) (b : Nat) (hv : a.eval v = ptrV (some b))
    (hK : ∀ w', Hid (MapI w' mb (n + 1) (updF f k b)) → Hid (Keep (fun g => g = mb) w w') → wpList Try.prog ops Q rest (a.put o.dst undef) w') :
    wpList Try.prog ops Q (o :: rest) a w := by
  refine wpList_plain hg fun K' hK' => ?_
  obtain ⟨w', hrun, r1, r2⟩ := h.put hk b hn
  unfold Oper.wp
  simp [execOp, hop, hm, hx, hv, hrun, Result.andThen]
  exact hK' _ _ (hK w' (Lib.hid r1) (Lib.hid r2))
end
end Go.Proofs.Ytenphdgnaknbeaa
