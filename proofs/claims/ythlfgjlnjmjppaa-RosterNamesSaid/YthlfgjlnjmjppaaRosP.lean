/-
  Roster: the plain model.
-/
import Derived.Test.YthlfgjlnjmjppaaID
namespace Go.Proofs.Ythlfgjlnjmjppaa

structure Mem where
  addr : Int
  inc : Int
  st : Int
  no : Int
deriving instance DecidableEq for Mem
abbrev Mem.id (x : Mem) : ID := (x.addr, x.inc)
abbrev cMem (x : Mem) : List Value := [.int .i64 x.addr, .int .i64 x.inc, .int .u8 x.st, .int .i64 x.no]
abbrev memV (x : Mem) : Value := .agg #[.int .i64 x.addr, .int .i64 x.inc, .int .u8 x.st, .int .i64 x.no]
def zeroMem : Mem := ⟨0, 0, 0, 0⟩
def RdMem (w : World) (A : Option Addr) (n : Nat) (l : List Mem) : Prop := l.length = n ∧ RdK w 4 A n (l.flatMap cMem)
theorem RdMem.keep0 {w w' : World} {A : Option Addr} {n : Nat} {l : List Mem} (h : RdMem w A n l) (hk : Keep (fun _ => False) w w') : RdMem w' A n l := ⟨h.1, h.2.keep0 hk⟩
theorem RdMem.at_ {w : World} {A : Option Addr} {n : Nat} {l : List Mem} (h : RdMem w A n l) {i : Nat} (hi : i < n) : ∃ g off, A = some ⟨g, off, none⟩ ∧ w.cell? ⟨g, off + i * 4, none⟩ = some (.int .i64 (l.getD i zeroMem).addr) ∧ w.cell? ⟨g, off + i * 4 + 1, none⟩ = some (.int .i64 (l.getD i zeroMem).inc) ∧
    w.cell? ⟨g, off + i * 4 + 2, none⟩ = some (.int .u8 (l.getD i zeroMem).st) ∧ w.cell? ⟨g, off + i * 4 + 3, none⟩ = some (.int .i64 (l.getD i zeroMem).no) := by
  have hl : i < l.length := by rw [h.1]; exact hi
  have e : l.getD i zeroMem = l[i] := by simp [List.getD, hl]
  have go : ∀ j, j < 4 → ∃ g off v, A = some ⟨g, off, none⟩ ∧ (cMem l[i])[j]? = some v ∧ w.cell? ⟨g, off + i * 4 + j, none⟩ = some v := by
    intro j hj
    obtain ⟨g, off, v, h1, h2, h3⟩ := h.2.2 (i * 4 + j) (by omega)
    rw [flat_get cMem 4 (fun _ => rfl) l i j hl hj] at h2
    exact ⟨g, off, v, h1, h2, by rw [Nat.add_assoc]; exact h3⟩
  obtain ⟨g, off, v, h1, h2, h3⟩ := go 0 (by omega)
  obtain ⟨g1, off1, v1, k1, k2, k3⟩ := go 1 (by omega)
  obtain ⟨g2, off2, v2, l1, l2, l3⟩ := go 2 (by omega)
  obtain ⟨g3, off3, v3, m1, m2, m3⟩ := go 3 (by omega)
  rw [h1] at k1 l1 m1
  injection k1 with k1; injection k1 with q1 q2; subst q1 q2
  injection l1 with l1; injection l1 with q1 q2; subst q1 q2
  injection m1 with m1; injection m1 with q1 q2; subst q1 q2
  simp at h2 k2 l2 m2
  exact ⟨g, off, h1, by rw [e, h2]; simpa using h3, by rw [e, k2]; exact k3, by rw [e, l2]; exact l3, by rw [e, m2]; exact m3⟩

/-- an address's floor -/
def floorT (l : List ID) (a : Int) : Int := l.foldl (fun n p => if p.1 = a then max n p.2 else n) 0
def lessT (a b : Int) : Int := if a ≤ 0 then max b 0 else if b ≤ 0 then a else min a b
def okE (x : Mem) : Bool := mayID x.id && decide (1 ≤ x.st ∧ x.st ≤ 7)
theorem foldl_take {α β : Type} (f : β → α → β) (b : β) (l : List α) (k : Nat) (h : k < l.length) : (l.take (k + 1)).foldl f b = f ((l.take k).foldl f b) l[k] := by
  rw [List.take_succ_eq_append_getElem h, List.foldl_append]; rfl
end Go.Proofs.Ythlfgjlnjmjppaa
