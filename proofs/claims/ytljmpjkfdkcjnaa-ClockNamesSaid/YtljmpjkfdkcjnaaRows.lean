/-
  No cell of these rows narrows 'for every input' (looked for: loops, veiled, ifaces, maps, wideKeys, modest, calm, conditions, laid).
  DERIVED. THE GIVEN ROWS OF THIS SEAT. 5 by the template 'for every input the law returns true; each argument reads behind the call as it read before'; 0 by the template 'total and deterministic' (their statements: YtljmpjkfdkcjnaaTotals.lean).
  GIVEN WITH THE SEED: the statements are not yours to turn. If you find one false, say at which input.
  Laid BY PROGRAM, IN A SANDBOX (cutbox-rows.mjs): the forced cells as the released guide's own fill.sh prints them over the translation 6b894c7c3d5576c0… (all of the seat's roots in one cut). By AI agents, Wed Nov 11 2026. No macro, syntax, notation, axiom, sorry.
-/
import Derived.Test.YtljmpjkfdkcjnaaChecked
import GoSem.Claim
import GoSem.ClaimJoined
import GoSem.ClaimMapViews
import Derived.JoinedTies
import Derived.KernelRfl
namespace Go.Proofs.Ytljmpjkfdkcjnaa
/- THE CELL 'sum', in the pinned program and in every row, IS THE sha256 OF THE DUMP (.gsa) THAT YtljmpjkfdkcjnaaProg.lean LOADS. Nothing in Lean hashes anything: it is a label: what it is worth is what the hold of that sum in a sandbox is worth. -/
noncomputable def Try.pinned : Pinned := { name := "ytljmpjkfdkcjnaa", sum := "6b894c7c3d5576c0079be84f5de1d02219bb680d2a5f220822e079d08c3cc6fc", checked := Try.checked }
namespace Rows
def none {H : Type} : Left H := { results := [], args := [] }

/-- 'coveylaw05.ClockNames': WHATEVER THE INPUT: true; the input reads as it did. -/
def clockNamesSpec : ChangeSpec := { name := "clockNames", fn := fun _ => fun
  | [] => { results := [.lit (.bool true)], args := [] }
  | _ => none }
def clockNamesRow : OpenClaim := { program := "ytljmpjkfdkcjnaa", sum := "6b894c7c3d5576c0079be84f5de1d02219bb680d2a5f220822e079d08c3cc6fc", func := "covey/coveylaw05.ClockNames", spec := "clockNames", unfollowed := true, recurses := true, apart := false }
def ClockNamesSaid : Prop := clockNamesRow.holds Try.pinned (OpenSpec.ofChange clockNamesSpec)

/-- ITS FALSE NEIGHBOUR: 'it returns false'. Refute it at one input. -/
def clockNamesWrong : ChangeSpec := { name := "clockNames", fn := fun _ => fun
  | [] => { results := [.lit (.bool false)], args := [] }
  | _ => none }
def ClockNamesWrongFalsely : Prop := clockNamesRow.holds Try.pinned (OpenSpec.ofChange clockNamesWrong)

/-- 'coveylaw05.ClockGreater': WHATEVER THE INPUT: true; the input reads as it did. -/
def clockGreaterSpec : ChangeSpec := { name := "clockGreater", fn := fun _ => fun
  | [d1, d2, d3, d4] => { results := [.lit (.bool true)], args := [d1, d2, d3, d4] }
  | _ => none }
def clockGreaterRow : OpenClaim := { program := "ytljmpjkfdkcjnaa", sum := "6b894c7c3d5576c0079be84f5de1d02219bb680d2a5f220822e079d08c3cc6fc", func := "covey/coveylaw05.ClockGreater", spec := "clockGreater", unfollowed := true, recurses := true, apart := false }
def ClockGreaterSaid : Prop := clockGreaterRow.holds Try.pinned (OpenSpec.ofChange clockGreaterSpec)

/-- ITS FALSE NEIGHBOUR: 'it returns false'. Refute it at one input. -/
def clockGreaterWrong : ChangeSpec := { name := "clockGreater", fn := fun _ => fun
  | [d1, d2, d3, d4] => { results := [.lit (.bool false)], args := [d1, d2, d3, d4] }
  | _ => none }
def ClockGreaterWrongFalsely : Prop := clockGreaterRow.holds Try.pinned (OpenSpec.ofChange clockGreaterWrong)

/-- 'coveylaw05.ClockLaws': WHATEVER THE INPUT: true; the input reads as it did. -/
def clockLawsSpec : ChangeSpec := { name := "clockLaws", fn := fun _ => fun
  | [d1, d2, d3] => { results := [.lit (.bool true)], args := [d1, d2, d3] }
  | _ => none }
def clockLawsRow : OpenClaim := { program := "ytljmpjkfdkcjnaa", sum := "6b894c7c3d5576c0079be84f5de1d02219bb680d2a5f220822e079d08c3cc6fc", func := "covey/coveylaw05.ClockLaws", spec := "clockLaws", unfollowed := true, recurses := true, apart := false }
def ClockLawsSaid : Prop := clockLawsRow.holds Try.pinned (OpenSpec.ofChange clockLawsSpec)

/-- ITS FALSE NEIGHBOUR: 'it returns false'. Refute it at one input. -/
def clockLawsWrong : ChangeSpec := { name := "clockLaws", fn := fun _ => fun
  | [d1, d2, d3] => { results := [.lit (.bool false)], args := [d1, d2, d3] }
  | _ => none }
def ClockLawsWrongFalsely : Prop := clockLawsRow.holds Try.pinned (OpenSpec.ofChange clockLawsWrong)

/-- 'coveylaw05.ClockStands': WHATEVER THE INPUT: true; the input reads as it did. -/
def clockStandsSpec : ChangeSpec := { name := "clockStands", fn := fun _ => fun
  | [d1, d2, d3] => { results := [.lit (.bool true)], args := [d1, d2, d3] }
  | _ => none }
def clockStandsRow : OpenClaim := { program := "ytljmpjkfdkcjnaa", sum := "6b894c7c3d5576c0079be84f5de1d02219bb680d2a5f220822e079d08c3cc6fc", func := "covey/coveylaw05.ClockStands", spec := "clockStands", unfollowed := true, recurses := true, apart := false }
def ClockStandsSaid : Prop := clockStandsRow.holds Try.pinned (OpenSpec.ofChange clockStandsSpec)

/-- ITS FALSE NEIGHBOUR: 'it returns false'. Refute it at one input. -/
def clockStandsWrong : ChangeSpec := { name := "clockStands", fn := fun _ => fun
  | [d1, d2, d3] => { results := [.lit (.bool false)], args := [d1, d2, d3] }
  | _ => none }
def ClockStandsWrongFalsely : Prop := clockStandsRow.holds Try.pinned (OpenSpec.ofChange clockStandsWrong)

/-- 'coveylaw05.ClockApart': WHATEVER THE INPUT: true; the input reads as it did. -/
def clockApartSpec : ChangeSpec := { name := "clockApart", fn := fun _ => fun
  | [d1, d2, d3] => { results := [.lit (.bool true)], args := [d1, d2, d3] }
  | _ => none }
def clockApartRow : OpenClaim := { program := "ytljmpjkfdkcjnaa", sum := "6b894c7c3d5576c0079be84f5de1d02219bb680d2a5f220822e079d08c3cc6fc", func := "covey/coveylaw05.ClockApart", spec := "clockApart", unfollowed := true, recurses := true, apart := false }
def ClockApartSaid : Prop := clockApartRow.holds Try.pinned (OpenSpec.ofChange clockApartSpec)

/-- ITS FALSE NEIGHBOUR: 'it returns false'. Refute it at one input. -/
def clockApartWrong : ChangeSpec := { name := "clockApart", fn := fun _ => fun
  | [d1, d2, d3] => { results := [.lit (.bool false)], args := [d1, d2, d3] }
  | _ => none }
def ClockApartWrongFalsely : Prop := clockApartRow.holds Try.pinned (OpenSpec.ofChange clockApartWrong)

/- THE SECOND FORM. 'bulk': how many values and letters a reading holds, each counted each time it is reached (what is shared counts as often as it is met; a slice's spare places count too). A statement '..UptoSaid' is the law's where the arguments, and the package variables that the reading takes, are together of bulk at most 1048576: NARROWER than '..Said'. Prove '..Said' where nothing that the law and all that it calls make is longer than what came in: it says more and counts as full. Else prove '..UptoSaid'. A law counts once. -/
mutual
def uptoBulk {H : Type} : DataW H → Nat
  | .lit (.string bytes) => bytes.length + 1
  | .lit _ => 1
  | .nil => 1
  | .ptr d => uptoBulk d + 1
  | .slice elems spare => uptoBulkAll elems + uptoBulkAll spare + 1
  | .agg parts => uptoBulkAll parts + 1
  | .iface _ d => uptoBulk d + 1
  | .map entries => uptoBulkEntries entries + 1
  | .held _ => 1
def uptoBulkAll {H : Type} : List (DataW H) → Nat
  | [] => 0
  | d :: r => uptoBulk d + uptoBulkAll r
def uptoBulkEntries {H : Type} : List (Lit × DataW H) → Nat
  | [] => 0
  | x :: r => uptoBulkEntry x + uptoBulkEntries r
def uptoBulkEntry {H : Type} : Lit × DataW H → Nat
  | (.string bytes, d) => bytes.length + uptoBulk d + 1
  | (_, d) => uptoBulk d + 1
 end
def uptoSmall : (H : Type) → List (DataW H) → Bool := fun _ ds => decide (uptoBulkAll ds ≤ 1048576)
def OpenSpec.upto (s : _root_.Go.ChangeSpec) : _root_.Go.OpenSpec := { _root_.Go.OpenSpec.ofChange s with cond := some uptoSmall }

/-- 'coveylaw05.ClockNames', WHERE WHAT IT READS IS OF BULK AT MOST 1048576: true; the input reads as it did. -/
def clockNamesUptoRow : OpenClaim := { program := "ytljmpjkfdkcjnaa", sum := "6b894c7c3d5576c0079be84f5de1d02219bb680d2a5f220822e079d08c3cc6fc", func := "covey/coveylaw05.ClockNames", spec := "clockNames", unfollowed := true, recurses := true, apart := false, narrowed := true }
def ClockNamesUptoSaid : Prop := clockNamesUptoRow.holds Try.pinned (OpenSpec.upto clockNamesSpec)

/-- 'coveylaw05.ClockGreater', WHERE WHAT IT READS IS OF BULK AT MOST 1048576: true; the input reads as it did. -/
def clockGreaterUptoRow : OpenClaim := { program := "ytljmpjkfdkcjnaa", sum := "6b894c7c3d5576c0079be84f5de1d02219bb680d2a5f220822e079d08c3cc6fc", func := "covey/coveylaw05.ClockGreater", spec := "clockGreater", unfollowed := true, recurses := true, apart := false, narrowed := true }
def ClockGreaterUptoSaid : Prop := clockGreaterUptoRow.holds Try.pinned (OpenSpec.upto clockGreaterSpec)

/-- 'coveylaw05.ClockLaws', WHERE WHAT IT READS IS OF BULK AT MOST 1048576: true; the input reads as it did. -/
def clockLawsUptoRow : OpenClaim := { program := "ytljmpjkfdkcjnaa", sum := "6b894c7c3d5576c0079be84f5de1d02219bb680d2a5f220822e079d08c3cc6fc", func := "covey/coveylaw05.ClockLaws", spec := "clockLaws", unfollowed := true, recurses := true, apart := false, narrowed := true }
def ClockLawsUptoSaid : Prop := clockLawsUptoRow.holds Try.pinned (OpenSpec.upto clockLawsSpec)

/-- 'coveylaw05.ClockStands', WHERE WHAT IT READS IS OF BULK AT MOST 1048576: true; the input reads as it did. -/
def clockStandsUptoRow : OpenClaim := { program := "ytljmpjkfdkcjnaa", sum := "6b894c7c3d5576c0079be84f5de1d02219bb680d2a5f220822e079d08c3cc6fc", func := "covey/coveylaw05.ClockStands", spec := "clockStands", unfollowed := true, recurses := true, apart := false, narrowed := true }
def ClockStandsUptoSaid : Prop := clockStandsUptoRow.holds Try.pinned (OpenSpec.upto clockStandsSpec)

/-- 'coveylaw05.ClockApart', WHERE WHAT IT READS IS OF BULK AT MOST 1048576: true; the input reads as it did. -/
def clockApartUptoRow : OpenClaim := { program := "ytljmpjkfdkcjnaa", sum := "6b894c7c3d5576c0079be84f5de1d02219bb680d2a5f220822e079d08c3cc6fc", func := "covey/coveylaw05.ClockApart", spec := "clockApart", unfollowed := true, recurses := true, apart := false, narrowed := true }
def ClockApartUptoSaid : Prop := clockApartUptoRow.holds Try.pinned (OpenSpec.upto clockApartSpec)

end Rows
end Go.Proofs.Ytljmpjkfdkcjnaa
