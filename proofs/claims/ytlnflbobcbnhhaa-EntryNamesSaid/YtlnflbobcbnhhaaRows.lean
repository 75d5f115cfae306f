/-
  No cell of these rows narrows 'for every input' (looked for: loops, veiled, ifaces, maps, wideKeys, modest, calm, conditions, laid).
  DERIVED. THE GIVEN ROWS OF THIS SEAT. 5 by the template 'for every input the law returns true; each argument reads behind the call as it read before'; 0 by the template 'total and deterministic' (their statements: YtlnflbobcbnhhaaTotals.lean).
  GIVEN WITH THE SEED: the statements are not yours to turn. If you find one false, say at which input.
  Laid BY PROGRAM, IN A SANDBOX (cutbox-rows.mjs): the forced cells as the released guide's own fill.sh prints them over the translation 66e9e6bc9a7de8b4… (all of the seat's roots in one cut). By AI agents, Wed Nov 11 2026. No macro, syntax, notation, axiom, sorry.
-/
import Derived.Test.YtlnflbobcbnhhaaChecked
import GoSem.Claim
import GoSem.ClaimJoined
import GoSem.ClaimMapViews
import Derived.JoinedTies
import Derived.KernelRfl
namespace Go.Proofs.Ytlnflbobcbnhhaa
/- THE CELL 'sum', in the pinned program and in every row, IS THE sha256 OF THE DUMP (.gsa) THAT YtlnflbobcbnhhaaProg.lean LOADS. Nothing in Lean hashes anything: it is a label: what it is worth is what the hold of that sum in a sandbox is worth. -/
noncomputable def Try.pinned : Pinned := { name := "ytlnflbobcbnhhaa", sum := "66e9e6bc9a7de8b4f45486ea973838f81f5074c2bbe586a3f53ab5db28588c5a", checked := Try.checked }
namespace Rows
def none {H : Type} : Left H := { results := [], args := [] }

/-- 'coveylaw19.EntryWhom': WHATEVER THE INPUT: true; the input reads as it did. -/
def entryWhomSpec : ChangeSpec := { name := "entryWhom", fn := fun _ => fun
  | [d1, d2, d3] => { results := [.lit (.bool true)], args := [d1, d2, d3] }
  | _ => none }
def entryWhomRow : OpenClaim := { program := "ytlnflbobcbnhhaa", sum := "66e9e6bc9a7de8b4f45486ea973838f81f5074c2bbe586a3f53ab5db28588c5a", func := "covey/coveylaw19.EntryWhom", spec := "entryWhom", unfollowed := true, recurses := true, apart := false }
def EntryWhomSaid : Prop := entryWhomRow.holds Try.pinned (OpenSpec.ofChange entryWhomSpec)

/-- ITS FALSE NEIGHBOUR: 'it returns false'. Refute it at one input. -/
def entryWhomWrong : ChangeSpec := { name := "entryWhom", fn := fun _ => fun
  | [d1, d2, d3] => { results := [.lit (.bool false)], args := [d1, d2, d3] }
  | _ => none }
def EntryWhomWrongFalsely : Prop := entryWhomRow.holds Try.pinned (OpenSpec.ofChange entryWhomWrong)

/-- 'coveylaw19.EntryOne': WHATEVER THE INPUT: true; the input reads as it did. -/
def entryOneSpec : ChangeSpec := { name := "entryOne", fn := fun _ => fun
  | [d1, d2, d3, d4, d5, d6] => { results := [.lit (.bool true)], args := [d1, d2, d3, d4, d5, d6] }
  | _ => none }
def entryOneRow : OpenClaim := { program := "ytlnflbobcbnhhaa", sum := "66e9e6bc9a7de8b4f45486ea973838f81f5074c2bbe586a3f53ab5db28588c5a", func := "covey/coveylaw19.EntryOne", spec := "entryOne", unfollowed := true, recurses := true, apart := false }
def EntryOneSaid : Prop := entryOneRow.holds Try.pinned (OpenSpec.ofChange entryOneSpec)

/-- ITS FALSE NEIGHBOUR: 'it returns false'. Refute it at one input. -/
def entryOneWrong : ChangeSpec := { name := "entryOne", fn := fun _ => fun
  | [d1, d2, d3, d4, d5, d6] => { results := [.lit (.bool false)], args := [d1, d2, d3, d4, d5, d6] }
  | _ => none }
def EntryOneWrongFalsely : Prop := entryOneRow.holds Try.pinned (OpenSpec.ofChange entryOneWrong)

/-- 'coveylaw19.EntryAlone': WHATEVER THE INPUT: true; the input reads as it did. -/
def entryAloneSpec : ChangeSpec := { name := "entryAlone", fn := fun _ => fun
  | [d1, d2, d3, d4] => { results := [.lit (.bool true)], args := [d1, d2, d3, d4] }
  | _ => none }
def entryAloneRow : OpenClaim := { program := "ytlnflbobcbnhhaa", sum := "66e9e6bc9a7de8b4f45486ea973838f81f5074c2bbe586a3f53ab5db28588c5a", func := "covey/coveylaw19.EntryAlone", spec := "entryAlone", unfollowed := true, recurses := true, apart := false }
def EntryAloneSaid : Prop := entryAloneRow.holds Try.pinned (OpenSpec.ofChange entryAloneSpec)

/-- ITS FALSE NEIGHBOUR: 'it returns false'. Refute it at one input. -/
def entryAloneWrong : ChangeSpec := { name := "entryAlone", fn := fun _ => fun
  | [d1, d2, d3, d4] => { results := [.lit (.bool false)], args := [d1, d2, d3, d4] }
  | _ => none }
def EntryAloneWrongFalsely : Prop := entryAloneRow.holds Try.pinned (OpenSpec.ofChange entryAloneWrong)

/-- 'coveylaw19.EntryTime': WHATEVER THE INPUT: true; the input reads as it did. -/
def entryTimeSpec : ChangeSpec := { name := "entryTime", fn := fun _ => fun
  | [d1, d2, d3] => { results := [.lit (.bool true)], args := [d1, d2, d3] }
  | _ => none }
def entryTimeRow : OpenClaim := { program := "ytlnflbobcbnhhaa", sum := "66e9e6bc9a7de8b4f45486ea973838f81f5074c2bbe586a3f53ab5db28588c5a", func := "covey/coveylaw19.EntryTime", spec := "entryTime", unfollowed := true, recurses := true, apart := false }
def EntryTimeSaid : Prop := entryTimeRow.holds Try.pinned (OpenSpec.ofChange entryTimeSpec)

/-- ITS FALSE NEIGHBOUR: 'it returns false'. Refute it at one input. -/
def entryTimeWrong : ChangeSpec := { name := "entryTime", fn := fun _ => fun
  | [d1, d2, d3] => { results := [.lit (.bool false)], args := [d1, d2, d3] }
  | _ => none }
def EntryTimeWrongFalsely : Prop := entryTimeRow.holds Try.pinned (OpenSpec.ofChange entryTimeWrong)

/-- 'coveylaw19.EntryNames': WHATEVER THE INPUT: true; the input reads as it did. -/
def entryNamesSpec : ChangeSpec := { name := "entryNames", fn := fun _ => fun
  | [] => { results := [.lit (.bool true)], args := [] }
  | _ => none }
def entryNamesRow : OpenClaim := { program := "ytlnflbobcbnhhaa", sum := "66e9e6bc9a7de8b4f45486ea973838f81f5074c2bbe586a3f53ab5db28588c5a", func := "covey/coveylaw19.EntryNames", spec := "entryNames", unfollowed := true, recurses := true, apart := false }
def EntryNamesSaid : Prop := entryNamesRow.holds Try.pinned (OpenSpec.ofChange entryNamesSpec)

/-- ITS FALSE NEIGHBOUR: 'it returns false'. Refute it at one input. -/
def entryNamesWrong : ChangeSpec := { name := "entryNames", fn := fun _ => fun
  | [] => { results := [.lit (.bool false)], args := [] }
  | _ => none }
def EntryNamesWrongFalsely : Prop := entryNamesRow.holds Try.pinned (OpenSpec.ofChange entryNamesWrong)

/- THE SECOND FORM. 'bulk': how many values and letters a reading holds, each counted each time it is reached (what is shared counts as often as it is met; a slice's spare places count too). A statement '..UptoSaid' is the law's where the arguments, and the package variables that the reading takes, are together of bulk at most 1048576: NARROWER than '..Said'. Prove '..Said' where nothing that the law and all that it calls make is longer than what came in: it says more and counts as full. Else prove '..UptoSaid'. A law counts once. -/
mutual
def uptoBulk {H : Type} : DataW H → Nat
  | .lit (.string bytes) => bytes.length + 1
  | .lit _ => 1
  | .nil => 1
  | .ptr d => uptoBulk d + 1
  | .slice elems spare => uptoBulkAll elems + uptoBulkAll spare + 1
  | .agg parts => uptoBulkAll parts + 1
  | .iface _ d => uptoBulk d + 1
  | .map entries => uptoBulkEntries entries + 1
  | .held _ => 1
def uptoBulkAll {H : Type} : List (DataW H) → Nat
  | [] => 0
  | d :: r => uptoBulk d + uptoBulkAll r
def uptoBulkEntries {H : Type} : List (Lit × DataW H) → Nat
  | [] => 0
  | x :: r => uptoBulkEntry x + uptoBulkEntries r
def uptoBulkEntry {H : Type} : Lit × DataW H → Nat
  | (.string bytes, d) => bytes.length + uptoBulk d + 1
  | (_, d) => uptoBulk d + 1
 end
def uptoSmall : (H : Type) → List (DataW H) → Bool := fun _ ds => decide (uptoBulkAll ds ≤ 1048576)
def OpenSpec.upto (s : _root_.Go.ChangeSpec) : _root_.Go.OpenSpec := { _root_.Go.OpenSpec.ofChange s with cond := some uptoSmall }

/-- 'coveylaw19.EntryWhom', WHERE WHAT IT READS IS OF BULK AT MOST 1048576: true; the input reads as it did. -/
def entryWhomUptoRow : OpenClaim := { program := "ytlnflbobcbnhhaa", sum := "66e9e6bc9a7de8b4f45486ea973838f81f5074c2bbe586a3f53ab5db28588c5a", func := "covey/coveylaw19.EntryWhom", spec := "entryWhom", unfollowed := true, recurses := true, apart := false, narrowed := true }
def EntryWhomUptoSaid : Prop := entryWhomUptoRow.holds Try.pinned (OpenSpec.upto entryWhomSpec)

/-- 'coveylaw19.EntryOne', WHERE WHAT IT READS IS OF BULK AT MOST 1048576: true; the input reads as it did. -/
def entryOneUptoRow : OpenClaim := { program := "ytlnflbobcbnhhaa", sum := "66e9e6bc9a7de8b4f45486ea973838f81f5074c2bbe586a3f53ab5db28588c5a", func := "covey/coveylaw19.EntryOne", spec := "entryOne", unfollowed := true, recurses := true, apart := false, narrowed := true }
def EntryOneUptoSaid : Prop := entryOneUptoRow.holds Try.pinned (OpenSpec.upto entryOneSpec)

/-- 'coveylaw19.EntryAlone', WHERE WHAT IT READS IS OF BULK AT MOST 1048576: true; the input reads as it did. -/
def entryAloneUptoRow : OpenClaim := { program := "ytlnflbobcbnhhaa", sum := "66e9e6bc9a7de8b4f45486ea973838f81f5074c2bbe586a3f53ab5db28588c5a", func := "covey/coveylaw19.EntryAlone", spec := "entryAlone", unfollowed := true, recurses := true, apart := false, narrowed := true }
def EntryAloneUptoSaid : Prop := entryAloneUptoRow.holds Try.pinned (OpenSpec.upto entryAloneSpec)

/-- 'coveylaw19.EntryTime', WHERE WHAT IT READS IS OF BULK AT MOST 1048576: true; the input reads as it did. -/
def entryTimeUptoRow : OpenClaim := { program := "ytlnflbobcbnhhaa", sum := "66e9e6bc9a7de8b4f45486ea973838f81f5074c2bbe586a3f53ab5db28588c5a", func := "covey/coveylaw19.EntryTime", spec := "entryTime", unfollowed := true, recurses := true, apart := false, narrowed := true }
def EntryTimeUptoSaid : Prop := entryTimeUptoRow.holds Try.pinned (OpenSpec.upto entryTimeSpec)

/-- 'coveylaw19.EntryNames', WHERE WHAT IT READS IS OF BULK AT MOST 1048576: true; the input reads as it did. -/
def entryNamesUptoRow : OpenClaim := { program := "ytlnflbobcbnhhaa", sum := "66e9e6bc9a7de8b4f45486ea973838f81f5074c2bbe586a3f53ab5db28588c5a", func := "covey/coveylaw19.EntryNames", spec := "entryNames", unfollowed := true, recurses := true, apart := false, narrowed := true }
def EntryNamesUptoSaid : Prop := entryNamesUptoRow.holds Try.pinned (OpenSpec.upto entryNamesSpec)

end Rows
end Go.Proofs.Ytlnflbobcbnhhaa
