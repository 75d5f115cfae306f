/-
  No cell of these rows narrows 'for every input' (looked for: loops, veiled, ifaces, maps, wideKeys, modest, calm, conditions, laid).
  DERIVED. THE GIVEN ROWS OF THIS SEAT. 2 by the template 'for every input the law returns true; each argument reads behind the call as it read before'; 0 by the template 'total and deterministic' (their statements: YtkiakphfgdkdiaaGreatTotals.lean).
  GIVEN WITH THE SEED: the statements are not yours to turn. If you find one false, say at which input.
  Laid BY PROGRAM, IN A SANDBOX (cutbox-rows.mjs): the forced cells as the released guide's own fill.sh prints them over the translation 42522e49e0141db4… (all of the seat's roots in one cut). By AI agents, Wed Nov 11 2026. No macro, syntax, notation, axiom, sorry.
-/
import Derived.Test.YtkiakphfgdkdiaaGreatChecked
import GoSem.Claim
import GoSem.ClaimJoined
import GoSem.ClaimMapViews
import Derived.JoinedTies
import Derived.KernelRfl
namespace Go.Proofs.YtkiakphfgdkdiaaGreat
/- THE CELL 'sum', in the pinned program and in every row, IS THE sha256 OF THE DUMP (.gsa) THAT YtkiakphfgdkdiaaGreatProg.lean LOADS. Nothing in Lean hashes anything: it is a label: what it is worth is what the hold of that sum in a sandbox is worth. -/
noncomputable def Tryz.pinned : Pinned := { name := "ytkiakphfgdkdiaagreat", sum := "42522e49e0141db4f6f73c81f2c616e7e949ef87830fac6ad50c3b02c6cb4a5d", checked := Tryz.checked }
namespace Rows
def none {H : Type} : Left H := { results := [], args := [] }

/-- 'coveylaw28.NodeIn': WHATEVER THE INPUT: true; the input reads as it did. -/
def nodeInSpec : ChangeSpec := { name := "nodeIn", fn := fun _ => fun
  | [d1, d2] => { results := [.lit (.bool true)], args := [d1, d2] }
  | _ => none }
def nodeInRow : OpenClaim := { program := "ytkiakphfgdkdiaagreat", sum := "42522e49e0141db4f6f73c81f2c616e7e949ef87830fac6ad50c3b02c6cb4a5d", func := "covey/coveylaw28.NodeIn", spec := "nodeIn", inPlace := ["slices.overlaps[covey/api.Row]"], unfollowed := true, recurses := true, plainKeys := false, apart := false }
def NodeInSaid : Prop := nodeInRow.holds Tryz.pinned (OpenSpec.ofChange nodeInSpec)

/-- ITS FALSE NEIGHBOUR: 'it returns false'. Refute it at one input. -/
def nodeInWrong : ChangeSpec := { name := "nodeIn", fn := fun _ => fun
  | [d1, d2] => { results := [.lit (.bool false)], args := [d1, d2] }
  | _ => none }
def NodeInWrongFalsely : Prop := nodeInRow.holds Tryz.pinned (OpenSpec.ofChange nodeInWrong)

/-- 'coveylaw28.NodeNames': WHATEVER THE INPUT: true; the input reads as it did. -/
def nodeNamesSpec : ChangeSpec := { name := "nodeNames", fn := fun _ => fun
  | [] => { results := [.lit (.bool true)], args := [] }
  | _ => none }
def nodeNamesRow : OpenClaim := { program := "ytkiakphfgdkdiaagreat", sum := "42522e49e0141db4f6f73c81f2c616e7e949ef87830fac6ad50c3b02c6cb4a5d", func := "covey/coveylaw28.NodeNames", spec := "nodeNames", inPlace := ["slices.overlaps[covey/api.Row]", "maps.clone"], unfollowed := true, recurses := true, plainKeys := false, apart := false }
def NodeNamesSaid : Prop := nodeNamesRow.holds Tryz.pinned (OpenSpec.ofChange nodeNamesSpec)

/-- ITS FALSE NEIGHBOUR: 'it returns false'. Refute it at one input. -/
def nodeNamesWrong : ChangeSpec := { name := "nodeNames", fn := fun _ => fun
  | [] => { results := [.lit (.bool false)], args := [] }
  | _ => none }
def NodeNamesWrongFalsely : Prop := nodeNamesRow.holds Tryz.pinned (OpenSpec.ofChange nodeNamesWrong)

/- THE SECOND FORM. 'bulk': how many values and letters a reading holds, each counted each time it is reached (what is shared counts as often as it is met; a slice's spare places count too). A statement '..UptoSaid' is the law's where the arguments, and the package variables that the reading takes, are together of bulk at most 1048576: NARROWER than '..Said'. Prove '..Said' where nothing that the law and all that it calls make is longer than what came in: it says more and counts as full. Else prove '..UptoSaid'. A law counts once. -/
mutual
def uptoBulk {H : Type} : DataW H → Nat
  | .lit (.string bytes) => bytes.length + 1
  | .lit _ => 1
  | .nil => 1
  | .ptr d => uptoBulk d + 1
  | .slice elems spare => uptoBulkAll elems + uptoBulkAll spare + 1
  | .agg parts => uptoBulkAll parts + 1
  | .iface _ d => uptoBulk d + 1
  | .map entries => uptoBulkEntries entries + 1
  | .held _ => 1
def uptoBulkAll {H : Type} : List (DataW H) → Nat
  | [] => 0
  | d :: r => uptoBulk d + uptoBulkAll r
def uptoBulkEntries {H : Type} : List (Lit × DataW H) → Nat
  | [] => 0
  | x :: r => uptoBulkEntry x + uptoBulkEntries r
def uptoBulkEntry {H : Type} : Lit × DataW H → Nat
  | (.string bytes, d) => bytes.length + uptoBulk d + 1
  | (_, d) => uptoBulk d + 1
 end
def uptoSmall : (H : Type) → List (DataW H) → Bool := fun _ ds => decide (uptoBulkAll ds ≤ 1048576)
def OpenSpec.upto (s : _root_.Go.ChangeSpec) : _root_.Go.OpenSpec := { _root_.Go.OpenSpec.ofChange s with cond := some uptoSmall }

/-- 'coveylaw28.NodeIn', WHERE WHAT IT READS IS OF BULK AT MOST 1048576: true; the input reads as it did. -/
def nodeInUptoRow : OpenClaim := { program := "ytkiakphfgdkdiaagreat", sum := "42522e49e0141db4f6f73c81f2c616e7e949ef87830fac6ad50c3b02c6cb4a5d", func := "covey/coveylaw28.NodeIn", spec := "nodeIn", inPlace := ["slices.overlaps[covey/api.Row]"], unfollowed := true, recurses := true, plainKeys := false, apart := false, narrowed := true }
def NodeInUptoSaid : Prop := nodeInUptoRow.holds Tryz.pinned (OpenSpec.upto nodeInSpec)

/-- 'coveylaw28.NodeNames', WHERE WHAT IT READS IS OF BULK AT MOST 1048576: true; the input reads as it did. -/
def nodeNamesUptoRow : OpenClaim := { program := "ytkiakphfgdkdiaagreat", sum := "42522e49e0141db4f6f73c81f2c616e7e949ef87830fac6ad50c3b02c6cb4a5d", func := "covey/coveylaw28.NodeNames", spec := "nodeNames", inPlace := ["slices.overlaps[covey/api.Row]", "maps.clone"], unfollowed := true, recurses := true, plainKeys := false, apart := false, narrowed := true }
def NodeNamesUptoSaid : Prop := nodeNamesUptoRow.holds Tryz.pinned (OpenSpec.upto nodeNamesSpec)

end Rows
end Go.Proofs.YtkiakphfgdkdiaaGreat
