/-
  NARROWER THAN 'FOR EVERY INPUT', by the rows' own cells (each row's printed sentence says how): StageRises: laid · StageEnd: laid · StageMax: laid · StageUp: laid · StageNames: laid.
  DERIVED. THE GIVEN ROWS OF THIS SEAT. 5 by the template 'for every input the law returns true; each argument reads behind the call as it read before'; 0 by the template 'total and deterministic' (their statements: YtngjecbdajognaaDoorTotals.lean).
  GIVEN WITH THE SEED: the statements are not yours to turn. If you find one false, say at which input.
  Laid BY PROGRAM, IN A SANDBOX (cutbox-rows.mjs): the forced cells as the released guide's own fill.sh prints them over the translation 643b1d75531388f5… (all of the seat's roots in one cut). By AI agents, Wed Nov 11 2026. No macro, syntax, notation, axiom, sorry.
-/
import Derived.Test.YtngjecbdajognaaDoorChecked
import GoSem.Claim
import GoSem.ClaimJoined
import GoSem.ClaimMapViews
import Derived.JoinedTies
import Derived.KernelRfl
namespace Go.Proofs.YtngjecbdajognaaDoor
/- THE CELL 'sum', in the pinned program and in every row, IS THE sha256 OF THE DUMP (.gsa) THAT YtngjecbdajognaaDoorProg.lean LOADS. Nothing in Lean hashes anything: it is a label: what it is worth is what the hold of that sum in a sandbox is worth. -/
noncomputable def Tryd.pinned : Pinned := { name := "ytngjecbdajognaadoor", sum := "643b1d75531388f575423442062f74cea243060748cddef79b81bfc25b048c48", checked := Tryd.checked }
namespace Rows
def none {H : Type} : Left H := { results := [], args := [] }

/- WHAT THE LISTED PACKAGE-LEVEL VARIABLES READ AS WHEN THE CALL BEGINS. Each datum BY PROGRAM (the guide's laid-datum.mjs) off the statement by which the dump's own 'gosem.cut.vars' lays the variable. In a bare row this is a premise. The card (YtngjecbdajognaaDoorCards.lean) ties it to the program's text. -/
def laid_covey_stage_names {H : Type} : DataW H := .agg [.lit (.string []), .lit (.string [106, 111, 105, 110, 105, 110, 103]), .lit (.string [119, 101, 97, 107]), .lit (.string [117, 112]), .lit (.string [108, 101, 97, 118, 105, 110, 103]), .lit (.string [101, 120, 105, 116, 105, 110, 103]), .lit (.string [100, 111, 119, 110]), .lit (.string [114, 101, 109, 111, 118, 101, 100])]
def laid_covey_stage_edges {H : Type} : DataW H := .agg [.agg [.lit (.int .u8 0), .lit (.int .u8 1), .lit (.int .u8 0), .lit (.int .u8 4), .lit (.int .u8 0), .lit (.int .u8 0), .lit (.int .u8 0), .lit (.int .u8 0)], .agg [.lit (.int .u8 0), .lit (.int .u8 0), .lit (.int .u8 2), .lit (.int .u8 2), .lit (.int .u8 0), .lit (.int .u8 4), .lit (.int .u8 8), .lit (.int .u8 1)], .agg [.lit (.int .u8 0), .lit (.int .u8 0), .lit (.int .u8 0), .lit (.int .u8 2), .lit (.int .u8 0), .lit (.int .u8 4), .lit (.int .u8 8), .lit (.int .u8 1)], .agg [.lit (.int .u8 0), .lit (.int .u8 0), .lit (.int .u8 0), .lit (.int .u8 0), .lit (.int .u8 4), .lit (.int .u8 0), .lit (.int .u8 8), .lit (.int .u8 1)], .agg [.lit (.int .u8 0), .lit (.int .u8 0), .lit (.int .u8 0), .lit (.int .u8 0), .lit (.int .u8 0), .lit (.int .u8 2), .lit (.int .u8 8), .lit (.int .u8 1)], .agg [.lit (.int .u8 0), .lit (.int .u8 0), .lit (.int .u8 0), .lit (.int .u8 0), .lit (.int .u8 0), .lit (.int .u8 0), .lit (.int .u8 8), .lit (.int .u8 3)], .agg [.lit (.int .u8 0), .lit (.int .u8 0), .lit (.int .u8 0), .lit (.int .u8 0), .lit (.int .u8 0), .lit (.int .u8 0), .lit (.int .u8 0), .lit (.int .u8 3)], .agg [.lit (.int .u8 0), .lit (.int .u8 0), .lit (.int .u8 0), .lit (.int .u8 0), .lit (.int .u8 0), .lit (.int .u8 0), .lit (.int .u8 0), .lit (.int .u8 0)]]

/-- 'coveylaw04.StageRises': WHATEVER THE INPUT: true; the input reads as it did. -/
def stageRisesSpec : ChangeSpec := { name := "stageRises", fn := fun _ => fun
  | [d1, d2] => { results := [.lit (.bool true)], args := [d1, d2] }
  | _ => none }
def stageRisesRow : OpenClaim := { program := "ytngjecbdajognaadoor", sum := "643b1d75531388f575423442062f74cea243060748cddef79b81bfc25b048c48", func := "covey/coveylaw04.StageRises", spec := "stageRises", unfollowed := true, recurses := true, named := ["covey/stage.names", "covey/stage.edges"], apart := false, laid := [("covey/stage.names", laid_covey_stage_names), ("covey/stage.edges", laid_covey_stage_edges)] }
def StageRisesSaid : Prop := stageRisesRow.holds Tryd.pinned (OpenSpec.ofChange stageRisesSpec)

/-- ITS FALSE NEIGHBOUR: 'it returns false'. Refute it at one input. -/
def stageRisesWrong : ChangeSpec := { name := "stageRises", fn := fun _ => fun
  | [d1, d2] => { results := [.lit (.bool false)], args := [d1, d2] }
  | _ => none }
def StageRisesWrongFalsely : Prop := stageRisesRow.holds Tryd.pinned (OpenSpec.ofChange stageRisesWrong)

/-- 'coveylaw04.StageEnd': WHATEVER THE INPUT: true; the input reads as it did. -/
def stageEndSpec : ChangeSpec := { name := "stageEnd", fn := fun _ => fun
  | [d1, d2] => { results := [.lit (.bool true)], args := [d1, d2] }
  | _ => none }
def stageEndRow : OpenClaim := { program := "ytngjecbdajognaadoor", sum := "643b1d75531388f575423442062f74cea243060748cddef79b81bfc25b048c48", func := "covey/coveylaw04.StageEnd", spec := "stageEnd", unfollowed := true, recurses := true, named := ["covey/stage.names", "covey/stage.edges"], apart := false, laid := [("covey/stage.names", laid_covey_stage_names), ("covey/stage.edges", laid_covey_stage_edges)] }
def StageEndSaid : Prop := stageEndRow.holds Tryd.pinned (OpenSpec.ofChange stageEndSpec)

/-- ITS FALSE NEIGHBOUR: 'it returns false'. Refute it at one input. -/
def stageEndWrong : ChangeSpec := { name := "stageEnd", fn := fun _ => fun
  | [d1, d2] => { results := [.lit (.bool false)], args := [d1, d2] }
  | _ => none }
def StageEndWrongFalsely : Prop := stageEndRow.holds Tryd.pinned (OpenSpec.ofChange stageEndWrong)

/-- 'coveylaw04.StageMax': WHATEVER THE INPUT: true; the input reads as it did. -/
def stageMaxSpec : ChangeSpec := { name := "stageMax", fn := fun _ => fun
  | [d1, d2, d3] => { results := [.lit (.bool true)], args := [d1, d2, d3] }
  | _ => none }
def stageMaxRow : OpenClaim := { program := "ytngjecbdajognaadoor", sum := "643b1d75531388f575423442062f74cea243060748cddef79b81bfc25b048c48", func := "covey/coveylaw04.StageMax", spec := "stageMax", unfollowed := true, recurses := true, named := ["covey/stage.names", "covey/stage.edges"], apart := false, laid := [("covey/stage.names", laid_covey_stage_names), ("covey/stage.edges", laid_covey_stage_edges)] }
def StageMaxSaid : Prop := stageMaxRow.holds Tryd.pinned (OpenSpec.ofChange stageMaxSpec)

/-- ITS FALSE NEIGHBOUR: 'it returns false'. Refute it at one input. -/
def stageMaxWrong : ChangeSpec := { name := "stageMax", fn := fun _ => fun
  | [d1, d2, d3] => { results := [.lit (.bool false)], args := [d1, d2, d3] }
  | _ => none }
def StageMaxWrongFalsely : Prop := stageMaxRow.holds Tryd.pinned (OpenSpec.ofChange stageMaxWrong)

/-- 'coveylaw04.StageUp': WHATEVER THE INPUT: true; the input reads as it did. -/
def stageUpSpec : ChangeSpec := { name := "stageUp", fn := fun _ => fun
  | [d] => { results := [.lit (.bool true)], args := [d] }
  | _ => none }
def stageUpRow : OpenClaim := { program := "ytngjecbdajognaadoor", sum := "643b1d75531388f575423442062f74cea243060748cddef79b81bfc25b048c48", func := "covey/coveylaw04.StageUp", spec := "stageUp", unfollowed := true, recurses := true, named := ["covey/stage.names", "covey/stage.edges"], apart := false, laid := [("covey/stage.names", laid_covey_stage_names), ("covey/stage.edges", laid_covey_stage_edges)] }
def StageUpSaid : Prop := stageUpRow.holds Tryd.pinned (OpenSpec.ofChange stageUpSpec)

/-- ITS FALSE NEIGHBOUR: 'it returns false'. Refute it at one input. -/
def stageUpWrong : ChangeSpec := { name := "stageUp", fn := fun _ => fun
  | [d] => { results := [.lit (.bool false)], args := [d] }
  | _ => none }
def StageUpWrongFalsely : Prop := stageUpRow.holds Tryd.pinned (OpenSpec.ofChange stageUpWrong)

/-- 'coveylaw04.StageNames': WHATEVER THE INPUT: true; the input reads as it did. -/
def stageNamesSpec : ChangeSpec := { name := "stageNames", fn := fun _ => fun
  | [] => { results := [.lit (.bool true)], args := [] }
  | _ => none }
def stageNamesRow : OpenClaim := { program := "ytngjecbdajognaadoor", sum := "643b1d75531388f575423442062f74cea243060748cddef79b81bfc25b048c48", func := "covey/coveylaw04.StageNames", spec := "stageNames", unfollowed := true, recurses := true, named := ["covey/stage.names", "covey/stage.edges"], apart := false, laid := [("covey/stage.names", laid_covey_stage_names), ("covey/stage.edges", laid_covey_stage_edges)] }
def StageNamesSaid : Prop := stageNamesRow.holds Tryd.pinned (OpenSpec.ofChange stageNamesSpec)

/-- ITS FALSE NEIGHBOUR: 'it returns false'. Refute it at one input. -/
def stageNamesWrong : ChangeSpec := { name := "stageNames", fn := fun _ => fun
  | [] => { results := [.lit (.bool false)], args := [] }
  | _ => none }
def StageNamesWrongFalsely : Prop := stageNamesRow.holds Tryd.pinned (OpenSpec.ofChange stageNamesWrong)

/- THE SECOND FORM. 'bulk': how many values and letters a reading holds, each counted each time it is reached (what is shared counts as often as it is met; a slice's spare places count too). A statement '..UptoSaid' is the law's where the arguments, and the package variables that the reading takes, are together of bulk at most 1048576: NARROWER than '..Said'. Prove '..Said' where nothing that the law and all that it calls make is longer than what came in: it says more and counts as full. Else prove '..UptoSaid'. A law counts once. -/
mutual
def uptoBulk {H : Type} : DataW H → Nat
  | .lit (.string bytes) => bytes.length + 1
  | .lit _ => 1
  | .nil => 1
  | .ptr d => uptoBulk d + 1
  | .slice elems spare => uptoBulkAll elems + uptoBulkAll spare + 1
  | .agg parts => uptoBulkAll parts + 1
  | .iface _ d => uptoBulk d + 1
  | .map entries => uptoBulkEntries entries + 1
  | .held _ => 1
def uptoBulkAll {H : Type} : List (DataW H) → Nat
  | [] => 0
  | d :: r => uptoBulk d + uptoBulkAll r
def uptoBulkEntries {H : Type} : List (Lit × DataW H) → Nat
  | [] => 0
  | x :: r => uptoBulkEntry x + uptoBulkEntries r
def uptoBulkEntry {H : Type} : Lit × DataW H → Nat
  | (.string bytes, d) => bytes.length + uptoBulk d + 1
  | (_, d) => uptoBulk d + 1
 end
def uptoSmall : (H : Type) → List (DataW H) → Bool := fun _ ds => decide (uptoBulkAll ds ≤ 1048576)
def OpenSpec.upto (s : _root_.Go.ChangeSpec) : _root_.Go.OpenSpec := { _root_.Go.OpenSpec.ofChange s with cond := some uptoSmall }

/-- 'coveylaw04.StageRises', WHERE WHAT IT READS IS OF BULK AT MOST 1048576: true; the input reads as it did. -/
def stageRisesUptoRow : OpenClaim := { program := "ytngjecbdajognaadoor", sum := "643b1d75531388f575423442062f74cea243060748cddef79b81bfc25b048c48", func := "covey/coveylaw04.StageRises", spec := "stageRises", unfollowed := true, recurses := true, named := ["covey/stage.names", "covey/stage.edges"], apart := false, laid := [("covey/stage.names", laid_covey_stage_names), ("covey/stage.edges", laid_covey_stage_edges)], narrowed := true }
def StageRisesUptoSaid : Prop := stageRisesUptoRow.holds Tryd.pinned (OpenSpec.upto stageRisesSpec)

/-- 'coveylaw04.StageEnd', WHERE WHAT IT READS IS OF BULK AT MOST 1048576: true; the input reads as it did. -/
def stageEndUptoRow : OpenClaim := { program := "ytngjecbdajognaadoor", sum := "643b1d75531388f575423442062f74cea243060748cddef79b81bfc25b048c48", func := "covey/coveylaw04.StageEnd", spec := "stageEnd", unfollowed := true, recurses := true, named := ["covey/stage.names", "covey/stage.edges"], apart := false, laid := [("covey/stage.names", laid_covey_stage_names), ("covey/stage.edges", laid_covey_stage_edges)], narrowed := true }
def StageEndUptoSaid : Prop := stageEndUptoRow.holds Tryd.pinned (OpenSpec.upto stageEndSpec)

/-- 'coveylaw04.StageMax', WHERE WHAT IT READS IS OF BULK AT MOST 1048576: true; the input reads as it did. -/
def stageMaxUptoRow : OpenClaim := { program := "ytngjecbdajognaadoor", sum := "643b1d75531388f575423442062f74cea243060748cddef79b81bfc25b048c48", func := "covey/coveylaw04.StageMax", spec := "stageMax", unfollowed := true, recurses := true, named := ["covey/stage.names", "covey/stage.edges"], apart := false, laid := [("covey/stage.names", laid_covey_stage_names), ("covey/stage.edges", laid_covey_stage_edges)], narrowed := true }
def StageMaxUptoSaid : Prop := stageMaxUptoRow.holds Tryd.pinned (OpenSpec.upto stageMaxSpec)

/-- 'coveylaw04.StageUp', WHERE WHAT IT READS IS OF BULK AT MOST 1048576: true; the input reads as it did. -/
def stageUpUptoRow : OpenClaim := { program := "ytngjecbdajognaadoor", sum := "643b1d75531388f575423442062f74cea243060748cddef79b81bfc25b048c48", func := "covey/coveylaw04.StageUp", spec := "stageUp", unfollowed := true, recurses := true, named := ["covey/stage.names", "covey/stage.edges"], apart := false, laid := [("covey/stage.names", laid_covey_stage_names), ("covey/stage.edges", laid_covey_stage_edges)], narrowed := true }
def StageUpUptoSaid : Prop := stageUpUptoRow.holds Tryd.pinned (OpenSpec.upto stageUpSpec)

/-- 'coveylaw04.StageNames', WHERE WHAT IT READS IS OF BULK AT MOST 1048576: true; the input reads as it did. -/
def stageNamesUptoRow : OpenClaim := { program := "ytngjecbdajognaadoor", sum := "643b1d75531388f575423442062f74cea243060748cddef79b81bfc25b048c48", func := "covey/coveylaw04.StageNames", spec := "stageNames", unfollowed := true, recurses := true, named := ["covey/stage.names", "covey/stage.edges"], apart := false, laid := [("covey/stage.names", laid_covey_stage_names), ("covey/stage.edges", laid_covey_stage_edges)], narrowed := true }
def StageNamesUptoSaid : Prop := stageNamesUptoRow.holds Tryd.pinned (OpenSpec.upto stageNamesSpec)

end Rows
end Go.Proofs.YtngjecbdajognaaDoor
