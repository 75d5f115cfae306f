/-
  DERIVED. GIVEN WITH THE SEED: THE CARDS: each row of YtngjecbdajognaaDoorRows.lean that lists a variable, with what it lists TIED to the program's text (the seventh form; the later family's looks); each row that meets fmt, with fmt's text TOLD by the authors' own Lean function (tested against real Go, not proved from fmt's source: count such statements apart). THE CARD IS WHAT COUNTS. Prove the row's statement (the work); the ties are given (YtngjecbdajognaaDoorTie.lean); close each card by the builder's one call (the guide's Derived/Test/ToyasCard.lean, 'card_holds'). Laid BY PROGRAM, IN A SANDBOX (cutbox-door.mjs). By AI agents, Wed Nov 11 2026. No macro, syntax, notation, axiom, sorry.
-/
import Derived.Test.YtngjecbdajognaaDoorRows
import GoSem.ClaimSeven
namespace Go.Proofs.YtngjecbdajognaaDoor
namespace Rows

/-- THE TIED CARD OF 'coveylaw04.StageRises'. -/
def stageRisesCard : Claim7 := { stood := { row := stageRisesRow, standIns := [], harness := (true, "4c84d1f249cee40b01d0a7e7c02002227c69bdc22554ff8ac0ec252d23ec2ae4"), looks := false }, kinds := [], alts := [], laidByText := true, laidKinds := [.widerDeep, .data], laidTests := true, laidLooks := .later }
def StageRisesCardSaid : Prop := Claim7.holds Tryd.pinned (.plain (OpenSpec.ofChange stageRisesSpec)) stageRisesCard

/-- THE TIED CARD OF 'coveylaw04.StageEnd'. -/
def stageEndCard : Claim7 := { stood := { row := stageEndRow, standIns := [], harness := (true, "4c84d1f249cee40b01d0a7e7c02002227c69bdc22554ff8ac0ec252d23ec2ae4"), looks := false }, kinds := [], alts := [], laidByText := true, laidKinds := [.widerDeep, .data], laidTests := true, laidLooks := .later }
def StageEndCardSaid : Prop := Claim7.holds Tryd.pinned (.plain (OpenSpec.ofChange stageEndSpec)) stageEndCard

/-- THE TIED CARD OF 'coveylaw04.StageMax'. -/
def stageMaxCard : Claim7 := { stood := { row := stageMaxRow, standIns := [], harness := (true, "4c84d1f249cee40b01d0a7e7c02002227c69bdc22554ff8ac0ec252d23ec2ae4"), looks := false }, kinds := [], alts := [], laidByText := true, laidKinds := [.widerDeep, .data], laidTests := true, laidLooks := .later }
def StageMaxCardSaid : Prop := Claim7.holds Tryd.pinned (.plain (OpenSpec.ofChange stageMaxSpec)) stageMaxCard

/-- THE TIED CARD OF 'coveylaw04.StageUp'. -/
def stageUpCard : Claim7 := { stood := { row := stageUpRow, standIns := [], harness := (true, "4c84d1f249cee40b01d0a7e7c02002227c69bdc22554ff8ac0ec252d23ec2ae4"), looks := false }, kinds := [], alts := [], laidByText := true, laidKinds := [.widerDeep, .data], laidTests := true, laidLooks := .later }
def StageUpCardSaid : Prop := Claim7.holds Tryd.pinned (.plain (OpenSpec.ofChange stageUpSpec)) stageUpCard

/-- THE TIED CARD OF 'coveylaw04.StageNames'. -/
def stageNamesCard : Claim7 := { stood := { row := stageNamesRow, standIns := [], harness := (true, "4c84d1f249cee40b01d0a7e7c02002227c69bdc22554ff8ac0ec252d23ec2ae4"), looks := false }, kinds := [], alts := [], laidByText := true, laidKinds := [.widerDeep, .data], laidTests := true, laidLooks := .later }
def StageNamesCardSaid : Prop := Claim7.holds Tryd.pinned (.plain (OpenSpec.ofChange stageNamesSpec)) stageNamesCard

/-- THE SECOND FORM's CARD OF 'coveylaw04.StageRises'. -/
def stageRisesUptoCard : Claim7 := { stood := { row := stageRisesUptoRow, standIns := [], harness := (true, "4c84d1f249cee40b01d0a7e7c02002227c69bdc22554ff8ac0ec252d23ec2ae4"), looks := false }, kinds := [], alts := [], laidByText := true, laidKinds := [.widerDeep, .data], laidTests := true, laidLooks := .later }
def StageRisesUptoCardSaid : Prop := Claim7.holds Tryd.pinned (.plain (OpenSpec.upto stageRisesSpec)) stageRisesUptoCard

/-- THE SECOND FORM's CARD OF 'coveylaw04.StageEnd'. -/
def stageEndUptoCard : Claim7 := { stood := { row := stageEndUptoRow, standIns := [], harness := (true, "4c84d1f249cee40b01d0a7e7c02002227c69bdc22554ff8ac0ec252d23ec2ae4"), looks := false }, kinds := [], alts := [], laidByText := true, laidKinds := [.widerDeep, .data], laidTests := true, laidLooks := .later }
def StageEndUptoCardSaid : Prop := Claim7.holds Tryd.pinned (.plain (OpenSpec.upto stageEndSpec)) stageEndUptoCard

/-- THE SECOND FORM's CARD OF 'coveylaw04.StageMax'. -/
def stageMaxUptoCard : Claim7 := { stood := { row := stageMaxUptoRow, standIns := [], harness := (true, "4c84d1f249cee40b01d0a7e7c02002227c69bdc22554ff8ac0ec252d23ec2ae4"), looks := false }, kinds := [], alts := [], laidByText := true, laidKinds := [.widerDeep, .data], laidTests := true, laidLooks := .later }
def StageMaxUptoCardSaid : Prop := Claim7.holds Tryd.pinned (.plain (OpenSpec.upto stageMaxSpec)) stageMaxUptoCard

/-- THE SECOND FORM's CARD OF 'coveylaw04.StageUp'. -/
def stageUpUptoCard : Claim7 := { stood := { row := stageUpUptoRow, standIns := [], harness := (true, "4c84d1f249cee40b01d0a7e7c02002227c69bdc22554ff8ac0ec252d23ec2ae4"), looks := false }, kinds := [], alts := [], laidByText := true, laidKinds := [.widerDeep, .data], laidTests := true, laidLooks := .later }
def StageUpUptoCardSaid : Prop := Claim7.holds Tryd.pinned (.plain (OpenSpec.upto stageUpSpec)) stageUpUptoCard

/-- THE SECOND FORM's CARD OF 'coveylaw04.StageNames'. -/
def stageNamesUptoCard : Claim7 := { stood := { row := stageNamesUptoRow, standIns := [], harness := (true, "4c84d1f249cee40b01d0a7e7c02002227c69bdc22554ff8ac0ec252d23ec2ae4"), looks := false }, kinds := [], alts := [], laidByText := true, laidKinds := [.widerDeep, .data], laidTests := true, laidLooks := .later }
def StageNamesUptoCardSaid : Prop := Claim7.holds Tryd.pinned (.plain (OpenSpec.upto stageNamesSpec)) stageNamesUptoCard
end Rows
end Go.Proofs.YtngjecbdajognaaDoor
