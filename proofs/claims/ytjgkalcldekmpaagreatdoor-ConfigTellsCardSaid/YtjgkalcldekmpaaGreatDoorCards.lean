/-
  DERIVED. GIVEN WITH THE SEED: THE CARDS: each row of YtjgkalcldekmpaaGreatDoorRows.lean that lists a variable, with what it lists TIED to the program's text (the seventh form; the later family's looks); each row that meets fmt, with fmt's text TOLD by the authors' own Lean function (tested against real Go, not proved from fmt's source: count such statements apart). THE CARD IS WHAT COUNTS. Prove the row's statement (the work); the ties are given (YtjgkalcldekmpaaGreatDoorTie.lean); close each card by the builder's one call (the guide's Derived/Test/ToyasCard.lean, 'card_holds'). Laid BY PROGRAM, IN A SANDBOX (cutbox-door.mjs). By AI agents, Wed Nov 11 2026. No macro, syntax, notation, axiom, sorry.
-/
import Derived.Test.YtjgkalcldekmpaaGreatDoorRows
import GoSem.ClaimSeven
namespace Go.Proofs.YtjgkalcldekmpaaGreatDoor
namespace Rows

/-- THE TIED CARD OF 'coveylaw26.ConfigRows'. -/
def configRowsCard : Claim7 := { stood := { row := configRowsRow, standIns := [], harness := (true, "3ecb5e7730251ee938450ff41398063a2eec168a928e170161626a05b72576fc"), looks := true }, kinds := [], alts := [], laidByText := true, laidKinds := [.data, .data, .data, .data, .sentinel, .sentinel, .widerDeep, .pinned], laidTests := true, laidLooks := .later }
def ConfigRowsCardSaid : Prop := Claim7.holds Tryz.pinned (.plain (OpenSpec.ofChange configRowsSpec)) configRowsCard

/-- THE TIED CARD OF 'coveylaw26.ConfigFirst'. -/
def configFirstCard : Claim7 := { stood := { row := configFirstRow, standIns := [], harness := (true, "3ecb5e7730251ee938450ff41398063a2eec168a928e170161626a05b72576fc"), looks := true }, kinds := [], alts := [], laidByText := true, laidKinds := [.data, .data, .data, .data, .sentinel, .sentinel, .widerDeep, .pinned], laidTests := true, laidLooks := .later }
def ConfigFirstCardSaid : Prop := Claim7.holds Tryz.pinned (.plain (OpenSpec.ofChange configFirstSpec)) configFirstCard

/-- THE TIED CARD OF 'coveylaw26.ConfigTwice'. -/
def configTwiceCard : Claim7 := { stood := { row := configTwiceRow, standIns := [], harness := (true, "3ecb5e7730251ee938450ff41398063a2eec168a928e170161626a05b72576fc"), looks := true }, kinds := [], alts := [], laidByText := true, laidKinds := [.data, .data, .data, .data, .sentinel, .sentinel, .widerDeep, .pinned], laidTests := true, laidLooks := .later }
def ConfigTwiceCardSaid : Prop := Claim7.holds Tryz.pinned (.plain (OpenSpec.ofChange configTwiceSpec)) configTwiceCard

/-- THE TIED CARD OF 'coveylaw26.ConfigTells'. -/
def configTellsCard : Claim7 := { stood := { row := configTellsRow, standIns := [], harness := (true, "3ecb5e7730251ee938450ff41398063a2eec168a928e170161626a05b72576fc"), looks := true }, kinds := [], alts := [], laidByText := true, laidKinds := [.data, .data, .data, .data, .sentinel, .sentinel, .widerDeep, .pinned], laidTests := true, laidLooks := .later }
def ConfigTellsCardSaid : Prop := Claim7.holds Tryz.pinned (.plain (OpenSpec.ofChange configTellsSpec)) configTellsCard

/-- THE TIED CARD OF 'coveylaw26.ConfigNames'. -/
def configNamesCard : Claim7 := { stood := { row := configNamesRow, standIns := [], harness := (true, "3ecb5e7730251ee938450ff41398063a2eec168a928e170161626a05b72576fc"), looks := true }, kinds := [], alts := [], laidByText := true, laidKinds := [.data, .data, .data, .data, .sentinel, .sentinel, .widerDeep, .pinned], laidTests := true, laidLooks := .later }
def ConfigNamesCardSaid : Prop := Claim7.holds Tryz.pinned (.plain (OpenSpec.ofChange configNamesSpec)) configNamesCard

/-- THE TIED CARD OF 'coveylaw26.ConfigBack'. -/
def configBackCard : Claim7 := { stood := { row := configBackRow, standIns := [], harness := (true, "3ecb5e7730251ee938450ff41398063a2eec168a928e170161626a05b72576fc"), looks := true }, kinds := [], alts := [], laidByText := true, laidKinds := [.data, .data, .data, .data, .sentinel, .sentinel, .widerDeep, .pinned], laidTests := true, laidLooks := .later }
def ConfigBackCardSaid : Prop := Claim7.holds Tryz.pinned (.plain (OpenSpec.ofChange configBackSpec)) configBackCard

/-- THE SECOND FORM's CARD OF 'coveylaw26.ConfigRows'. -/
def configRowsUptoCard : Claim7 := { stood := { row := configRowsUptoRow, standIns := [], harness := (true, "3ecb5e7730251ee938450ff41398063a2eec168a928e170161626a05b72576fc"), looks := true }, kinds := [], alts := [], laidByText := true, laidKinds := [.data, .data, .data, .data, .sentinel, .sentinel, .widerDeep, .pinned], laidTests := true, laidLooks := .later }
def ConfigRowsUptoCardSaid : Prop := Claim7.holds Tryz.pinned (.plain (OpenSpec.upto configRowsSpec)) configRowsUptoCard

/-- THE SECOND FORM's CARD OF 'coveylaw26.ConfigFirst'. -/
def configFirstUptoCard : Claim7 := { stood := { row := configFirstUptoRow, standIns := [], harness := (true, "3ecb5e7730251ee938450ff41398063a2eec168a928e170161626a05b72576fc"), looks := true }, kinds := [], alts := [], laidByText := true, laidKinds := [.data, .data, .data, .data, .sentinel, .sentinel, .widerDeep, .pinned], laidTests := true, laidLooks := .later }
def ConfigFirstUptoCardSaid : Prop := Claim7.holds Tryz.pinned (.plain (OpenSpec.upto configFirstSpec)) configFirstUptoCard

/-- THE SECOND FORM's CARD OF 'coveylaw26.ConfigTwice'. -/
def configTwiceUptoCard : Claim7 := { stood := { row := configTwiceUptoRow, standIns := [], harness := (true, "3ecb5e7730251ee938450ff41398063a2eec168a928e170161626a05b72576fc"), looks := true }, kinds := [], alts := [], laidByText := true, laidKinds := [.data, .data, .data, .data, .sentinel, .sentinel, .widerDeep, .pinned], laidTests := true, laidLooks := .later }
def ConfigTwiceUptoCardSaid : Prop := Claim7.holds Tryz.pinned (.plain (OpenSpec.upto configTwiceSpec)) configTwiceUptoCard

/-- THE SECOND FORM's CARD OF 'coveylaw26.ConfigTells'. -/
def configTellsUptoCard : Claim7 := { stood := { row := configTellsUptoRow, standIns := [], harness := (true, "3ecb5e7730251ee938450ff41398063a2eec168a928e170161626a05b72576fc"), looks := true }, kinds := [], alts := [], laidByText := true, laidKinds := [.data, .data, .data, .data, .sentinel, .sentinel, .widerDeep, .pinned], laidTests := true, laidLooks := .later }
def ConfigTellsUptoCardSaid : Prop := Claim7.holds Tryz.pinned (.plain (OpenSpec.upto configTellsSpec)) configTellsUptoCard

/-- THE SECOND FORM's CARD OF 'coveylaw26.ConfigNames'. -/
def configNamesUptoCard : Claim7 := { stood := { row := configNamesUptoRow, standIns := [], harness := (true, "3ecb5e7730251ee938450ff41398063a2eec168a928e170161626a05b72576fc"), looks := true }, kinds := [], alts := [], laidByText := true, laidKinds := [.data, .data, .data, .data, .sentinel, .sentinel, .widerDeep, .pinned], laidTests := true, laidLooks := .later }
def ConfigNamesUptoCardSaid : Prop := Claim7.holds Tryz.pinned (.plain (OpenSpec.upto configNamesSpec)) configNamesUptoCard

/-- THE SECOND FORM's CARD OF 'coveylaw26.ConfigBack'. -/
def configBackUptoCard : Claim7 := { stood := { row := configBackUptoRow, standIns := [], harness := (true, "3ecb5e7730251ee938450ff41398063a2eec168a928e170161626a05b72576fc"), looks := true }, kinds := [], alts := [], laidByText := true, laidKinds := [.data, .data, .data, .data, .sentinel, .sentinel, .widerDeep, .pinned], laidTests := true, laidLooks := .later }
def ConfigBackUptoCardSaid : Prop := Claim7.holds Tryz.pinned (.plain (OpenSpec.upto configBackSpec)) configBackUptoCard
end Rows
end Go.Proofs.YtjgkalcldekmpaaGreatDoor
