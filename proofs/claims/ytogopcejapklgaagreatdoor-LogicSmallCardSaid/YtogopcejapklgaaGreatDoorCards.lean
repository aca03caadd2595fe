/-
  DERIVED. GIVEN WITH THE SEED: THE CARDS: each row of YtogopcejapklgaaGreatDoorRows.lean that lists a variable, with what it lists TIED to the program's text (the seventh form; the later family's looks); each row that meets fmt, with fmt's text TOLD by the authors' own Lean function (tested against real Go, not proved from fmt's source: count such statements apart). THE CARD IS WHAT COUNTS. Prove the row's statement (the work); the ties are given (YtogopcejapklgaaGreatDoorTie.lean); close each card by the builder's one call (the guide's Derived/Test/ToyasCard.lean, 'card_holds'). Laid BY PROGRAM, IN A SANDBOX (cutbox-door.mjs). By AI agents, Wed Nov 11 2026. No macro, syntax, notation, axiom, sorry.
-/
import Derived.Test.YtogopcejapklgaaGreatDoorRows
import GoSem.ClaimSeven
namespace Go.Proofs.YtogopcejapklgaaGreatDoor
namespace Rows

/-- THE TIED CARD OF 'gabletlaw13.LogicSmall'. -/
def logicSmallCard : Claim7 := { stood := { row := logicSmallRow, standIns := [], harness := (true, "05a8c18fccf00d710425253e98f119eec071d4ef9681d5e728abbffd28bb44fc"), looks := true }, kinds := [], alts := [], laidByText := true, laidKinds := [.data, .data, .data, .data, .sentinel, .sentinel, .pinned], laidTests := true, laidLooks := .later }
def LogicSmallCardSaid : Prop := Claim7.holds Tryz.pinned (.plain (OpenSpec.ofChange logicSmallSpec)) logicSmallCard

/-- THE TIED CARD OF 'gabletlaw13.LogicBack'. -/
def logicBackCard : Claim7 := { stood := { row := logicBackRow, standIns := [], harness := (true, "05a8c18fccf00d710425253e98f119eec071d4ef9681d5e728abbffd28bb44fc"), looks := true }, kinds := [], alts := [], laidByText := true, laidKinds := [.data, .data, .data, .data, .sentinel, .sentinel, .pinned], laidTests := true, laidLooks := .later }
def LogicBackCardSaid : Prop := Claim7.holds Tryz.pinned (.plain (OpenSpec.ofChange logicBackSpec)) logicBackCard

/-- THE SECOND FORM's CARD OF 'gabletlaw13.LogicSmall'. -/
def logicSmallUptoCard : Claim7 := { stood := { row := logicSmallUptoRow, standIns := [], harness := (true, "05a8c18fccf00d710425253e98f119eec071d4ef9681d5e728abbffd28bb44fc"), looks := true }, kinds := [], alts := [], laidByText := true, laidKinds := [.data, .data, .data, .data, .sentinel, .sentinel, .pinned], laidTests := true, laidLooks := .later }
def LogicSmallUptoCardSaid : Prop := Claim7.holds Tryz.pinned (.plain (OpenSpec.upto logicSmallSpec)) logicSmallUptoCard

/-- THE SECOND FORM's CARD OF 'gabletlaw13.LogicBack'. -/
def logicBackUptoCard : Claim7 := { stood := { row := logicBackUptoRow, standIns := [], harness := (true, "05a8c18fccf00d710425253e98f119eec071d4ef9681d5e728abbffd28bb44fc"), looks := true }, kinds := [], alts := [], laidByText := true, laidKinds := [.data, .data, .data, .data, .sentinel, .sentinel, .pinned], laidTests := true, laidLooks := .later }
def LogicBackUptoCardSaid : Prop := Claim7.holds Tryz.pinned (.plain (OpenSpec.upto logicBackSpec)) logicBackUptoCard
end Rows
end Go.Proofs.YtogopcejapklgaaGreatDoor
