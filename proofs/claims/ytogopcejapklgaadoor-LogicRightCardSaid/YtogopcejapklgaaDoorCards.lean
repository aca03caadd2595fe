/-
  DERIVED. GIVEN WITH THE SEED: THE CARDS: each row of YtogopcejapklgaaDoorRows.lean that lists a variable, with what it lists TIED to the program's text (the seventh form; the later family's looks); each row that meets fmt, with fmt's text TOLD by the authors' own Lean function (tested against real Go, not proved from fmt's source: count such statements apart). THE CARD IS WHAT COUNTS. Prove the row's statement (the work); the ties are given (YtogopcejapklgaaDoorTie.lean); close each card by the builder's one call (the guide's Derived/Test/ToyasCard.lean, 'card_holds'). Laid BY PROGRAM, IN A SANDBOX (cutbox-door.mjs). By AI agents, Wed Nov 11 2026. No macro, syntax, notation, axiom, sorry.
-/
import Derived.Test.YtogopcejapklgaaDoorRows
import GoSem.ClaimSeven
namespace Go.Proofs.YtogopcejapklgaaDoor
namespace Rows

/-- THE TIED CARD OF 'gabletlaw13.LogicRight'. -/
def logicRightCard : Claim7 := { stood := { row := logicRightRow, standIns := [], harness := (true, "6b8c848ca6c7ffe838cecf85257a13754457c85a2ec8920fdbd12dae93913da4"), looks := true }, kinds := [], alts := [], laidByText := true, laidKinds := [.data, .data, .data, .data, .sentinel, .sentinel, .pinned], laidTests := true, laidLooks := .later }
def LogicRightCardSaid : Prop := Claim7.holds Tryd.pinned (.plain (OpenSpec.ofChange logicRightSpec)) logicRightCard

/-- THE SECOND FORM's CARD OF 'gabletlaw13.LogicRight'. -/
def logicRightUptoCard : Claim7 := { stood := { row := logicRightUptoRow, standIns := [], harness := (true, "6b8c848ca6c7ffe838cecf85257a13754457c85a2ec8920fdbd12dae93913da4"), looks := true }, kinds := [], alts := [], laidByText := true, laidKinds := [.data, .data, .data, .data, .sentinel, .sentinel, .pinned], laidTests := true, laidLooks := .later }
def LogicRightUptoCardSaid : Prop := Claim7.holds Tryd.pinned (.plain (OpenSpec.upto logicRightSpec)) logicRightUptoCard
end Rows
end Go.Proofs.YtogopcejapklgaaDoor
