/-
  DERIVED. GIVEN WITH THE SEED: THE CARDS: each row of YtekmcoflagajkaaDoorRows.lean that lists a variable, with what it lists TIED to the program's text (the seventh form; the later family's looks); each row that meets fmt, with fmt's text TOLD by the authors' own Lean function (tested against real Go, not proved from fmt's source: count such statements apart). THE CARD IS WHAT COUNTS. Prove the row's statement (the work); the ties are given (YtekmcoflagajkaaDoorTie.lean); close each card by the builder's one call (the guide's Derived/Test/ToyasCard.lean, 'card_holds'). Laid BY PROGRAM, IN A SANDBOX (cutbox-door.mjs). By AI agents, Wed Nov 11 2026. No macro, syntax, notation, axiom, sorry.
-/
import Derived.Test.YtekmcoflagajkaaDoorRows
import GoSem.ClaimSeven
namespace Go.Proofs.YtekmcoflagajkaaDoor
namespace Rows

/-- THE TIED CARD OF 'gabletlaw08.PackAny'. -/
def packAnyCard : Claim7 := { stood := { row := packAnyRow, standIns := [], harness := (true, "64ea46e784d9578d4c40b4dc7f8df5169de961c7126cb6ad6a245c6dec5e2fb6"), looks := true }, kinds := [], alts := [], laidByText := true, laidKinds := [.data, .data, .data], laidTests := true, laidLooks := .later }
def PackAnyCardSaid : Prop := Claim7.holds Tryd.pinned (.plain (OpenSpec.ofChange packAnySpec)) packAnyCard

/-- THE SECOND FORM's CARD OF 'gabletlaw08.PackAny'. -/
def packAnyUptoCard : Claim7 := { stood := { row := packAnyUptoRow, standIns := [], harness := (true, "64ea46e784d9578d4c40b4dc7f8df5169de961c7126cb6ad6a245c6dec5e2fb6"), looks := true }, kinds := [], alts := [], laidByText := true, laidKinds := [.data, .data, .data], laidTests := true, laidLooks := .later }
def PackAnyUptoCardSaid : Prop := Claim7.holds Tryd.pinned (.plain (OpenSpec.upto packAnySpec)) packAnyUptoCard
end Rows
end Go.Proofs.YtekmcoflagajkaaDoor
