/-
  DERIVED. GIVEN WITH THE SEED: THE CARDS: each row of YtekmcoflagajkaaGreatDoorRows.lean that lists a variable, with what it lists TIED to the program's text (the seventh form; the later family's looks); each row that meets fmt, with fmt's text TOLD by the authors' own Lean function (tested against real Go, not proved from fmt's source: count such statements apart). THE CARD IS WHAT COUNTS. Prove the row's statement (the work); the ties are given (YtekmcoflagajkaaGreatDoorTie.lean); close each card by the builder's one call (the guide's Derived/Test/ToyasCard.lean, 'card_holds'). Laid BY PROGRAM, IN A SANDBOX (cutbox-door.mjs). By AI agents, Wed Nov 11 2026. No macro, syntax, notation, axiom, sorry.
-/
import Derived.Test.YtekmcoflagajkaaGreatDoorRows
import GoSem.ClaimSeven
namespace Go.Proofs.YtekmcoflagajkaaGreatDoor
namespace Rows

/-- THE TIED CARD OF 'gabletlaw08.PackWalk'. -/
def packWalkCard : Claim7 := { stood := { row := packWalkRow, standIns := [], harness := (true, "0b66ef7b3ad22e2db0e41824b4e4833ffd17bd56262c993c57499ae3b7f2f84c"), looks := true }, kinds := [], alts := [], laidByText := true, laidKinds := [.data, .data, .data], laidTests := true, laidLooks := .later }
def PackWalkCardSaid : Prop := Claim7.holds Tryz.pinned (.plain (OpenSpec.ofChange packWalkSpec)) packWalkCard

/-- THE TIED CARD OF 'gabletlaw08.PackBack'. -/
def packBackCard : Claim7 := { stood := { row := packBackRow, standIns := [], harness := (true, "0b66ef7b3ad22e2db0e41824b4e4833ffd17bd56262c993c57499ae3b7f2f84c"), looks := true }, kinds := [], alts := [], laidByText := true, laidKinds := [.data, .data, .data], laidTests := true, laidLooks := .later }
def PackBackCardSaid : Prop := Claim7.holds Tryz.pinned (.plain (OpenSpec.ofChange packBackSpec)) packBackCard

/-- THE TIED CARD OF 'gabletlaw08.PackBytes'. -/
def packBytesCard : Claim7 := { stood := { row := packBytesRow, standIns := [], harness := (true, "0b66ef7b3ad22e2db0e41824b4e4833ffd17bd56262c993c57499ae3b7f2f84c"), looks := true }, kinds := [], alts := [], laidByText := true, laidKinds := [.data, .data, .data], laidTests := true, laidLooks := .later }
def PackBytesCardSaid : Prop := Claim7.holds Tryz.pinned (.plain (OpenSpec.ofChange packBytesSpec)) packBytesCard

/-- THE SECOND FORM's CARD OF 'gabletlaw08.PackWalk'. -/
def packWalkUptoCard : Claim7 := { stood := { row := packWalkUptoRow, standIns := [], harness := (true, "0b66ef7b3ad22e2db0e41824b4e4833ffd17bd56262c993c57499ae3b7f2f84c"), looks := true }, kinds := [], alts := [], laidByText := true, laidKinds := [.data, .data, .data], laidTests := true, laidLooks := .later }
def PackWalkUptoCardSaid : Prop := Claim7.holds Tryz.pinned (.plain (OpenSpec.upto packWalkSpec)) packWalkUptoCard

/-- THE SECOND FORM's CARD OF 'gabletlaw08.PackBack'. -/
def packBackUptoCard : Claim7 := { stood := { row := packBackUptoRow, standIns := [], harness := (true, "0b66ef7b3ad22e2db0e41824b4e4833ffd17bd56262c993c57499ae3b7f2f84c"), looks := true }, kinds := [], alts := [], laidByText := true, laidKinds := [.data, .data, .data], laidTests := true, laidLooks := .later }
def PackBackUptoCardSaid : Prop := Claim7.holds Tryz.pinned (.plain (OpenSpec.upto packBackSpec)) packBackUptoCard

/-- THE SECOND FORM's CARD OF 'gabletlaw08.PackBytes'. -/
def packBytesUptoCard : Claim7 := { stood := { row := packBytesUptoRow, standIns := [], harness := (true, "0b66ef7b3ad22e2db0e41824b4e4833ffd17bd56262c993c57499ae3b7f2f84c"), looks := true }, kinds := [], alts := [], laidByText := true, laidKinds := [.data, .data, .data], laidTests := true, laidLooks := .later }
def PackBytesUptoCardSaid : Prop := Claim7.holds Tryz.pinned (.plain (OpenSpec.upto packBytesSpec)) packBytesUptoCard
end Rows
end Go.Proofs.YtekmcoflagajkaaGreatDoor
