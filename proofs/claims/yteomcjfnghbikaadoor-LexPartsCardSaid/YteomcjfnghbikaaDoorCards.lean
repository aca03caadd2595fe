/-
  DERIVED. GIVEN WITH THE SEED: THE CARDS: each row of YteomcjfnghbikaaDoorRows.lean that lists a variable, with what it lists TIED to the program's text (the seventh form; the later family's looks); each row that meets fmt, with fmt's text TOLD by the authors' own Lean function (tested against real Go, not proved from fmt's source: count such statements apart). THE CARD IS WHAT COUNTS. Prove the row's statement (the work); the ties are given (YteomcjfnghbikaaDoorTie.lean); close each card by the builder's one call (the guide's Derived/Test/ToyasCard.lean, 'card_holds'). Laid BY PROGRAM, IN A SANDBOX (cutbox-door.mjs). By AI agents, Wed Nov 11 2026. No macro, syntax, notation, axiom, sorry.
-/
import Derived.Test.YteomcjfnghbikaaDoorRows
import GoSem.ClaimSeven
namespace Go.Proofs.YteomcjfnghbikaaDoor
namespace Rows

/-- THE TIED CARD OF 'gabletlaw01.LexAny'. -/
def lexAnyCard : Claim7 := { stood := { row := lexAnyRow, standIns := [], harness := (true, "56a7b695cf81ea983f499fcb1c96b4718e4b17b1b8543574a275e33affe4b528"), looks := true }, kinds := [], alts := [], laidByText := true, laidKinds := [.data, .data, .data, .data, .sentinel, .sentinel, .pinned], laidTests := true, laidLooks := .later }
def LexAnyCardSaid : Prop := Claim7.holds Tryd.pinned (.plain (OpenSpec.ofChange lexAnySpec)) lexAnyCard

/-- THE TIED CARD OF 'gabletlaw01.LexSmall'. -/
def lexSmallCard : Claim7 := { stood := { row := lexSmallRow, standIns := [], harness := (true, "56a7b695cf81ea983f499fcb1c96b4718e4b17b1b8543574a275e33affe4b528"), looks := true }, kinds := [], alts := [], laidByText := true, laidKinds := [.data, .data, .data, .data, .sentinel, .sentinel, .pinned], laidTests := true, laidLooks := .later }
def LexSmallCardSaid : Prop := Claim7.holds Tryd.pinned (.plain (OpenSpec.ofChange lexSmallSpec)) lexSmallCard

/-- THE TIED CARD OF 'gabletlaw01.LexBack'. -/
def lexBackCard : Claim7 := { stood := { row := lexBackRow, standIns := [], harness := (true, "56a7b695cf81ea983f499fcb1c96b4718e4b17b1b8543574a275e33affe4b528"), looks := true }, kinds := [], alts := [], laidByText := true, laidKinds := [.data, .data, .data, .data, .sentinel, .sentinel, .pinned], laidTests := true, laidLooks := .later }
def LexBackCardSaid : Prop := Claim7.holds Tryd.pinned (.plain (OpenSpec.ofChange lexBackSpec)) lexBackCard

/-- THE TIED CARD OF 'gabletlaw01.LexParts'. -/
def lexPartsCard : Claim7 := { stood := { row := lexPartsRow, standIns := [], harness := (true, "56a7b695cf81ea983f499fcb1c96b4718e4b17b1b8543574a275e33affe4b528"), looks := true }, kinds := [], alts := [], laidByText := true, laidKinds := [.data, .data, .data, .data, .sentinel, .sentinel, .pinned], laidTests := true, laidLooks := .later }
def LexPartsCardSaid : Prop := Claim7.holds Tryd.pinned (.plain (OpenSpec.ofChange lexPartsSpec)) lexPartsCard

/-- THE TIED CARD OF 'gabletlaw01.LexNumber'. -/
def lexNumberCard : Claim7 := { stood := { row := lexNumberRow, standIns := [], harness := (true, "56a7b695cf81ea983f499fcb1c96b4718e4b17b1b8543574a275e33affe4b528"), looks := true }, kinds := [], alts := [], laidByText := true, laidKinds := [.data, .data, .data, .data, .sentinel, .sentinel, .pinned], laidTests := true, laidLooks := .later }
def LexNumberCardSaid : Prop := Claim7.holds Tryd.pinned (.plain (OpenSpec.ofChange lexNumberSpec)) lexNumberCard

/-- THE SECOND FORM's CARD OF 'gabletlaw01.LexAny'. -/
def lexAnyUptoCard : Claim7 := { stood := { row := lexAnyUptoRow, standIns := [], harness := (true, "56a7b695cf81ea983f499fcb1c96b4718e4b17b1b8543574a275e33affe4b528"), looks := true }, kinds := [], alts := [], laidByText := true, laidKinds := [.data, .data, .data, .data, .sentinel, .sentinel, .pinned], laidTests := true, laidLooks := .later }
def LexAnyUptoCardSaid : Prop := Claim7.holds Tryd.pinned (.plain (OpenSpec.upto lexAnySpec)) lexAnyUptoCard

/-- THE SECOND FORM's CARD OF 'gabletlaw01.LexSmall'. -/
def lexSmallUptoCard : Claim7 := { stood := { row := lexSmallUptoRow, standIns := [], harness := (true, "56a7b695cf81ea983f499fcb1c96b4718e4b17b1b8543574a275e33affe4b528"), looks := true }, kinds := [], alts := [], laidByText := true, laidKinds := [.data, .data, .data, .data, .sentinel, .sentinel, .pinned], laidTests := true, laidLooks := .later }
def LexSmallUptoCardSaid : Prop := Claim7.holds Tryd.pinned (.plain (OpenSpec.upto lexSmallSpec)) lexSmallUptoCard

/-- THE SECOND FORM's CARD OF 'gabletlaw01.LexBack'. -/
def lexBackUptoCard : Claim7 := { stood := { row := lexBackUptoRow, standIns := [], harness := (true, "56a7b695cf81ea983f499fcb1c96b4718e4b17b1b8543574a275e33affe4b528"), looks := true }, kinds := [], alts := [], laidByText := true, laidKinds := [.data, .data, .data, .data, .sentinel, .sentinel, .pinned], laidTests := true, laidLooks := .later }
def LexBackUptoCardSaid : Prop := Claim7.holds Tryd.pinned (.plain (OpenSpec.upto lexBackSpec)) lexBackUptoCard

/-- THE SECOND FORM's CARD OF 'gabletlaw01.LexParts'. -/
def lexPartsUptoCard : Claim7 := { stood := { row := lexPartsUptoRow, standIns := [], harness := (true, "56a7b695cf81ea983f499fcb1c96b4718e4b17b1b8543574a275e33affe4b528"), looks := true }, kinds := [], alts := [], laidByText := true, laidKinds := [.data, .data, .data, .data, .sentinel, .sentinel, .pinned], laidTests := true, laidLooks := .later }
def LexPartsUptoCardSaid : Prop := Claim7.holds Tryd.pinned (.plain (OpenSpec.upto lexPartsSpec)) lexPartsUptoCard

/-- THE SECOND FORM's CARD OF 'gabletlaw01.LexNumber'. -/
def lexNumberUptoCard : Claim7 := { stood := { row := lexNumberUptoRow, standIns := [], harness := (true, "56a7b695cf81ea983f499fcb1c96b4718e4b17b1b8543574a275e33affe4b528"), looks := true }, kinds := [], alts := [], laidByText := true, laidKinds := [.data, .data, .data, .data, .sentinel, .sentinel, .pinned], laidTests := true, laidLooks := .later }
def LexNumberUptoCardSaid : Prop := Claim7.holds Tryd.pinned (.plain (OpenSpec.upto lexNumberSpec)) lexNumberUptoCard
end Rows
end Go.Proofs.YteomcjfnghbikaaDoor
