/-
  DERIVED. GIVEN WITH THE SEED: THE CARDS: each row of YtcgpobeidlimkaaGreatDoorRows.lean that lists a variable, with what it lists TIED to the program's text (the seventh form; the later family's looks); each row that meets fmt, with fmt's text TOLD by the authors' own Lean function (tested against real Go, not proved from fmt's source: count such statements apart). THE CARD IS WHAT COUNTS. Prove the row's statement (the work); the ties are given (YtcgpobeidlimkaaGreatDoorTie.lean); close each card by the builder's one call (the guide's Derived/Test/ToyasCard.lean, 'card_holds'). Laid BY PROGRAM, IN A SANDBOX (cutbox-door.mjs). By AI agents, Wed Nov 11 2026. No macro, syntax, notation, axiom, sorry.
-/
import Derived.Test.YtcgpobeidlimkaaGreatDoorRows
import GoSem.ClaimSeven
namespace Go.Proofs.YtcgpobeidlimkaaGreatDoor
namespace Rows

/-- THE TIED CARD OF 'gabletlaw04.CodeAny'. -/
def codeAnyCard : Claim7 := { stood := { row := codeAnyRow, standIns := [], harness := (true, "becf2ab7354ef39108feec389658409a8c333e1d04b8406b866d647ee021b188"), looks := false }, kinds := [], alts := [], laidByText := true, laidKinds := [.data, .data, .data], laidTests := true, laidLooks := .later }
def CodeAnyCardSaid : Prop := Claim7.holds Tryz.pinned (.plain (OpenSpec.ofChange codeAnySpec)) codeAnyCard

/-- THE TIED CARD OF 'gabletlaw04.CodeMade'. -/
def codeMadeCard : Claim7 := { stood := { row := codeMadeRow, standIns := [], harness := (true, "becf2ab7354ef39108feec389658409a8c333e1d04b8406b866d647ee021b188"), looks := false }, kinds := [], alts := [], laidByText := true, laidKinds := [.data, .data, .data], laidTests := true, laidLooks := .later }
def CodeMadeCardSaid : Prop := Claim7.holds Tryz.pinned (.plain (OpenSpec.ofChange codeMadeSpec)) codeMadeCard

/-- THE TIED CARD OF 'gabletlaw04.CodeRight'. -/
def codeRightCard : Claim7 := { stood := { row := codeRightRow, standIns := [], harness := (true, "becf2ab7354ef39108feec389658409a8c333e1d04b8406b866d647ee021b188"), looks := false }, kinds := [], alts := [], laidByText := true, laidKinds := [.data, .data, .data], laidTests := true, laidLooks := .later }
def CodeRightCardSaid : Prop := Claim7.holds Tryz.pinned (.plain (OpenSpec.ofChange codeRightSpec)) codeRightCard

/-- THE TIED CARD OF 'gabletlaw04.CodeSpoilt'. -/
def codeSpoiltCard : Claim7 := { stood := { row := codeSpoiltRow, standIns := [], harness := (true, "becf2ab7354ef39108feec389658409a8c333e1d04b8406b866d647ee021b188"), looks := false }, kinds := [], alts := [], laidByText := true, laidKinds := [.data, .data, .data], laidTests := true, laidLooks := .later }
def CodeSpoiltCardSaid : Prop := Claim7.holds Tryz.pinned (.plain (OpenSpec.ofChange codeSpoiltSpec)) codeSpoiltCard

/-- THE TIED CARD OF 'gabletlaw04.CodeSize'. -/
def codeSizeCard : Claim7 := { stood := { row := codeSizeRow, standIns := [], harness := (true, "becf2ab7354ef39108feec389658409a8c333e1d04b8406b866d647ee021b188"), looks := false }, kinds := [], alts := [], laidByText := true, laidKinds := [.data, .data, .data], laidTests := true, laidLooks := .later }
def CodeSizeCardSaid : Prop := Claim7.holds Tryz.pinned (.plain (OpenSpec.ofChange codeSizeSpec)) codeSizeCard

/-- THE TIED CARD OF 'gabletlaw04.CodeLeads'. -/
def codeLeadsCard : Claim7 := { stood := { row := codeLeadsRow, standIns := [], harness := (true, "becf2ab7354ef39108feec389658409a8c333e1d04b8406b866d647ee021b188"), looks := false }, kinds := [], alts := [], laidByText := true, laidKinds := [.data, .data, .data], laidTests := true, laidLooks := .later }
def CodeLeadsCardSaid : Prop := Claim7.holds Tryz.pinned (.plain (OpenSpec.ofChange codeLeadsSpec)) codeLeadsCard

/-- THE SECOND FORM's CARD OF 'gabletlaw04.CodeAny'. -/
def codeAnyUptoCard : Claim7 := { stood := { row := codeAnyUptoRow, standIns := [], harness := (true, "becf2ab7354ef39108feec389658409a8c333e1d04b8406b866d647ee021b188"), looks := false }, kinds := [], alts := [], laidByText := true, laidKinds := [.data, .data, .data], laidTests := true, laidLooks := .later }
def CodeAnyUptoCardSaid : Prop := Claim7.holds Tryz.pinned (.plain (OpenSpec.upto codeAnySpec)) codeAnyUptoCard

/-- THE SECOND FORM's CARD OF 'gabletlaw04.CodeMade'. -/
def codeMadeUptoCard : Claim7 := { stood := { row := codeMadeUptoRow, standIns := [], harness := (true, "becf2ab7354ef39108feec389658409a8c333e1d04b8406b866d647ee021b188"), looks := false }, kinds := [], alts := [], laidByText := true, laidKinds := [.data, .data, .data], laidTests := true, laidLooks := .later }
def CodeMadeUptoCardSaid : Prop := Claim7.holds Tryz.pinned (.plain (OpenSpec.upto codeMadeSpec)) codeMadeUptoCard

/-- THE SECOND FORM's CARD OF 'gabletlaw04.CodeRight'. -/
def codeRightUptoCard : Claim7 := { stood := { row := codeRightUptoRow, standIns := [], harness := (true, "becf2ab7354ef39108feec389658409a8c333e1d04b8406b866d647ee021b188"), looks := false }, kinds := [], alts := [], laidByText := true, laidKinds := [.data, .data, .data], laidTests := true, laidLooks := .later }
def CodeRightUptoCardSaid : Prop := Claim7.holds Tryz.pinned (.plain (OpenSpec.upto codeRightSpec)) codeRightUptoCard

/-- THE SECOND FORM's CARD OF 'gabletlaw04.CodeSpoilt'. -/
def codeSpoiltUptoCard : Claim7 := { stood := { row := codeSpoiltUptoRow, standIns := [], harness := (true, "becf2ab7354ef39108feec389658409a8c333e1d04b8406b866d647ee021b188"), looks := false }, kinds := [], alts := [], laidByText := true, laidKinds := [.data, .data, .data], laidTests := true, laidLooks := .later }
def CodeSpoiltUptoCardSaid : Prop := Claim7.holds Tryz.pinned (.plain (OpenSpec.upto codeSpoiltSpec)) codeSpoiltUptoCard

/-- THE SECOND FORM's CARD OF 'gabletlaw04.CodeSize'. -/
def codeSizeUptoCard : Claim7 := { stood := { row := codeSizeUptoRow, standIns := [], harness := (true, "becf2ab7354ef39108feec389658409a8c333e1d04b8406b866d647ee021b188"), looks := false }, kinds := [], alts := [], laidByText := true, laidKinds := [.data, .data, .data], laidTests := true, laidLooks := .later }
def CodeSizeUptoCardSaid : Prop := Claim7.holds Tryz.pinned (.plain (OpenSpec.upto codeSizeSpec)) codeSizeUptoCard

/-- THE SECOND FORM's CARD OF 'gabletlaw04.CodeLeads'. -/
def codeLeadsUptoCard : Claim7 := { stood := { row := codeLeadsUptoRow, standIns := [], harness := (true, "becf2ab7354ef39108feec389658409a8c333e1d04b8406b866d647ee021b188"), looks := false }, kinds := [], alts := [], laidByText := true, laidKinds := [.data, .data, .data], laidTests := true, laidLooks := .later }
def CodeLeadsUptoCardSaid : Prop := Claim7.holds Tryz.pinned (.plain (OpenSpec.upto codeLeadsSpec)) codeLeadsUptoCard
end Rows
end Go.Proofs.YtcgpobeidlimkaaGreatDoor
