/-
  DERIVED. GIVEN WITH THE SEED: THE CARDS: each row of YtphlbbnmligadaaGreatDoorRows.lean that lists a variable, with what it lists TIED to the program's text (the seventh form; the later family's looks); each row that meets fmt, with fmt's text TOLD by the authors' own Lean function (tested against real Go, not proved from fmt's source: count such statements apart). THE CARD IS WHAT COUNTS. Prove the row's statement (the work); the ties are given (YtphlbbnmligadaaGreatDoorTie.lean); close each card by the builder's one call (the guide's Derived/Test/ToyasCard.lean, 'card_holds'). Laid BY PROGRAM, IN A SANDBOX (cutbox-door.mjs). By AI agents, Wed Nov 11 2026. No macro, syntax, notation, axiom, sorry.
-/
import Derived.Test.YtphlbbnmligadaaGreatDoorRows
import GoSem.ClaimSeven
namespace Go.Proofs.YtphlbbnmligadaaGreatDoor
namespace Rows

/-- THE TIED CARD OF 'gabletlaw02.TreeApart'. -/
def treeApartCard : Claim7 := { stood := { row := treeApartRow, standIns := [], harness := (true, "442d606fbe41a4641ee8e807ba422e8a26a8944daa50cac02ebdb70f794b4aa0"), looks := true }, kinds := [], alts := [], laidByText := true, laidKinds := [.data, .data, .data, .data, .sentinel, .sentinel, .pinned], laidTests := true, laidLooks := .later }
def TreeApartCardSaid : Prop := Claim7.holds Tryz.pinned (.plain (OpenSpec.ofChange treeApartSpec)) treeApartCard

/-- THE TIED CARD OF 'gabletlaw02.TreeExpr'. -/
def treeExprCard : Claim7 := { stood := { row := treeExprRow, standIns := [], harness := (true, "442d606fbe41a4641ee8e807ba422e8a26a8944daa50cac02ebdb70f794b4aa0"), looks := true }, kinds := [], alts := [], laidByText := true, laidKinds := [.data, .data, .data, .data, .sentinel, .sentinel, .pinned], laidTests := true, laidLooks := .later }
def TreeExprCardSaid : Prop := Claim7.holds Tryz.pinned (.plain (OpenSpec.ofChange treeExprSpec)) treeExprCard

/-- THE TIED CARD OF 'gabletlaw02.TreeAny'. -/
def treeAnyCard : Claim7 := { stood := { row := treeAnyRow, standIns := [], harness := (true, "442d606fbe41a4641ee8e807ba422e8a26a8944daa50cac02ebdb70f794b4aa0"), looks := true }, kinds := [], alts := [], laidByText := true, laidKinds := [.data, .data, .data, .data, .sentinel, .sentinel, .pinned], laidTests := true, laidLooks := .later }
def TreeAnyCardSaid : Prop := Claim7.holds Tryz.pinned (.plain (OpenSpec.ofChange treeAnySpec)) treeAnyCard

/-- THE TIED CARD OF 'gabletlaw02.TreeMade'. -/
def treeMadeCard : Claim7 := { stood := { row := treeMadeRow, standIns := [], harness := (true, "442d606fbe41a4641ee8e807ba422e8a26a8944daa50cac02ebdb70f794b4aa0"), looks := true }, kinds := [], alts := [], laidByText := true, laidKinds := [.data, .data, .data, .data, .sentinel, .sentinel, .pinned], laidTests := true, laidLooks := .later }
def TreeMadeCardSaid : Prop := Claim7.holds Tryz.pinned (.plain (OpenSpec.ofChange treeMadeSpec)) treeMadeCard

/-- THE TIED CARD OF 'gabletlaw02.TreeSpoilt'. -/
def treeSpoiltCard : Claim7 := { stood := { row := treeSpoiltRow, standIns := [], harness := (true, "442d606fbe41a4641ee8e807ba422e8a26a8944daa50cac02ebdb70f794b4aa0"), looks := true }, kinds := [], alts := [], laidByText := true, laidKinds := [.data, .data, .data, .data, .sentinel, .sentinel, .pinned], laidTests := true, laidLooks := .later }
def TreeSpoiltCardSaid : Prop := Claim7.holds Tryz.pinned (.plain (OpenSpec.ofChange treeSpoiltSpec)) treeSpoiltCard

/-- THE TIED CARD OF 'gabletlaw02.TreeDeep'. -/
def treeDeepCard : Claim7 := { stood := { row := treeDeepRow, standIns := [], harness := (true, "442d606fbe41a4641ee8e807ba422e8a26a8944daa50cac02ebdb70f794b4aa0"), looks := true }, kinds := [], alts := [], laidByText := true, laidKinds := [.data, .data, .data, .data, .sentinel, .sentinel, .pinned], laidTests := true, laidLooks := .later }
def TreeDeepCardSaid : Prop := Claim7.holds Tryz.pinned (.plain (OpenSpec.ofChange treeDeepSpec)) treeDeepCard

/-- THE SECOND FORM's CARD OF 'gabletlaw02.TreeApart'. -/
def treeApartUptoCard : Claim7 := { stood := { row := treeApartUptoRow, standIns := [], harness := (true, "442d606fbe41a4641ee8e807ba422e8a26a8944daa50cac02ebdb70f794b4aa0"), looks := true }, kinds := [], alts := [], laidByText := true, laidKinds := [.data, .data, .data, .data, .sentinel, .sentinel, .pinned], laidTests := true, laidLooks := .later }
def TreeApartUptoCardSaid : Prop := Claim7.holds Tryz.pinned (.plain (OpenSpec.upto treeApartSpec)) treeApartUptoCard

/-- THE SECOND FORM's CARD OF 'gabletlaw02.TreeExpr'. -/
def treeExprUptoCard : Claim7 := { stood := { row := treeExprUptoRow, standIns := [], harness := (true, "442d606fbe41a4641ee8e807ba422e8a26a8944daa50cac02ebdb70f794b4aa0"), looks := true }, kinds := [], alts := [], laidByText := true, laidKinds := [.data, .data, .data, .data, .sentinel, .sentinel, .pinned], laidTests := true, laidLooks := .later }
def TreeExprUptoCardSaid : Prop := Claim7.holds Tryz.pinned (.plain (OpenSpec.upto treeExprSpec)) treeExprUptoCard

/-- THE SECOND FORM's CARD OF 'gabletlaw02.TreeAny'. -/
def treeAnyUptoCard : Claim7 := { stood := { row := treeAnyUptoRow, standIns := [], harness := (true, "442d606fbe41a4641ee8e807ba422e8a26a8944daa50cac02ebdb70f794b4aa0"), looks := true }, kinds := [], alts := [], laidByText := true, laidKinds := [.data, .data, .data, .data, .sentinel, .sentinel, .pinned], laidTests := true, laidLooks := .later }
def TreeAnyUptoCardSaid : Prop := Claim7.holds Tryz.pinned (.plain (OpenSpec.upto treeAnySpec)) treeAnyUptoCard

/-- THE SECOND FORM's CARD OF 'gabletlaw02.TreeMade'. -/
def treeMadeUptoCard : Claim7 := { stood := { row := treeMadeUptoRow, standIns := [], harness := (true, "442d606fbe41a4641ee8e807ba422e8a26a8944daa50cac02ebdb70f794b4aa0"), looks := true }, kinds := [], alts := [], laidByText := true, laidKinds := [.data, .data, .data, .data, .sentinel, .sentinel, .pinned], laidTests := true, laidLooks := .later }
def TreeMadeUptoCardSaid : Prop := Claim7.holds Tryz.pinned (.plain (OpenSpec.upto treeMadeSpec)) treeMadeUptoCard

/-- THE SECOND FORM's CARD OF 'gabletlaw02.TreeSpoilt'. -/
def treeSpoiltUptoCard : Claim7 := { stood := { row := treeSpoiltUptoRow, standIns := [], harness := (true, "442d606fbe41a4641ee8e807ba422e8a26a8944daa50cac02ebdb70f794b4aa0"), looks := true }, kinds := [], alts := [], laidByText := true, laidKinds := [.data, .data, .data, .data, .sentinel, .sentinel, .pinned], laidTests := true, laidLooks := .later }
def TreeSpoiltUptoCardSaid : Prop := Claim7.holds Tryz.pinned (.plain (OpenSpec.upto treeSpoiltSpec)) treeSpoiltUptoCard

/-- THE SECOND FORM's CARD OF 'gabletlaw02.TreeDeep'. -/
def treeDeepUptoCard : Claim7 := { stood := { row := treeDeepUptoRow, standIns := [], harness := (true, "442d606fbe41a4641ee8e807ba422e8a26a8944daa50cac02ebdb70f794b4aa0"), looks := true }, kinds := [], alts := [], laidByText := true, laidKinds := [.data, .data, .data, .data, .sentinel, .sentinel, .pinned], laidTests := true, laidLooks := .later }
def TreeDeepUptoCardSaid : Prop := Claim7.holds Tryz.pinned (.plain (OpenSpec.upto treeDeepSpec)) treeDeepUptoCard
end Rows
end Go.Proofs.YtphlbbnmligadaaGreatDoor
