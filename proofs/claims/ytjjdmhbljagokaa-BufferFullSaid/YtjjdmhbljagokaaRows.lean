/-
  No cell of these rows narrows 'for every input' (looked for: loops, veiled, ifaces, maps, wideKeys, modest, calm, conditions, laid).
  DERIVED. THE GIVEN ROWS OF THIS SEAT. 4 by the template 'for every input the law returns true; each argument reads behind the call as it read before'; 0 by the template 'total and deterministic' (their statements: YtjjdmhbljagokaaTotals.lean).
  GIVEN WITH THE SEED: the statements are not yours to turn. If you find one false, say at which input.
  Laid BY PROGRAM, IN A SANDBOX (cutbox-rows.mjs): the forced cells as the released guide's own fill.sh prints them over the translation f1ce6579d1299b05… (all of the seat's roots in one cut). By AI agents, Wed Nov 11 2026. No macro, syntax, notation, axiom, sorry.
-/
import Derived.Test.YtjjdmhbljagokaaChecked
import GoSem.Claim
import GoSem.ClaimJoined
import GoSem.ClaimMapViews
import Derived.JoinedTies
import Derived.KernelRfl
namespace Go.Proofs.Ytjjdmhbljagokaa
/- THE CELL 'sum', in the pinned program and in every row, IS THE sha256 OF THE DUMP (.gsa) THAT YtjjdmhbljagokaaProg.lean LOADS. Nothing in Lean hashes anything: it is a label: what it is worth is what the hold of that sum in a sandbox is worth. -/
noncomputable def Try.pinned : Pinned := { name := "ytjjdmhbljagokaa", sum := "f1ce6579d1299b05039ef9aef8ff52a8edd40962f1c779fb20b9e19d6b021444", checked := Try.checked }
namespace Rows
def none {H : Type} : Left H := { results := [], args := [] }

/-- 'gabletlaw06.BufferAny': WHATEVER THE INPUT: true; the input reads as it did. -/
def bufferAnySpec : ChangeSpec := { name := "bufferAny", fn := fun _ => fun
  | [d1, d2, d3, d4] => { results := [.lit (.bool true)], args := [d1, d2, d3, d4] }
  | _ => none }
def bufferAnyRow : OpenClaim := { program := "ytjjdmhbljagokaa", sum := "f1ce6579d1299b05039ef9aef8ff52a8edd40962f1c779fb20b9e19d6b021444", func := "gablet/gabletlaw06.BufferAny", spec := "bufferAny", unfollowed := true, recurses := true, apart := false }
def BufferAnySaid : Prop := bufferAnyRow.holds Try.pinned (OpenSpec.ofChange bufferAnySpec)

/-- ITS FALSE NEIGHBOUR: 'it returns false'. Refute it at one input. -/
def bufferAnyWrong : ChangeSpec := { name := "bufferAny", fn := fun _ => fun
  | [d1, d2, d3, d4] => { results := [.lit (.bool false)], args := [d1, d2, d3, d4] }
  | _ => none }
def BufferAnyWrongFalsely : Prop := bufferAnyRow.holds Try.pinned (OpenSpec.ofChange bufferAnyWrong)

/-- 'gabletlaw06.BufferMade': WHATEVER THE INPUT: true; the input reads as it did. -/
def bufferMadeSpec : ChangeSpec := { name := "bufferMade", fn := fun _ => fun
  | [d1, d2, d3, d4, d5] => { results := [.lit (.bool true)], args := [d1, d2, d3, d4, d5] }
  | _ => none }
def bufferMadeRow : OpenClaim := { program := "ytjjdmhbljagokaa", sum := "f1ce6579d1299b05039ef9aef8ff52a8edd40962f1c779fb20b9e19d6b021444", func := "gablet/gabletlaw06.BufferMade", spec := "bufferMade", unfollowed := true, recurses := true, apart := false }
def BufferMadeSaid : Prop := bufferMadeRow.holds Try.pinned (OpenSpec.ofChange bufferMadeSpec)

/-- ITS FALSE NEIGHBOUR: 'it returns false'. Refute it at one input. -/
def bufferMadeWrong : ChangeSpec := { name := "bufferMade", fn := fun _ => fun
  | [d1, d2, d3, d4, d5] => { results := [.lit (.bool false)], args := [d1, d2, d3, d4, d5] }
  | _ => none }
def BufferMadeWrongFalsely : Prop := bufferMadeRow.holds Try.pinned (OpenSpec.ofChange bufferMadeWrong)

/-- 'gabletlaw06.BufferOrder': WHATEVER THE INPUT: true; the input reads as it did. -/
def bufferOrderSpec : ChangeSpec := { name := "bufferOrder", fn := fun _ => fun
  | [d1, d2] => { results := [.lit (.bool true)], args := [d1, d2] }
  | _ => none }
def bufferOrderRow : OpenClaim := { program := "ytjjdmhbljagokaa", sum := "f1ce6579d1299b05039ef9aef8ff52a8edd40962f1c779fb20b9e19d6b021444", func := "gablet/gabletlaw06.BufferOrder", spec := "bufferOrder", unfollowed := true, recurses := true, apart := false }
def BufferOrderSaid : Prop := bufferOrderRow.holds Try.pinned (OpenSpec.ofChange bufferOrderSpec)

/-- ITS FALSE NEIGHBOUR: 'it returns false'. Refute it at one input. -/
def bufferOrderWrong : ChangeSpec := { name := "bufferOrder", fn := fun _ => fun
  | [d1, d2] => { results := [.lit (.bool false)], args := [d1, d2] }
  | _ => none }
def BufferOrderWrongFalsely : Prop := bufferOrderRow.holds Try.pinned (OpenSpec.ofChange bufferOrderWrong)

/-- 'gabletlaw06.BufferFull': WHATEVER THE INPUT: true; the input reads as it did. -/
def bufferFullSpec : ChangeSpec := { name := "bufferFull", fn := fun _ => fun
  | [d1, d2, d3] => { results := [.lit (.bool true)], args := [d1, d2, d3] }
  | _ => none }
def bufferFullRow : OpenClaim := { program := "ytjjdmhbljagokaa", sum := "f1ce6579d1299b05039ef9aef8ff52a8edd40962f1c779fb20b9e19d6b021444", func := "gablet/gabletlaw06.BufferFull", spec := "bufferFull", unfollowed := true, recurses := true, apart := false }
def BufferFullSaid : Prop := bufferFullRow.holds Try.pinned (OpenSpec.ofChange bufferFullSpec)

/-- ITS FALSE NEIGHBOUR: 'it returns false'. Refute it at one input. -/
def bufferFullWrong : ChangeSpec := { name := "bufferFull", fn := fun _ => fun
  | [d1, d2, d3] => { results := [.lit (.bool false)], args := [d1, d2, d3] }
  | _ => none }
def BufferFullWrongFalsely : Prop := bufferFullRow.holds Try.pinned (OpenSpec.ofChange bufferFullWrong)

/- THE SECOND FORM. 'bulk': how many values and letters a reading holds, each counted each time it is reached (what is shared counts as often as it is met; a slice's spare places count too). A statement '..UptoSaid' is the law's where the arguments, and the package variables that the reading takes, are together of bulk at most 1048576: NARROWER than '..Said'. Prove '..Said' where nothing that the law and all that it calls make is longer than what came in: it says more and counts as full. Else prove '..UptoSaid'. A law counts once. -/
mutual
def uptoBulk {H : Type} : DataW H → Nat
  | .lit (.string bytes) => bytes.length + 1
  | .lit _ => 1
  | .nil => 1
  | .ptr d => uptoBulk d + 1
  | .slice elems spare => uptoBulkAll elems + uptoBulkAll spare + 1
  | .agg parts => uptoBulkAll parts + 1
  | .iface _ d => uptoBulk d + 1
  | .map entries => uptoBulkEntries entries + 1
  | .held _ => 1
def uptoBulkAll {H : Type} : List (DataW H) → Nat
  | [] => 0
  | d :: r => uptoBulk d + uptoBulkAll r
def uptoBulkEntries {H : Type} : List (Lit × DataW H) → Nat
  | [] => 0
  | x :: r => uptoBulkEntry x + uptoBulkEntries r
def uptoBulkEntry {H : Type} : Lit × DataW H → Nat
  | (.string bytes, d) => bytes.length + uptoBulk d + 1
  | (_, d) => uptoBulk d + 1
 end
def uptoSmall : (H : Type) → List (DataW H) → Bool := fun _ ds => decide (uptoBulkAll ds ≤ 1048576)
def OpenSpec.upto (s : _root_.Go.ChangeSpec) : _root_.Go.OpenSpec := { _root_.Go.OpenSpec.ofChange s with cond := some uptoSmall }

/-- 'gabletlaw06.BufferAny', WHERE WHAT IT READS IS OF BULK AT MOST 1048576: true; the input reads as it did. -/
def bufferAnyUptoRow : OpenClaim := { program := "ytjjdmhbljagokaa", sum := "f1ce6579d1299b05039ef9aef8ff52a8edd40962f1c779fb20b9e19d6b021444", func := "gablet/gabletlaw06.BufferAny", spec := "bufferAny", unfollowed := true, recurses := true, apart := false, narrowed := true }
def BufferAnyUptoSaid : Prop := bufferAnyUptoRow.holds Try.pinned (OpenSpec.upto bufferAnySpec)

/-- 'gabletlaw06.BufferMade', WHERE WHAT IT READS IS OF BULK AT MOST 1048576: true; the input reads as it did. -/
def bufferMadeUptoRow : OpenClaim := { program := "ytjjdmhbljagokaa", sum := "f1ce6579d1299b05039ef9aef8ff52a8edd40962f1c779fb20b9e19d6b021444", func := "gablet/gabletlaw06.BufferMade", spec := "bufferMade", unfollowed := true, recurses := true, apart := false, narrowed := true }
def BufferMadeUptoSaid : Prop := bufferMadeUptoRow.holds Try.pinned (OpenSpec.upto bufferMadeSpec)

/-- 'gabletlaw06.BufferOrder', WHERE WHAT IT READS IS OF BULK AT MOST 1048576: true; the input reads as it did. -/
def bufferOrderUptoRow : OpenClaim := { program := "ytjjdmhbljagokaa", sum := "f1ce6579d1299b05039ef9aef8ff52a8edd40962f1c779fb20b9e19d6b021444", func := "gablet/gabletlaw06.BufferOrder", spec := "bufferOrder", unfollowed := true, recurses := true, apart := false, narrowed := true }
def BufferOrderUptoSaid : Prop := bufferOrderUptoRow.holds Try.pinned (OpenSpec.upto bufferOrderSpec)

/-- 'gabletlaw06.BufferFull', WHERE WHAT IT READS IS OF BULK AT MOST 1048576: true; the input reads as it did. -/
def bufferFullUptoRow : OpenClaim := { program := "ytjjdmhbljagokaa", sum := "f1ce6579d1299b05039ef9aef8ff52a8edd40962f1c779fb20b9e19d6b021444", func := "gablet/gabletlaw06.BufferFull", spec := "bufferFull", unfollowed := true, recurses := true, apart := false, narrowed := true }
def BufferFullUptoSaid : Prop := bufferFullUptoRow.holds Try.pinned (OpenSpec.upto bufferFullSpec)

end Rows
end Go.Proofs.Ytjjdmhbljagokaa
