/-
  NARROWER THAN 'FOR EVERY INPUT', by the rows' own cells (each row's printed sentence says how): ValueAny: loops.
  DERIVED. THE GIVEN ROWS OF THIS SEAT. 4 by the template 'for every input the law returns true; each argument reads behind the call as it read before'; 0 by the template 'total and deterministic' (their statements: YtnnidmdokehajaaTotals.lean).
  GIVEN WITH THE SEED: the statements are not yours to turn. If you find one false, say at which input.
  Laid BY PROGRAM, IN A SANDBOX (cutbox-rows.mjs): the forced cells as the released guide's own fill.sh prints them over the translation f83e6a061bedce4a… (all of the seat's roots in one cut). By AI agents, Wed Nov 11 2026. No macro, syntax, notation, axiom, sorry.
-/
import Derived.Test.YtnnidmdokehajaaChecked
import GoSem.Claim
import GoSem.ClaimJoined
import GoSem.ClaimMapViews
import Derived.JoinedTies
import Derived.KernelRfl
namespace Go.Proofs.Ytnnidmdokehajaa
/- THE CELL 'sum', in the pinned program and in every row, IS THE sha256 OF THE DUMP (.gsa) THAT YtnnidmdokehajaaProg.lean LOADS. Nothing in Lean hashes anything: it is a label: what it is worth is what the hold of that sum in a sandbox is worth. -/
noncomputable def Try.pinned : Pinned := { name := "ytnnidmdokehajaa", sum := "f83e6a061bedce4ad3ded571c48e7efe18f61a996d59b628b2d02b429c04c1d3", checked := Try.checked }
namespace Rows
def none {H : Type} : Left H := { results := [], args := [] }

/-- 'gabletlaw05.ValueAny': WHATEVER THE INPUT: true; the input reads as it did. -/
def valueAnySpec : ChangeSpec := { name := "valueAny", fn := fun _ => fun
  | [d1, d2, d3] => { results := [.lit (.bool true)], args := [d1, d2, d3] }
  | _ => none }
def valueAnyRow : OpenClaim := { program := "ytnnidmdokehajaa", sum := "f83e6a061bedce4ad3ded571c48e7efe18f61a996d59b628b2d02b429c04c1d3", func := "gablet/gabletlaw05.ValueAny", spec := "valueAny", unfollowed := true, recurses := true, loops := true, apart := false }
def ValueAnySaid : Prop := valueAnyRow.holds Try.pinned (OpenSpec.ofChange valueAnySpec)

/-- ITS FALSE NEIGHBOUR: 'it returns false'. Refute it at one input. -/
def valueAnyWrong : ChangeSpec := { name := "valueAny", fn := fun _ => fun
  | [d1, d2, d3] => { results := [.lit (.bool false)], args := [d1, d2, d3] }
  | _ => none }
def ValueAnyWrongFalsely : Prop := valueAnyRow.holds Try.pinned (OpenSpec.ofChange valueAnyWrong)

/-- 'gabletlaw05.ValueMade': WHATEVER THE INPUT: true; the input reads as it did. -/
def valueMadeSpec : ChangeSpec := { name := "valueMade", fn := fun _ => fun
  | [d1, d2, d3] => { results := [.lit (.bool true)], args := [d1, d2, d3] }
  | _ => none }
def valueMadeRow : OpenClaim := { program := "ytnnidmdokehajaa", sum := "f83e6a061bedce4ad3ded571c48e7efe18f61a996d59b628b2d02b429c04c1d3", func := "gablet/gabletlaw05.ValueMade", spec := "valueMade", unfollowed := true, recurses := true, apart := false }
def ValueMadeSaid : Prop := valueMadeRow.holds Try.pinned (OpenSpec.ofChange valueMadeSpec)

/-- ITS FALSE NEIGHBOUR: 'it returns false'. Refute it at one input. -/
def valueMadeWrong : ChangeSpec := { name := "valueMade", fn := fun _ => fun
  | [d1, d2, d3] => { results := [.lit (.bool false)], args := [d1, d2, d3] }
  | _ => none }
def ValueMadeWrongFalsely : Prop := valueMadeRow.holds Try.pinned (OpenSpec.ofChange valueMadeWrong)

/-- 'gabletlaw05.ValueRange': WHATEVER THE INPUT: true; the input reads as it did. -/
def valueRangeSpec : ChangeSpec := { name := "valueRange", fn := fun _ => fun
  | [d1, d2, d3] => { results := [.lit (.bool true)], args := [d1, d2, d3] }
  | _ => none }
def valueRangeRow : OpenClaim := { program := "ytnnidmdokehajaa", sum := "f83e6a061bedce4ad3ded571c48e7efe18f61a996d59b628b2d02b429c04c1d3", func := "gablet/gabletlaw05.ValueRange", spec := "valueRange", unfollowed := true, recurses := true, apart := false }
def ValueRangeSaid : Prop := valueRangeRow.holds Try.pinned (OpenSpec.ofChange valueRangeSpec)

/-- ITS FALSE NEIGHBOUR: 'it returns false'. Refute it at one input. -/
def valueRangeWrong : ChangeSpec := { name := "valueRange", fn := fun _ => fun
  | [d1, d2, d3] => { results := [.lit (.bool false)], args := [d1, d2, d3] }
  | _ => none }
def ValueRangeWrongFalsely : Prop := valueRangeRow.holds Try.pinned (OpenSpec.ofChange valueRangeWrong)

/-- 'gabletlaw05.ValueSums': WHATEVER THE INPUT: true; the input reads as it did. -/
def valueSumsSpec : ChangeSpec := { name := "valueSums", fn := fun _ => fun
  | [d1, d2, d3] => { results := [.lit (.bool true)], args := [d1, d2, d3] }
  | _ => none }
def valueSumsRow : OpenClaim := { program := "ytnnidmdokehajaa", sum := "f83e6a061bedce4ad3ded571c48e7efe18f61a996d59b628b2d02b429c04c1d3", func := "gablet/gabletlaw05.ValueSums", spec := "valueSums", unfollowed := true, recurses := true, apart := false }
def ValueSumsSaid : Prop := valueSumsRow.holds Try.pinned (OpenSpec.ofChange valueSumsSpec)

/-- ITS FALSE NEIGHBOUR: 'it returns false'. Refute it at one input. -/
def valueSumsWrong : ChangeSpec := { name := "valueSums", fn := fun _ => fun
  | [d1, d2, d3] => { results := [.lit (.bool false)], args := [d1, d2, d3] }
  | _ => none }
def ValueSumsWrongFalsely : Prop := valueSumsRow.holds Try.pinned (OpenSpec.ofChange valueSumsWrong)

/- THE SECOND FORM. 'bulk': how many values and letters a reading holds, each counted each time it is reached (what is shared counts as often as it is met; a slice's spare places count too). A statement '..UptoSaid' is the law's where the arguments, and the package variables that the reading takes, are together of bulk at most 1048576: NARROWER than '..Said'. Prove '..Said' where nothing that the law and all that it calls make is longer than what came in: it says more and counts as full. Else prove '..UptoSaid'. A law counts once. -/
mutual
def uptoBulk {H : Type} : DataW H → Nat
  | .lit (.string bytes) => bytes.length + 1
  | .lit _ => 1
  | .nil => 1
  | .ptr d => uptoBulk d + 1
  | .slice elems spare => uptoBulkAll elems + uptoBulkAll spare + 1
  | .agg parts => uptoBulkAll parts + 1
  | .iface _ d => uptoBulk d + 1
  | .map entries => uptoBulkEntries entries + 1
  | .held _ => 1
def uptoBulkAll {H : Type} : List (DataW H) → Nat
  | [] => 0
  | d :: r => uptoBulk d + uptoBulkAll r
def uptoBulkEntries {H : Type} : List (Lit × DataW H) → Nat
  | [] => 0
  | x :: r => uptoBulkEntry x + uptoBulkEntries r
def uptoBulkEntry {H : Type} : Lit × DataW H → Nat
  | (.string bytes, d) => bytes.length + uptoBulk d + 1
  | (_, d) => uptoBulk d + 1
 end
def uptoSmall : (H : Type) → List (DataW H) → Bool := fun _ ds => decide (uptoBulkAll ds ≤ 1048576)
def OpenSpec.upto (s : _root_.Go.ChangeSpec) : _root_.Go.OpenSpec := { _root_.Go.OpenSpec.ofChange s with cond := some uptoSmall }

/-- 'gabletlaw05.ValueAny', WHERE WHAT IT READS IS OF BULK AT MOST 1048576: true; the input reads as it did. -/
def valueAnyUptoRow : OpenClaim := { program := "ytnnidmdokehajaa", sum := "f83e6a061bedce4ad3ded571c48e7efe18f61a996d59b628b2d02b429c04c1d3", func := "gablet/gabletlaw05.ValueAny", spec := "valueAny", unfollowed := true, recurses := true, loops := true, apart := false, narrowed := true }
def ValueAnyUptoSaid : Prop := valueAnyUptoRow.holds Try.pinned (OpenSpec.upto valueAnySpec)

/-- 'gabletlaw05.ValueMade', WHERE WHAT IT READS IS OF BULK AT MOST 1048576: true; the input reads as it did. -/
def valueMadeUptoRow : OpenClaim := { program := "ytnnidmdokehajaa", sum := "f83e6a061bedce4ad3ded571c48e7efe18f61a996d59b628b2d02b429c04c1d3", func := "gablet/gabletlaw05.ValueMade", spec := "valueMade", unfollowed := true, recurses := true, apart := false, narrowed := true }
def ValueMadeUptoSaid : Prop := valueMadeUptoRow.holds Try.pinned (OpenSpec.upto valueMadeSpec)

/-- 'gabletlaw05.ValueRange', WHERE WHAT IT READS IS OF BULK AT MOST 1048576: true; the input reads as it did. -/
def valueRangeUptoRow : OpenClaim := { program := "ytnnidmdokehajaa", sum := "f83e6a061bedce4ad3ded571c48e7efe18f61a996d59b628b2d02b429c04c1d3", func := "gablet/gabletlaw05.ValueRange", spec := "valueRange", unfollowed := true, recurses := true, apart := false, narrowed := true }
def ValueRangeUptoSaid : Prop := valueRangeUptoRow.holds Try.pinned (OpenSpec.upto valueRangeSpec)

/-- 'gabletlaw05.ValueSums', WHERE WHAT IT READS IS OF BULK AT MOST 1048576: true; the input reads as it did. -/
def valueSumsUptoRow : OpenClaim := { program := "ytnnidmdokehajaa", sum := "f83e6a061bedce4ad3ded571c48e7efe18f61a996d59b628b2d02b429c04c1d3", func := "gablet/gabletlaw05.ValueSums", spec := "valueSums", unfollowed := true, recurses := true, apart := false, narrowed := true }
def ValueSumsUptoSaid : Prop := valueSumsUptoRow.holds Try.pinned (OpenSpec.upto valueSumsSpec)

end Rows
end Go.Proofs.Ytnnidmdokehajaa
