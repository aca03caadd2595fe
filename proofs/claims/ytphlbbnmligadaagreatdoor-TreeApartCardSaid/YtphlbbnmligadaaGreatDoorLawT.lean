/- An expression, as an argument. -/
import Derived.Test.YtphlbbnmligadaaGreatDoorBunL
namespace Go.Proofs.YtphlbbnmligadaaGreatDoor
open Go.ChangeShapes Go.WideShapes Go.ChangeAt Go.RowKit

section
variable {H : Type} {enc : TypeId × Value → H} {W : World}
set_option maxRecDepth 100000 in
theorem expr_arg {r : Reach} {base : Nat} {v : Value} {d : DataW H} {p : List MemPlace} (hv : Value.okWide Tryz.prog W r base 44 v) (h : DataW.Trod enc Tryz.prog W 0 (fun _ => true) true 44 v d p) (hw : Near Tryz.prog 44 d) :
    ∃ (cs : List Value) (x : Ex), v = .agg cs.toArray ∧ ExIn W (In_ W) cs x := by
  obtain ⟨cs, rfl, _⟩ := okWide_struct Tryz.underlying44 hv
  obtain ⟨fuel, hd⟩ := h
  obtain ⟨l⟩ := cs
  have hd : DataW.trod enc Tryz.prog W 0 (fun _ => true) true fuel 44 l = some (d, p) := by simpa [Value.cells] using hd
  obtain ⟨x, hx, -⟩ := ex_open _ _ _ hd hw
  exact ⟨l, x, rfl, hx⟩
end
end Go.Proofs.YtphlbbnmligadaaGreatDoor
