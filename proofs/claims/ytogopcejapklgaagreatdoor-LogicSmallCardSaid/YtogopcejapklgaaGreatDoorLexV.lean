/- From what a row lists of package variables to what the walks read. -/
import Derived.Test.YtogopcejapklgaaGreatDoorLexC
import Derived.Stop.LaidErr
import Derived.Lib.LaidTab
import Derived.LaidSub
import Derived.MakeChecks
namespace Go.Proofs.YtogopcejapklgaaGreatDoor
open Go.RowKit

theorem err_row (u : TypeId) (h : Tryz.prog.typeName? 3 u = some "*errors.errorString") : u = 172 :=
  typeName_ptr_named (nm := "errors.errorString") (by rw [show "*" ++ "errors.errorString" = "*errors.errorString" from by decide]; kernel_rfl) (by kernel_rfl) (by decide) u (by rw [show "*" ++ "errors.errorString" = "*errors.errorString" from by decide]; exact h)

theorem vars_of {l : List (String × DataW Unit)} {W : World} (h : laidMetH Tryz.prog l W)
    (h1 : l.filter (fun x => x.1 == "internal/strconv.uint64pow10") = [("internal/strconv.uint64pow10", Lib.tabData .u64 Lib.pow10Tab)])
    (h2 : l.filter (fun x => x.1 == "strconv.ErrRange") = [("strconv.ErrRange", .iface "*errors.errorString" (.ptr (.agg [.lit (.string [118, 97, 108, 117, 101, 32, 111, 117, 116, 32, 111, 102, 32, 114, 97, 110, 103, 101])])))]) : Vars W := by
  have k1 := h.filter (fun x => x.1 == "internal/strconv.uint64pow10")
  have k2 := h.filter (fun x => x.1 == "strconv.ErrRange")
  rw [h1, MakeChecks.laidMetH_plain _ _ _ (by decide)] at k1
  rw [h2, MakeChecks.laidMetH_plain _ _ _ (by decide)] at k2
  refine ⟨Lib.tabIs_of_head gTab_eq (by kernel_rfl) Tryz.underlying141 Tryz.underlying132 (by kernel_rfl) (by kernel_rfl) k1, ?_⟩
  obtain ⟨a0, s0, hv0, -, -, -⟩ := laid_sentinel k2 gErr_eq (by kernel_rfl) Tryz.underlying124 err_row Tryz.underlying172 Tryz.underlying174 rfl rfl Tryz.underlying9 (by kernel_rfl) (by kernel_rfl)
  exact ⟨_, _, hv0⟩
end Go.Proofs.YtogopcejapklgaaGreatDoor
