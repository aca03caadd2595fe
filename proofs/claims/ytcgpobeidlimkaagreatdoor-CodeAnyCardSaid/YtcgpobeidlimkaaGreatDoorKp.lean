/- What is kept behind draws. -/
import Derived.Test.YtcgpobeidlimkaaGreatDoorMem
namespace Go.Proofs.YtcgpobeidlimkaaGreatDoor
open Go.RowKit
theorem drewN_kp {W0 wr : World} (h : Kp W0 wr) (n : Nat) : Kp W0 (wr.drewN n) := .of ⟨h.1.os, h.1.tape, h.1.output, h.1.size, h.1.block⟩
end Go.Proofs.YtcgpobeidlimkaaGreatDoor
