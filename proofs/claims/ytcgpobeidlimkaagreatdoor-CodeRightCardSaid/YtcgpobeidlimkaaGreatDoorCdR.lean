/- CodeRight, walked. -/
import Derived.Test.YtcgpobeidlimkaaGreatDoorAwake
import Derived.Test.YtcgpobeidlimkaaGreatDoorTold
import Derived.Test.YtcgpobeidlimkaaGreatDoorFewC
namespace Go.Proofs.YtcgpobeidlimkaaGreatDoor
open Go.RowKit

set_option maxRecDepth 100000 in
set_option maxHeartbeats 4000000 in
theorem codeRight_walk (vars dom : Int) (a : Option Addr) (n cap : Nat) (t : List (List Ins)) (w : World) (hin : ThsIn w (In_ w) a n cap t) (rt : t.length ≤ 140737488355328) (ri : ∀ l ∈ t, l.length ≤ 140737488355328) :
    Calls Tryz.prog 5 #[.agg #[.int .i64 vars, .int .i64 dom, .slice a n cap]] w fun e w' => e = .returned (.bool true) ∧ Below w.heap.size w w' := by
  generalize hW : w.alloc (.cells #[.int .i64 vars, .int .i64 dom, .slice a n cap] 30) = W0
  have hB : Below w.heap.size w W0 := by subst hW; exact (Below.refl _ _).alloc (Nat.le_refl _) _
  have z0 : w.heap.size < W0.heap.size := by subst hW; simp
  have c0 : W0.cell? ⟨w.heap.size, 0, none⟩ = some (.int .i64 vars) := by subst hW; go_simp
  have c1 : W0.cell? ⟨w.heap.size, 1, none⟩ = some (.int .i64 dom) := by subst hW; go_simp
  have c2 : W0.cell? ⟨w.heap.size, 2, none⟩ = some (.slice a n cap) := by subst hW; go_simp
  have h1 := hid (awake_any W0)
  have h2 : Hid (∀ W, Kp W0 W → Calls Tryz.prog 17 #[.agg #[.int .i64 vars, .int .i64 dom, .slice a n cap]] W (SomeB W)) := fun W hW => fewC_any vars dom a n cap t W (hW.ths ((Kp.of hB).ths hin)) rt ri
  have h3 : Hid (∀ W, Kp W0 W → Calls Tryz.prog 16 #[.agg #[.int .i64 vars, .int .i64 dom, .slice a n cap]] W fun e w' => e = .returned (.bool true) ∧ Below W.heap.size W w') := fun W hW => told_any vars dom a n cap t W (hW.ths ((Kp.of hB).ths hin))
  have HB := hid hB
  have hWx := hid hW
  clear hW hB hin
  go_enter Tryz.func5, Tryz.ntmps5
  go_wp2_with fail
  rw [hWx.out]
  refine h1.out.mono ?_
  rintro e w1 ⟨rfl, hb1⟩
  have hK1 : Kp W0 w1 := Kp.of hb1
  have z1 : w.heap.size < w1.heap.size := Nat.lt_of_lt_of_le z0 hb1.size
  clear hb1
  go_wp2_with fail
  refine (h2.out w1 hK1).mono ?_
  rintro e w2 ⟨b, rfl, hb2⟩
  have hK2 : Kp W0 w2 := hK1.next hb2
  have z2 : w.heap.size < w2.heap.size := Nat.lt_of_lt_of_le z1 hb2.size
  clear hb2
  cases b
  · go_wp2_with fail
    go_ret
    exact ⟨rfl, Kp.fin HB.out hK2⟩
  · go_wp2_with fail
    refine (h3.out w2 hK2).mono ?_
    rintro e w3 ⟨rfl, hb3⟩
    go_wp2_with fail
    go_ret
    exact ⟨rfl, Kp.fin HB.out (hK2.next hb3)⟩
end Go.Proofs.YtcgpobeidlimkaaGreatDoor
