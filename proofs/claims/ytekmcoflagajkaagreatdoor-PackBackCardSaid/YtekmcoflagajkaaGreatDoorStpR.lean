/- The document: may a machine run code? -/
import Derived.Test.YtekmcoflagajkaaGreatDoorBunV
import Derived.Test.YtekmcoflagajkaaGreatDoorCodD
namespace Go.Proofs.YtekmcoflagajkaaGreatDoor
open Go.RowKit

set_option maxHeartbeats 2000000 in
theorem refMay_any (vars dom m b : Int) (a : Option Addr) (n cap : Nat) (t : List (List Ins)) (w : World) (hin : ThsIn w (In_ w) a n cap t) :
    Calls Tryz.prog 40 #[.agg #[.int .i64 vars, .int .i64 dom, .slice a n cap], .agg #[.int .i64 m, .int .i64 b]] w fun e w' => e = .returned (.bool (mayL vars dom t m b)) ∧ Below w.heap.size w w' := by
  have hn := hin.1
  subst hn
  have hres : Hid (mayL vars dom t m b = (rightL vars dom t && decide (0 ≤ m) && decide (m ≤ 2) && decide (1 ≤ b) && decide (b ≤ 8))) := rfl
  obtain ⟨W0, hW⟩ : ∃ W0, W0 = (w.alloc (.cells #[.int .i64 vars, .int .i64 dom, .slice a t.length cap] 25)).alloc (.cells #[.int .i64 m, .int .i64 b] 30) := ⟨_, rfl⟩
  have hB : Below w.heap.size w W0 := by subst hW; exact ((Below.refl _ _).alloc (Nat.le_refl _) _).alloc (by simp) _
  have z1 : w.heap.size + 1 < W0.heap.size := by subst hW; simp
  have m0 : W0.cell? ⟨w.heap.size + 1, 0, none⟩ = some (.int .i64 m) := by subst hW; go_simp
  have m1 : W0.cell? ⟨w.heap.size + 1, 1, none⟩ = some (.int .i64 b) := by subst hW; go_simp
  have hcall := hid (refRight_any vars dom a t.length cap t W0 ((Kp.of hB).ths hin))
  have HB := hid hB
  have hWx := hid hW
  clear hW hB hin
  generalize rightL vars dom t = r at *
  go_enter Tryz.func40, Tryz.ntmps40
  go_wp2_with fail
  rw [← hWx.out]
  refine hcall.out.mono ?_
  rintro e w1 ⟨rfl, hb1⟩
  have hK := Kp.of hb1
  have HF := hid (HB.out.trans (hb1.mono HB.out.size))
  clear hWx hcall
  cases r
  · go_wp2_with fail
    go_ret
    exact ⟨ret_bool (by rw [hres.out]; rfl), HF.out⟩
  by_cases a0 : 0 ≤ m
  case neg =>
    go_wp2_with fail
    go_ret
    exact ⟨ret_bool (by rw [hres.out, decide_eq_false (show ¬ 0 ≤ m by omega)]; rfl), HF.out⟩
  by_cases a1 : m ≤ 2
  case neg =>
    go_wp2_with fail
    go_ret
    exact ⟨ret_bool (by rw [hres.out, decide_eq_false (show ¬ m ≤ 2 by omega)]; simp), HF.out⟩
  by_cases a2 : 1 ≤ b
  case neg =>
    go_wp2_with fail
    go_ret
    exact ⟨ret_bool (by rw [hres.out, decide_eq_false (show ¬ 1 ≤ b by omega)]; simp), HF.out⟩
  by_cases a3 : b ≤ 8
  case neg =>
    go_wp2_with fail
    go_ret
    exact ⟨ret_bool (by rw [hres.out, decide_eq_false (show ¬ b ≤ 8 by omega)]; simp), HF.out⟩
  go_wp2_with fail
  go_ret
  exact ⟨ret_bool (by rw [hres.out, decide_eq_true (show 0 ≤ m by omega), decide_eq_true (show m ≤ 2 by omega), decide_eq_true (show 1 ≤ b by omega), decide_eq_true (show b ≤ 8 by omega)]; rfl), HF.out⟩

end Go.Proofs.YtekmcoflagajkaaGreatDoor
