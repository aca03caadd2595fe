/- Right and Print of the formula of zeros. -/
import Derived.Test.YtogopcejapklgaaGreatDoorTxF
namespace Go.Proofs.YtogopcejapklgaaGreatDoor
open Go.RowKit

abbrev zeroV : Value := .agg #[.int .i64 0, .int .i64 0, .int .i64 0, .int .i64 0, .int .i64 0, .slice none 0 0]
set_option maxHeartbeats 4000000 in
theorem lright_zero (w : World) :
    Calls Tryz.prog 21 #[zeroV] w fun e w' => e = .returned (.bool false) ∧ Below w.heap.size w w' := by
  go_enter Tryz.func21, Tryz.ntmps21
  go_upto_region 1 with fail
  generalize hW : World.alloc w _ = W1
  have hB1 : Hid (Below w.heap.size w W1) := by subst hW; exact (Below.refl _ _).alloc (Nat.le_refl _) _
  have hh : Hid (W1.heap[w.heap.size]? = some (.cells #[.int .i64 0, .int .i64 0, .int .i64 0, .int .i64 0, .int .i64 0, .slice none 0 0] 30 (0, 0))) := by subst hW; exact alloc_at rfl
  have hz1 : w.heap.size < W1.heap.size := (Array.getElem?_eq_some_iff.1 hh.out).1
  clear hW
  go_upto_region 2 with (first
    | (go_at_call 35
       with_reducible refine (forms_any _).mono ?_
       rintro e w2 ⟨mb, rfl, hmb, hM, hb2⟩
       have hM := hid hM
       have hb2 := hid hb2)
    | fail)
  generalize hW : World.alloc w2 _ = W3
  have hC3 : Hid (CBox W3 w2.heap.size mb 0) := by
    subst hW
    exact ⟨alloc_at rfl, hM.out.keep ((Below.refl _ _).alloc (Nat.le_refl _) _), hM.out.lt⟩
  have hB3 : Hid (Below w.heap.size w W3) := by subst hW; exact (hB1.out.trans (hb2.out.mono hB1.out.size)).alloc (Nat.le_trans hB1.out.size hb2.out.size) _
  have hz2 := hb2.out.size
  have hh3 : W3.heap[w.heap.size]? = some (.cells #[.int .i64 0, .int .i64 0, .int .i64 0, .int .i64 0, .int .i64 0, .slice none 0 0] 30 (0, 0)) := by
    subst hW
    exact (Below.heap_alloc _ _ _ (by omega)).trans ((hb2.out.block _ hz1).trans hh.out)
  have z0 := cell_of_heap (j := 0) hh3
  have z1 := cell_of_heap (j := 1) hh3
  have z2 := cell_of_heap (j := 2) hh3
  have z3 := cell_of_heap (j := 3) hh3
  have z4 := cell_of_heap (j := 4) hh3
  have z5 := cell_of_heap (j := 5) hh3
  simp at z0 z1 z2 z3 z4 z5
  have hcall := right_zero w2.heap.size mb W3 hC3.out
  have hcall := hid hcall
  clear hW hh hh3 hM hb2
  go_wp2_with (first
    | (go_at_call 36
       with_reducible refine hcall.out.mono ?_
       rintro e w4 ⟨rfl, hg4⟩
       have hg4 := hid hg4)
    | fail)
  go_ret
  exact ⟨rfl, hB3.out.grown hg4.out hB3.out.size fun k e => by cases e; omega⟩
set_option maxHeartbeats 4000000 in
theorem print_zero (w : World) :
    Calls Tryz.prog 10 #[zeroV] w fun e w' => e = .returned (.tuple #[.string ⟨#[]⟩, .int .i64 1]) ∧ Below w.heap.size w w' := by
  go_enter Tryz.func10, Tryz.ntmps10
  go_upto_region 1 with fail
  generalize hW : World.alloc w _ = W1
  have hB1 : Hid (Below w.heap.size w W1) := by subst hW; exact (Below.refl _ _).alloc (Nat.le_refl _) _
  have hh : W1.heap[w.heap.size]? = some (.cells #[.int .i64 0, .int .i64 0, .int .i64 0, .int .i64 0, .int .i64 0, .slice none 0 0] 30 (0, 0)) := by subst hW; exact alloc_at rfl
  have hz1 : w.heap.size < W1.heap.size := (Array.getElem?_eq_some_iff.1 hh).1
  have z0 := cell_of_heap (j := 0) hh
  have z1 := cell_of_heap (j := 1) hh
  have z2 := cell_of_heap (j := 2) hh
  have z3 := cell_of_heap (j := 3) hh
  have z4 := cell_of_heap (j := 4) hh
  have z5 := cell_of_heap (j := 5) hh
  simp at z0 z1 z2 z3 z4 z5
  have Hh := hid hh
  clear hW hh
  go_wp2_with (first
    | (go_at_call 21
       with_reducible refine (lright_zero W1).mono ?_
       rintro e w2 ⟨rfl, hb2⟩
       have hB2 := hid (hB1.out.trans (hb2.mono hB1.out.size))
       clear hb2)
    | fail)
  go_ret2
  exact ⟨rfl, hB2.out⟩
end Go.Proofs.YtogopcejapklgaaGreatDoor
