/- The law's awake: true. -/
import Derived.Test.YtogopcejapklgaaGreatDoorTxJ
namespace Go.Proofs.YtogopcejapklgaaGreatDoor
open Go.RowKit

/-- The formula's box in awake. -/
structure AwS (w x : World) (B : Nat) (a : Option Addr) (cap : Nat) : Prop where
  bl : Below w.heap.size w x
  hp : x.heap[B]? = some (.cells #[.int .i64 11, .int .i64 0, .int .i64 0, .int .i64 0, .int .i64 0, .slice a 1 cap] 30 (0, 0))
  fm : FmIn x (In_ x) (fmC 11 Pr.zero a 1 cap) awF
namespace AwS
variable {w x y : World} {B cap : Nat} {a : Option Addr}
theorem six (h : AwS w x B a cap) : x.cell? ⟨B, 0, none⟩ = some (.int .i64 11) ∧ x.cell? ⟨B, 1, none⟩ = some (.int .i64 0) ∧ x.cell? ⟨B, 2, none⟩ = some (.int .i64 0) ∧ x.cell? ⟨B, 3, none⟩ = some (.int .i64 0) ∧ x.cell? ⟨B, 4, none⟩ = some (.int .i64 0) ∧ x.cell? ⟨B, 5, none⟩ = some (.slice a 1 cap) := by
  refine ⟨?_, ?_, ?_, ?_, ?_, ?_⟩
  all_goals (rw [cell_of_heap h.hp]; rfl)
theorem below (h : AwS w x B a cap) (hb : Below x.heap.size x y) : AwS w y B a cap :=
  ⟨h.bl.trans (hb.mono h.bl.size), (hb.block _ (Array.getElem?_eq_some_iff.1 h.hp).1).trans h.hp, (h.fm.keep fun b o hlt => hb.cell (p := ⟨b, o, none⟩) hlt).widen fun _b hlt => Nat.lt_of_lt_of_le hlt hb.size⟩
end AwS

set_option maxRecDepth 100000 in
set_option maxHeartbeats 8000000 in
theorem awake_any (w : World) (hV : Vars w) : Calls Tryz.prog 7 #[] w fun e w' => e = .returned (.bool true) ∧ Below w.heap.size w w' := by
  have HV := hid hV
  clear hV
  go_enter Tryz.func7, Tryz.ntmps7
  go_upto_region 2 with (first
    | (go_at_call 12
       refine (aw_parse w HV.out).mono ?_
       rintro e w1 ⟨a, cap, rfl, hF, hb1⟩
       have HF := hid hF
       have HB := hid hb1
       clear hF hb1)
    | fail)
  generalize hW : World.alloc w1 _ = W1
  have h1 : Hid (AwS w W1 w1.heap.size a cap) := by
    subst hW
    have hb := (Below.refl w1.heap.size w1).alloc (Nat.le_refl _) (.cells #[.int .i64 11, .int .i64 0, .int .i64 0, .int .i64 0, .int .i64 0, .slice a 1 cap] 30)
    exact hid ⟨HB.out.trans (hb.mono HB.out.size), alloc_at rfl, (HF.out.keep fun b o hlt => hb.cell (p := ⟨b, o, none⟩) hlt).widen fun b hlt => Nat.lt_of_lt_of_le hlt hb.size⟩
  generalize w1.heap.size = B at *
  clear hW HF HB
  obtain ⟨z0, z1, z2, z3, z4, z5⟩ := h1.out.six
  go_upto_region 3 with (first
    | (go_at_call 10
       refine (aw_print W1 (HV.out.next h1.out.bl) a cap h1.out.fm).mono ?_
       rintro e w2 ⟨rfl, hb2⟩
       have h2 := hid (h1.out.below hb2)
       clear hb2)
    | fail)
  go_upto_region 4 with (first
    | (go_at_call 12
       refine (ba_parse w2 (HV.out.next h2.out.bl)).mono ?_
       rintro e w3 ⟨v, rfl, hv1, hb3⟩
       have h3 := hid (h2.out.below hb3)
       have hst := fun ad W m => run_store (P := Tryz.prog) W ad v m hv1
       clear hb3)
    | fail)
  generalize hW : World.alloc w3 _ = W3
  have h4 : Hid (AwS w W3 B a cap) := by subst hW; exact hid (h3.out.below ((Below.refl _ _).alloc (Nat.le_refl _) _))
  clear hW h1 h2 h3 z0 z1 z2 z3 z4 z5
  go_upto_region 5 with (first
    | (go_at_call 10
       refine (print_zero W3).mono ?_
       rintro e w4 ⟨rfl, hb4⟩
       have h5 := hid (h4.out.below hb4)
       obtain ⟨z0, z1, z2, z3, z4, z5⟩ := h5.out.six
       clear hb4)
    | fail)
  go_upto_region 6 with (first
    | (go_at_call 20
       refine (aw_props w4 a cap h5.out.fm).mono ?_
       rintro e w5 ⟨b5, c5, rfl, hlt5, hc5, hb5⟩
       have h6 := hid (h5.out.below hb5)
       obtain ⟨z0, z1, z2, z3, z4, z5⟩ := h6.out.six
       clear hb5)
    | fail)
  clear h4 h5
  go_wp2_with (first
    | (go_at_call 21
       refine (aw_right w5 a cap h6.out.fm).mono ?_
       rintro e w6 ⟨rfl, hb6⟩
       have h7 := hid (h6.out.below hb6)
       obtain ⟨z0, z1, z2, z3, z4, z5⟩ := h7.out.six
       clear hb6)
    | (go_at_call 14
       refine (aw_same w6 a cap h7.out.fm).mono ?_
       rintro e w7 ⟨rfl, hb7⟩
       have h8 := hid (h7.out.below hb7)
       clear hb7)
    | fail)
  go_ret
  exact ⟨rfl, h8.out.bl⟩
end Go.Proofs.YtogopcejapklgaaGreatDoor
