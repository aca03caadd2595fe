/- The program's Print of a formula that may be. -/
import Derived.Test.YtogopcejapklgaaGreatDoorTxC
import Derived.Test.YtogopcejapklgaaGreatDoorRtC
namespace Go.Proofs.YtogopcejapklgaaGreatDoor
open Go.RowKit

set_option maxHeartbeats 4000000 in
theorem print_any (f : Fm) (a : Option Addr) (cap : Nat) (hok : okD 20 f) (hs : f.size ≤ 200) (w : World) (hV : Vars w) (hin : FmIn w (In_ w) (fmC f.kind f.prop a f.kids.length cap) f) :
    Calls Tryz.prog 10 #[.agg #[.int .i64 f.kind, .int .i64 f.prop.k, .int .i64 f.prop.t, .int .i64 f.prop.a, .int .i64 f.prop.n, .slice a f.kids.length cap]] w
      fun e w' => e = .returned (.tuple #[strV (txtF f), .int .i64 0]) ∧ Below w.heap.size w w' := by
  have hin' : ∀ W, Below w.heap.size w W → FmIn W (In_ W) (fmC f.kind f.prop a f.kids.length cap) f := fun W hb => (hin.keep fun b o hlt => hb.cell (p := ⟨b, o, none⟩) hlt).widen fun b hlt => Nat.lt_of_lt_of_le hlt hb.size
  have HR := hid (fun W (hb : Below w.heap.size w W) => lright_any f a cap hok hs W (hin' W hb))
  have HT := hid (fun W (hb : Below w.heap.size w W) => text_all 20 f a cap W hok hs (hV.next hb) (hin' W hb))
  clear hin hin' hok hs hV
  generalize txtF f = tx at *
  generalize f.kind = kd at *
  generalize f.prop.k = pk at *
  generalize f.prop.t = pt at *
  generalize f.prop.a = pa at *
  generalize f.prop.n = pn at *
  generalize f.kids.length = kl at *
  go_enter Tryz.func10, Tryz.ntmps10
  go_upto_region 1 with fail
  generalize hW : World.alloc w _ = W1
  have hB1 : Hid (Below w.heap.size w W1) := by subst hW; exact (Below.refl _ _).alloc (Nat.le_refl _) _
  have hh : W1.heap[w.heap.size]? = some (.cells #[.int .i64 kd, .int .i64 pk, .int .i64 pt, .int .i64 pa, .int .i64 pn, .slice a kl cap] 30 (0, 0)) := by subst hW; exact alloc_at rfl
  have hz1 : w.heap.size < W1.heap.size := (Array.getElem?_eq_some_iff.1 hh).1
  have z0 := cell_of_heap (j := 0) hh
  have z1 := cell_of_heap (j := 1) hh
  have z2 := cell_of_heap (j := 2) hh
  have z3 := cell_of_heap (j := 3) hh
  have z4 := cell_of_heap (j := 4) hh
  have z5 := cell_of_heap (j := 5) hh
  simp at z0 z1 z2 z3 z4 z5
  have Hh := hid hh
  clear hW hh
  go_wp2_with (first
    | (go_at_call 21
       with_reducible refine (HR.out W1 hB1.out).mono ?_
       rintro e w2 ⟨rfl, hb2⟩
       have hB2 := hid (hB1.out.trans (hb2.mono hB1.out.size))
       have hh2 := (hb2.block _ hz1).trans Hh.out
       have z0 := cell_of_heap (j := 0) hh2
       have z1 := cell_of_heap (j := 1) hh2
       have z2 := cell_of_heap (j := 2) hh2
       have z3 := cell_of_heap (j := 3) hh2
       have z4 := cell_of_heap (j := 4) hh2
       have z5 := cell_of_heap (j := 5) hh2
       simp at z0 z1 z2 z3 z4 z5
       clear hb2 hh2)
    | (go_at_call 23
       with_reducible refine (HT.out w2 hB2.out).mono ?_
       rintro e w3 ⟨rfl, hb3⟩
       have hB3 := hid (hB2.out.trans (hb3.mono hB2.out.size))
       clear hb3)
    | fail)
  go_ret2
  exact ⟨rfl, hB3.out⟩
end Go.Proofs.YtogopcejapklgaaGreatDoor
