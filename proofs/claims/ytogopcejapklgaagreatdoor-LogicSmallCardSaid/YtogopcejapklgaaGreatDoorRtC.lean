/- The program's Right: true of a formula that may be. -/
import Derived.Test.YtogopcejapklgaaGreatDoorRtB
namespace Go.Proofs.YtogopcejapklgaaGreatDoor
open Go.RowKit

theorem right_all : ∀ d, d ≤ 20 → RtAt d
  | 0, _ => fun _ _ _ f _ _ _ h => absurd h (okD_zero f)
  | d + 1, hd => right_step d (by omega) (right_all d (by omega))
set_option maxHeartbeats 4000000 in
theorem lright_any (f : Fm) (a : Option Addr) (cap : Nat) (hok : okD 20 f) (hs : f.size ≤ 200) (w : World) (hin : FmIn w (In_ w) (fmC f.kind f.prop a f.kids.length cap) f) :
    Calls Tryz.prog 21 #[.agg #[.int .i64 f.kind, .int .i64 f.prop.k, .int .i64 f.prop.t, .int .i64 f.prop.a, .int .i64 f.prop.n, .slice a f.kids.length cap]] w fun e w' => e = .returned (.bool true) ∧ Below w.heap.size w w' := by
  have HR := hid (fun C mb W (h1 : CBox W C mb 0) h2 => right_all 20 (Nat.le_refl _) C mb 0 f a cap W hok (Int.le_refl 0) (by omega) h1 h2)
  have Hin := hid hin
  have Hcs : Hid (∀ (cs : List Value) (W : World) (C : Nat), FmIn w (In_ w) cs f → Below w.heap.size w W → w.heap.size ≤ C → FmIn W (fun b => b < C) cs f) := fun cs W C h hb hC => (h.keep fun b o hlt => hb.cell (p := ⟨b, o, none⟩) hlt).widen fun b hlt => Nat.lt_of_lt_of_le hlt hC
  clear hin hok hs
  generalize (f.size : Int) = sz at *
  generalize f.kind = kd at *
  generalize f.prop.k = pk at *
  generalize f.prop.t = pt at *
  generalize f.prop.a = pa at *
  generalize f.prop.n = pn at *
  generalize f.kids.length = kl at *
  go_enter Tryz.func21, Tryz.ntmps21
  go_upto_region 1 with fail
  generalize hW : World.alloc w _ = W1
  have hB1 : Hid (Below w.heap.size w W1) := by subst hW; exact (Below.refl _ _).alloc (Nat.le_refl _) _
  have hh : Hid (W1.heap[w.heap.size]? = some (.cells #[.int .i64 kd, .int .i64 pk, .int .i64 pt, .int .i64 pa, .int .i64 pn, .slice a kl cap] 30 (0, 0))) := by subst hW; exact alloc_at rfl
  have hz1 : w.heap.size < W1.heap.size := (Array.getElem?_eq_some_iff.1 hh.out).1
  clear hW
  go_upto_region 2 with (first
    | (go_at_call 35
       with_reducible refine (forms_any _).mono ?_
       rintro e w2 ⟨mb, rfl, hmb, hM, hb2⟩
       have hM := hid hM
       have hb2 := hid hb2)
    | fail)
  generalize hW : World.alloc w2 _ = W3
  have hC3 : Hid (CBox W3 w2.heap.size mb 0) := by
    subst hW
    exact ⟨alloc_at rfl, hM.out.keep ((Below.refl _ _).alloc (Nat.le_refl _) _), hM.out.lt⟩
  have hB3 : Hid (Below w.heap.size w W3) := by subst hW; exact (hB1.out.trans (hb2.out.mono hB1.out.size)).alloc (Nat.le_trans hB1.out.size hb2.out.size) _
  have hz2 := hb2.out.size
  have hh3 : W3.heap[w.heap.size]? = some (.cells #[.int .i64 kd, .int .i64 pk, .int .i64 pt, .int .i64 pa, .int .i64 pn, .slice a kl cap] 30 (0, 0)) := by
    subst hW
    exact (Below.heap_alloc _ _ _ (by omega)).trans ((hb2.out.block _ hz1).trans hh.out)
  have z0 := cell_of_heap (j := 0) hh3
  have z1 := cell_of_heap (j := 1) hh3
  have z2 := cell_of_heap (j := 2) hh3
  have z3 := cell_of_heap (j := 3) hh3
  have z4 := cell_of_heap (j := 4) hh3
  have z5 := cell_of_heap (j := 5) hh3
  simp at z0 z1 z2 z3 z4 z5
  have hcall := HR.out w2.heap.size mb W3 hC3.out (Hcs.out _ _ _ Hin.out hB3.out (Nat.le_trans (Nat.le_of_lt hz1) hz2))
  rw [show ((20 : Nat) : Int) = 20 from rfl] at hcall
  have hcall := hid hcall
  clear hW hh hh3 hM hb2 HR Hcs
  go_wp2_with (first
    | (go_at_call 36
       with_reducible refine hcall.out.mono ?_
       rintro e w4 ⟨rfl, hC4, hg4⟩
       have hg4 := hid hg4
       clear hC4)
    | fail)
  go_ret
  exact ⟨rfl, hB3.out.grown hg4.out hB3.out.size fun k e => by cases e; omega⟩
end Go.Proofs.YtogopcejapklgaaGreatDoor
