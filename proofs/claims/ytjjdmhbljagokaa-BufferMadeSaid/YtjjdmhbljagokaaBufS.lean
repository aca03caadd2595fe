/- BufferMade: the walk. -/
import Derived.Test.YtjjdmhbljagokaaBufP
import Derived.Test.YtjjdmhbljagokaaBufR
namespace Go.Proofs.Ytjjdmhbljagokaa
open Go.RowKit Go.Sort

theorem mkE_len (cs : List Nat) : (madeL cs).length ≤ 12 := by unfold madeL; rw [List.length_map, List.length_take]; omega

set_option maxRecDepth 100000 in
set_option maxHeartbeats 4000000 in
theorem bufferMade_walk (a : Option Addr) (n cap : Nat) (cs : List Nat) (m b v x : Int) (hm : 0 ≤ m ∧ m ≤ 255) (hb : 0 ≤ b ∧ b ≤ 255) (hv : 0 ≤ v ∧ v ≤ 255) (hx : 0 ≤ x ∧ x ≤ 255) (w : World) (hl : ByIn w (In_ w) a n cap cs) :
    Calls Try.prog 4 #[.slice a n cap, .int .u8 m, .int .u8 b, .int .u8 v, .int .u8 x] w fun e w' => e = .returned (.bool true) ∧ Below w.heap.size w w' := by
  have hn := hl.1
  subst hn
  have w1 : IntKind.i64.wrap m = m := IntWalk.i64_in _ (by omega)
  have w2 : IntKind.i64.wrap b = b := IntWalk.i64_in _ (by omega)
  have w3 : IntKind.i64.wrap v = v := IntWalk.i64_in _ (by omega)
  have w4 : IntKind.i64.wrap x = x := IntWalk.i64_in _ (by omega)
  have hv0 := hv.1
  have w5 : IntKind.i64.wrap (v / 4) = v / 4 := IntWalk.i64_in _ (by omega)
  obtain ⟨W0, hW⟩ : ∃ W0, W0 = w.alloc (.cells #[.int .i64 (m.tmod 4), .int .i64 (b.tmod 9)] 24) := ⟨_, rfl⟩
  have hB : Below w.heap.size w W0 := by subst hW; exact (Below.refl _ _).alloc (Nat.le_refl _) _
  have z0 : w.heap.size < W0.heap.size := by subst hW; simp
  have m0 : W0.cell? ⟨w.heap.size, 0, none⟩ = some (.int .i64 (m.tmod 4)) := by subst hW; go_simp
  have m1 : W0.cell? ⟨w.heap.size, 1, none⟩ = some (.int .i64 (b.tmod 9)) := by subst hW; go_simp
  have HB := hid hB
  have hl0 := hid ((Kp.of hB).bytes hl)
  clear hB hl hm hb hv hx
  go_enter Try.func4, Try.ntmps4
  go_wp2_with fail
  rw [← hW]
  clear hW
  go_region_held3 (Kp W0)
    (first | exact Kp.start _ | assumption | exact Kp.next (by assumption) hb1 | exact Kp.next (by assumption) hb2 | exact Kp.next (by assumption) hb3)
    (first
      | (go_at_call 7
         with_reducible refine (awake_any _).mono ?_
         rintro e w1 ⟨rfl, hb1⟩)
      | (go_at_call 9
         with_reducible refine (made_any a cs.length cap cs _ ?_).mono ?_
         (focus exact Kp.bytes (by assumption) hl0.out)
         rintro e w2 ⟨a2, c2, rfl, hp2, hb2⟩)
      | (go_at_call 8
         with_reducible refine (same_any a2 (madeL cs).length c2 (madeL cs) _ _ _ _ _ _ ?_ (Nat.le_trans (mkE_len cs) (by omega))).mono ?_
         (focus exact hp2)
         rintro e w3 ⟨rfl, hb3⟩)
      | fail)
  rename_i hKp
  have hend := hid (HB.out.trans (hKp.1.mono HB.out.size))
  clear hKp HB hl0
  go_wp2_with fail
  go_ret
  exact ⟨rfl, hend.out⟩
end Go.Proofs.Ytjjdmhbljagokaa
