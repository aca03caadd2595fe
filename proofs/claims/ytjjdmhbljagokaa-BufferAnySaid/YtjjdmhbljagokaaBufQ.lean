/- BufferAny: the walk. -/
import Derived.Test.YtjjdmhbljagokaaBufP
namespace Go.Proofs.Ytjjdmhbljagokaa
open Go.RowKit Go.Sort

set_option maxRecDepth 100000 in
set_option maxHeartbeats 4000000 in
theorem bufferAny_walk (a : Option Addr) (n cap : Nat) (l : List (Int × Int)) (m b v x u : Int) (w : World) (hl : EnIn w (In_ w) a n cap l) :
    Calls Try.prog 3 #[.slice a n cap, .agg #[.int .i64 m, .int .i64 b], .agg #[.int .i64 v, .int .i64 x], .int .i64 u] w fun e w' => e = .returned (.bool true) ∧ Below w.heap.size w w' := by
  have hn := hl.1
  subst hn
  obtain ⟨W0, hW⟩ : ∃ W0, W0 = (w.alloc (.cells #[.int .i64 m, .int .i64 b] 24)).alloc (.cells #[.int .i64 v, .int .i64 x] 26) := ⟨_, rfl⟩
  have hB : Below w.heap.size w W0 := by subst hW; exact ((Below.refl _ _).alloc (Nat.le_refl _) _).alloc (by simp) _
  have z0 : w.heap.size < W0.heap.size := by subst hW; simp; omega
  have z1 : w.heap.size + 1 < W0.heap.size := by subst hW; simp
  have m0 : W0.cell? ⟨w.heap.size, 0, none⟩ = some (.int .i64 m) := by subst hW; go_simp
  have m1 : W0.cell? ⟨w.heap.size, 1, none⟩ = some (.int .i64 b) := by subst hW; go_simp
  have x0 : W0.cell? ⟨w.heap.size + 1, 0, none⟩ = some (.int .i64 v) := by subst hW; go_simp
  have x1 : W0.cell? ⟨w.heap.size + 1, 1, none⟩ = some (.int .i64 x) := by subst hW; go_simp
  have HB := hid hB
  have hl0 := hid ((Kp.of hB).en hl)
  clear hB hl
  by_cases hbig : (100 : Int) < l.length
  · go_enter Try.func3, Try.ntmps3
    go_wp2_with (first
      | (go_at_call 7
         rw [← hW]
         with_reducible refine (awake_any W0).mono ?_
         rintro e w1 ⟨rfl, hb1⟩)
      | fail)
    go_ret
    exact ⟨rfl, HB.out.trans (hb1.mono HB.out.size)⟩
  · have hlen : l.length ≤ 1000 := by omega
    have Hlen := hid hlen
    clear hlen
    go_enter Try.func3, Try.ntmps3
    go_wp2_with (first
      | (go_at_call 7
         rw [← hW]
         with_reducible refine (awake_any W0).mono ?_
         rintro e w1 ⟨rfl, hb1⟩
         have hk1 : Kp W0 w1 := Kp.of hb1)
      | (go_at_call 8
         with_reducible refine (same_any a l.length cap l m b v x u w1 (hk1.en hl0.out) Hlen.out).mono ?_
         rintro e w2 ⟨rfl, hb2⟩)
      | fail)
    go_ret
    exact ⟨rfl, HB.out.trans ((hk1.next hb2).1.mono HB.out.size)⟩
end Go.Proofs.Ytjjdmhbljagokaa
