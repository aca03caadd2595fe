/- ValueSums, walked: one of three cases. -/
import Derived.Test.YtnnidmdokehajaaValGA
namespace Go.Proofs.Ytnnidmdokehajaa
open Go.RowKit

set_option maxHeartbeats 4000000 in
theorem valueSums_eq (a b dm A C D : Int) (qa : 0 ≤ a ∧ a ≤ 255) (qb : 0 ≤ b ∧ b ≤ 255) (qd : 0 ≤ dm ∧ dm ≤ 255) (hD : D = 2 + dm % 15) (hA : A = a % D) (hC : C = b % D) (hyp : A = C) (w : World) :
    Calls Try.prog 6 #[.int .u8 a, .int .u8 b, .int .u8 dm] w fun e w' => e = .returned (.bool true) ∧ Below w.heap.size w w' := by
  obtain ⟨qa0, qa1⟩ := qa
  obtain ⟨qb0, qb1⟩ := qb
  obtain ⟨qd0, qd1⟩ := qd
  have hD1 : 2 ≤ D := by omega
  have hD2 : D ≤ 16 := by omega
  have hA1 : 0 ≤ A := by rw [hA]; exact Int.emod_nonneg _ (by omega)
  have hA2 : A < D := by rw [hA]; exact Int.emod_lt_of_pos _ (by omega)
  have hC1 : 0 ≤ C := by rw [hC]; exact Int.emod_nonneg _ (by omega)
  have hC2 : C < D := by rw [hC]; exact Int.emod_lt_of_pos _ (by omega)
  have wA : (Lit.int .i64 A).wf = true := WalkArith.wf_i64 (by omega)
  have wC : (Lit.int .i64 C).wf = true := WalkArith.wf_i64 (by omega)
  have k1 := hid (evz_cmp A C D hD1 hD2 hA1 hA2 hC1 hC2)
  have k2 := hid (evz_cmp C A D hD1 hD2 hC1 hC2 hA1 hA2)
  have e1 : EvZ D 0 (XN 60 A C) := evz_of (by omega) (by rw [k1.out.1]; simp; omega)
  have e2 : EvZ D 0 (XN 60 C A) := evz_of (by omega) (by rw [k2.out.1]; simp; omega)
  have e3 : EvZ D 1 (XN 61 A C) := evz_of (by omega) (by rw [k1.out.2.1]; simp; omega)
  have e4 : EvZ D 0 (XN 33 A C) := evz_of (by omega) (by rw [k1.out.2.2.1]; simp; omega)
  have e5 : EvZ D A (.mk 3 0 45 [XN 43 A C, .mk 1 C 0 []]) := evz_of (by omega) k1.out.2.2.2
  have E1 := hid e1
  have E2 := hid e2
  have E3 := hid e3
  have E4 := hid e4
  have E5 := hid e5
  have HD := hid hD
  have HA := hid hA
  have HC := hid hC
  clear e1 e2 e3 e4 e5 hD hA hC k1 k2 hyp
  have WA := hid wA
  have WC := hid wC
  clear wA wC
  have qq : IntKind.i64.wrap a = a := IntWalk.i64_in _ (by omega)
  have qr : IntKind.i64.wrap b = b := IntWalk.i64_in _ (by omega)
  have hDne : D ≠ 0 := by omega
  have ta : a.tmod D = A := by rw [Int.tmod_eq_emod_of_nonneg qa0]; exact HA.out.symm
  have tb : b.tmod D = C := by rw [Int.tmod_eq_emod_of_nonneg qb0]; exact HC.out.symm
  go_enter Try.func6, Try.ntmps6
  go_wp2_with fail
  refine (awake_any _).mono ?_
  rintro e w1 ⟨rfl, hb1⟩
  have HB := hid hb1
  clear hb1
  go_wp2_with fail
  rw [← HD.out]
  go_region
  · go_wp2_with fail
    generalize hW : World.alloc (World.alloc (World.alloc _ _) _) _ = W2
    have hB : Below w.heap.size w W2 := by subst hW; exact ((HB.out.alloc HB.out.size _).alloc (by have := HB.out.size; simp; omega) _).alloc (by have := HB.out.size; simp; omega) _
    have x0 : W2.cell? ⟨w1.heap.size, 0, none⟩ = some (.int .i64 1) := by subst hW; go_simp
    have x1 : W2.cell? ⟨w1.heap.size, 1, none⟩ = some (.int .i64 A) := by subst hW; go_simp
    have x2 : W2.cell? ⟨w1.heap.size, 2, none⟩ = some (.int .u8 0) := by subst hW; go_simp
    have x3 : W2.cell? ⟨w1.heap.size, 3, none⟩ = some (.slice none 0 0) := by subst hW; go_simp
    have y0 : W2.cell? ⟨w1.heap.size + 1, 0, none⟩ = some (.int .i64 1) := by subst hW; go_simp
    have y1 : W2.cell? ⟨w1.heap.size + 1, 1, none⟩ = some (.int .i64 C) := by subst hW; go_simp
    have y2 : W2.cell? ⟨w1.heap.size + 1, 2, none⟩ = some (.int .u8 0) := by subst hW; go_simp
    have y3 : W2.cell? ⟨w1.heap.size + 1, 3, none⟩ = some (.slice none 0 0) := by subst hW; go_simp
    have c0 : W2.cell? ⟨w1.heap.size + 1 + 1, 0, none⟩ = some (.int .i64 0) := by subst hW; go_simp
    have c1 : W2.cell? ⟨w1.heap.size + 1 + 1, 1, none⟩ = some (.int .i64 0) := by subst hW; go_simp
    have c2 : W2.cell? ⟨w1.heap.size + 1 + 1, 2, none⟩ = some (.int .i64 0) := by subst hW; go_simp
    have c3 : W2.cell? ⟨w1.heap.size + 1 + 1, 3, none⟩ = some (.int .i64 0) := by subst hW; go_simp
    have z0 : w1.heap.size < W2.heap.size := by subst hW; simp; omega
    have z1 : w1.heap.size + 1 < W2.heap.size := by subst hW; simp
    have z2 : w1.heap.size + 1 + 1 < W2.heap.size := by subst hW; simp
    have s1 : IntKind.i64.wrap (0 + 1) = 0 + 1 := IntWalk.i64_in _ (by omega)
    clear hW
    have HB2 := hid hB
    clear hB HB
    go_region_held3 (Kp W2)
      (first | assumption | exact Kp.of (Below.refl _ _).drew.drew | exact Kp.next (by assumption) hb1)
      (first
        | (go_at_call 13; (refine (two_any _ _ _ _ _ _ _ _ _ _).mono ?_); rintro e w1 ⟨rfl, hb1, hz1, hc1⟩)
        | (go_at_call 9; (with_reducible refine (E1.out _ _ ?_).mono ?_); (focus exact xn_in WA.out WC.out (by decide) hz1 hc1); rintro e w1 ⟨rfl, hb1⟩)
        | (go_at_call 9; (with_reducible refine (E2.out _ _ ?_).mono ?_); (focus exact xn_in WC.out WA.out (by decide) hz1 hc1); rintro e w1 ⟨rfl, hb1⟩)
        | (go_at_call 9; (with_reducible refine (E3.out _ _ ?_).mono ?_); (focus exact xn_in WA.out WC.out (by decide) hz1 hc1); rintro e w1 ⟨rfl, hb1⟩))
    go_wp2_with fail
    go_region_held3 (Kp W2)
      (first | assumption | exact Kp.of (by assumption : Kp W2 _).1.drew | exact Kp.next (by assumption) hb1)
      (first
        | (go_at_call 13; (with_reducible refine (two_any 43 _ _ _ _ _ _ _ _ _).mono ?_); rintro e w1 ⟨rfl, hb1, hz1, hc1⟩; have hx43 := xn_in (o := 43) WA.out WC.out (by decide) hz1 hc1)
        | (go_at_call 13; (with_reducible refine (two_any 45 _ _ _ _ _ _ _ _ _).mono ?_); rintro e w1 ⟨rfl, hb1, hz1, hc1⟩; have hx45 := ExIn.mk2 (S := In_ w1) (o := 45) (k := 3) (n := 0) (by decide) (by decide) (by decide) hz1 hc1 ((Kp.of hb1).ex hx43) (num_in WC.out))
        | (go_at_call 13; (refine (two_any _ _ _ _ _ _ _ _ _ _).mono ?_); rintro e w1 ⟨rfl, hb1, hz1, hc1⟩)
        | (go_at_call 9; (with_reducible refine (E5.out _ _ hx45).mono ?_); rintro e w1 ⟨rfl, hb1⟩)
        | (go_at_call 9; (with_reducible refine (E4.out _ _ ?_).mono ?_); (focus exact xn_in WA.out WC.out (by decide) hz1 hc1); rintro e w1 ⟨rfl, hb1⟩)
        | (go_at_call 9; (with_reducible refine (E3.out _ _ ?_).mono ?_); (focus exact xn_in WA.out WC.out (by decide) hz1 hc1); rintro e w1 ⟨rfl, hb1⟩))
    rename_i hKp
    go_wp2
    go_ret
    exact ⟨by first | (simp; done) | (simp; exact IntWalk.i64_in _ (by omega)), HB2.out.trans (hKp.1.mono HB2.out.size)⟩
  · go_wp2_with fail
    generalize hW : World.alloc (World.alloc (World.alloc _ _) _) _ = W2
    have hB : Below w.heap.size w W2 := by subst hW; exact ((HB.out.alloc HB.out.size _).alloc (by have := HB.out.size; simp; omega) _).alloc (by have := HB.out.size; simp; omega) _
    have x0 : W2.cell? ⟨w1.heap.size + 1, 0, none⟩ = some (.int .i64 1) := by subst hW; go_simp
    have x1 : W2.cell? ⟨w1.heap.size + 1, 1, none⟩ = some (.int .i64 A) := by subst hW; go_simp
    have x2 : W2.cell? ⟨w1.heap.size + 1, 2, none⟩ = some (.int .u8 0) := by subst hW; go_simp
    have x3 : W2.cell? ⟨w1.heap.size + 1, 3, none⟩ = some (.slice none 0 0) := by subst hW; go_simp
    have y0 : W2.cell? ⟨w1.heap.size, 0, none⟩ = some (.int .i64 1) := by subst hW; go_simp
    have y1 : W2.cell? ⟨w1.heap.size, 1, none⟩ = some (.int .i64 C) := by subst hW; go_simp
    have y2 : W2.cell? ⟨w1.heap.size, 2, none⟩ = some (.int .u8 0) := by subst hW; go_simp
    have y3 : W2.cell? ⟨w1.heap.size, 3, none⟩ = some (.slice none 0 0) := by subst hW; go_simp
    have c0 : W2.cell? ⟨w1.heap.size + 1 + 1, 0, none⟩ = some (.int .i64 0) := by subst hW; go_simp
    have c1 : W2.cell? ⟨w1.heap.size + 1 + 1, 1, none⟩ = some (.int .i64 0) := by subst hW; go_simp
    have c2 : W2.cell? ⟨w1.heap.size + 1 + 1, 2, none⟩ = some (.int .i64 0) := by subst hW; go_simp
    have c3 : W2.cell? ⟨w1.heap.size + 1 + 1, 3, none⟩ = some (.int .i64 0) := by subst hW; go_simp
    have z0 : w1.heap.size < W2.heap.size := by subst hW; simp; omega
    have z1 : w1.heap.size + 1 < W2.heap.size := by subst hW; simp
    have z2 : w1.heap.size + 1 + 1 < W2.heap.size := by subst hW; simp
    have s1 : IntKind.i64.wrap (0 + 1) = 0 + 1 := IntWalk.i64_in _ (by omega)
    clear hW
    have HB2 := hid hB
    clear hB HB
    go_region_held3 (Kp W2)
      (first | assumption | exact Kp.of (Below.refl _ _).drew.drew | exact Kp.next (by assumption) hb1)
      (first
        | (go_at_call 13; (refine (two_any _ _ _ _ _ _ _ _ _ _).mono ?_); rintro e w1 ⟨rfl, hb1, hz1, hc1⟩)
        | (go_at_call 9; (with_reducible refine (E1.out _ _ ?_).mono ?_); (focus exact xn_in WA.out WC.out (by decide) hz1 hc1); rintro e w1 ⟨rfl, hb1⟩)
        | (go_at_call 9; (with_reducible refine (E2.out _ _ ?_).mono ?_); (focus exact xn_in WC.out WA.out (by decide) hz1 hc1); rintro e w1 ⟨rfl, hb1⟩)
        | (go_at_call 9; (with_reducible refine (E3.out _ _ ?_).mono ?_); (focus exact xn_in WA.out WC.out (by decide) hz1 hc1); rintro e w1 ⟨rfl, hb1⟩))
    go_wp2_with fail
    go_region_held3 (Kp W2)
      (first | assumption | exact Kp.of (by assumption : Kp W2 _).1.drew | exact Kp.next (by assumption) hb1)
      (first
        | (go_at_call 13; (with_reducible refine (two_any 43 _ _ _ _ _ _ _ _ _).mono ?_); rintro e w1 ⟨rfl, hb1, hz1, hc1⟩; have hx43 := xn_in (o := 43) WA.out WC.out (by decide) hz1 hc1)
        | (go_at_call 13; (with_reducible refine (two_any 45 _ _ _ _ _ _ _ _ _).mono ?_); rintro e w1 ⟨rfl, hb1, hz1, hc1⟩; have hx45 := ExIn.mk2 (S := In_ w1) (o := 45) (k := 3) (n := 0) (by decide) (by decide) (by decide) hz1 hc1 ((Kp.of hb1).ex hx43) (num_in WC.out))
        | (go_at_call 13; (refine (two_any _ _ _ _ _ _ _ _ _ _).mono ?_); rintro e w1 ⟨rfl, hb1, hz1, hc1⟩)
        | (go_at_call 9; (with_reducible refine (E5.out _ _ hx45).mono ?_); rintro e w1 ⟨rfl, hb1⟩)
        | (go_at_call 9; (with_reducible refine (E4.out _ _ ?_).mono ?_); (focus exact xn_in WA.out WC.out (by decide) hz1 hc1); rintro e w1 ⟨rfl, hb1⟩)
        | (go_at_call 9; (with_reducible refine (E3.out _ _ ?_).mono ?_); (focus exact xn_in WA.out WC.out (by decide) hz1 hc1); rintro e w1 ⟨rfl, hb1⟩))
    rename_i hKp
    go_wp2
    go_ret
    exact ⟨by first | (simp; done) | (simp; exact IntWalk.i64_in _ (by omega)), HB2.out.trans (hKp.1.mono HB2.out.size)⟩
end Go.Proofs.Ytnnidmdokehajaa
