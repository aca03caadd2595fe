/- The maker of expressions by numbers: what it makes may be. -/
import Derived.Test.YtnnidmdokehajaaMaker
namespace Go.Proofs.Ytnnidmdokehajaa
open Go.RowKit

/-- The contract of the maker's Expr at one depth. -/
def MadeAt (B m : Nat) (dom : Int) (deep : Nat) : Prop := ∀ (di : Int) (t : Nat) (w : World), di = deep → Mkr w B m t → t + 4 ^ (deep + 1) < 4611686018427387904 →
    Calls Try.prog 15 #[.pointer (some ⟨m, 0, none⟩), .int .i64 di, .int .i64 dom] w (MadePost B m t dom deep w)

set_option maxHeartbeats 1000000 in
theorem made_step (B m : Nat) (dom : Int) (hdom : 1 ≤ dom) (hdom2 : dom ≤ 9223372036854775807) (deep : Nat) (ih : ∀ d, deep = d + 1 → MadeAt B m dom d) : MadeAt B m dom deep := by
  intro di t w hdi hM ht
  have hp : 4 ≤ 4 ^ (deep + 1) := by rw [Nat.pow_succ]; have := Nat.pow_pos (n := deep) (show 0 < 4 by omega); omega
  have Hdi := hid hdi
  have Hih := hid ih
  have hdi0 : 0 ≤ di := by omega
  clear hdi ih
  have hmlt := hM.lt
  go_enter Try.func15, Try.ntmps15
  go_wp2_with fail
  refine (pick_any B m t 5 _ (hM.alloc _) (by omega) (by omega)).mono ?_
  rintro e w1 ⟨k, rfl, hk0, hk5, hM1, hg1⟩
  have hR := (hg1.block w.heap.size (by simp) (by simp; omega)).trans (heap_alloc_new w _)
  have hz : w.heap.size < w1.heap.size := by have := hg1.size; simp at this; omega
  have hg : w.grownBy w1 (some m) := grownBy_trans (World.grownBy_alloc w _ _) hg1
  clear hg1 hM
  have hcase : (k < 2) ∨ (2 ≤ k ∧ di < 1) ∨ (2 ≤ k ∧ 1 ≤ di ∧ k < 4) ∨ (4 ≤ k ∧ 1 ≤ di) := by omega
  have short : ∀ n : Int, 0 ≤ n → n < dom → ∀ (w2 w3 : World), Mkr w2 B m (t + 1 + 1) → w1.grownBy w2 (some m) → Below w2.heap.size w2 w3 →
      MadePost B m t dom deep w (.returned (.agg #[.int .i64 1, .int .i64 n, .int .u8 0, .slice none 0 0])) (set4 w3 w.heap.size (.int .i64 1) (.int .i64 n) (.int .u8 0) (.slice none 0 0)) := by
    intro n hn0 hn1 w2 w3 hM2 hg2 hb3
    exact ⟨_, _, _, _, _, t + 1 + 1, rfl, ExIn.leaf _ _ _ _ _ (by decide) (WalkArith.wf_i64 (by omega)) (by decide), fit_num hn0 hn1, set4_mkr (hM2.below hb3) (by omega) _ _ _ _, by omega,
      set4_grown (grownBy_trans hg (grownBy_below hg2 hb3)) (Nat.le_refl _) _ _ _ _⟩
  have shortR : ∀ n : Int, 0 ≤ n → n < 4 → ∀ (w2 : World), Mkr w2 B m (t + 1 + 1) → w1.grownBy w2 (some m) →
      MadePost B m t dom deep w (.returned (.agg #[.int .i64 2, .int .i64 n, .int .u8 0, .slice none 0 0])) (set4 w2 w.heap.size (.int .i64 2) (.int .i64 n) (.int .u8 0) (.slice none 0 0)) := by
    intro n hn0 hn1 w2 hM2 hg2
    exact ⟨_, _, _, _, _, t + 1 + 1, rfl, ExIn.leaf _ _ _ _ _ (by decide) (WalkArith.wf_i64 (by omega)) (by decide), fit_reg hn0 hn1, set4_mkr hM2 (by omega) _ _ _ _, by omega,
      set4_grown (grownBy_trans hg hg2) (Nat.le_refl _) _ _ _ _⟩
  rcases hcase with h2 | ⟨h2, h1⟩ | ⟨h2, h1, h4⟩ | ⟨h4, h1⟩
  · go_wp2_with fail
    refine (pick_any B m (t + 1) dom _ hM1 (by omega) (by omega)).mono ?_
    rintro e w2 ⟨n, rfl, hn0, hn1, hM2, hg2⟩
    go_wp2_with fail
    refine (num_any n _).mono ?_
    rintro e w3 ⟨rfl, hb3⟩
    have hR3 := (hb3.block w.heap.size (by have := hg2.size; omega)).trans ((hg2.block w.heap.size hz (by simp; omega)).trans hR)
    have fin := hid (short n hn0 hn1 w2 w3 hM2 hg2 hb3)
    clear short shortR hR
    have f0 : w3.cell? ⟨w.heap.size, 0, none⟩ = some (.int .i64 0) := by simp [World.cell?, hR3]
    have f1 : w3.cell? ⟨w.heap.size, 1, none⟩ = some (.int .i64 0) := by simp [World.cell?, hR3]
    have f2 : w3.cell? ⟨w.heap.size, 2, none⟩ = some (.int .u8 0) := by simp [World.cell?, hR3]
    have f3 : w3.cell? ⟨w.heap.size, 3, none⟩ = some (.slice none 0 0) := by simp [World.cell?, hR3]
    have z0 : ∀ j, w3.frozen? ⟨w.heap.size, j, none⟩ = false := fun j => by simp [World.frozen?, hR3]
    have hR4 := set4_at hR3 rfl (.int .i64 1) (.int .i64 n) (.int .u8 0) (.slice none 0 0)
    have g0 := hid (cell_of_heap (j := 0) hR4)
    have g1 := hid (cell_of_heap (j := 1) hR4)
    have g2 := hid (cell_of_heap (j := 2) hR4)
    have g3 := hid (cell_of_heap (j := 3) hR4)
    clear hR3 hM1 hM2 hg hb3 hg2 Hih hR4
    go_wp2_with fail
    refine bodyPost_ret (v := .agg #[.int .i64 1, .int .i64 n, .int .u8 0, .slice none 0 0]) ?_ rfl fin.out
    have g0 := g0.out
    have g1 := g1.out
    have g2 := g2.out
    have g3 := g3.out
    unfold set4 at g0 g1 g2 g3
    simp [results, Try.results15, go_sem, g0, g1, g2, g3]
  · go_wp2_with fail
    refine (pick_any B m (t + 1) dom _ hM1 (by omega) (by omega)).mono ?_
    rintro e w2 ⟨n, rfl, hn0, hn1, hM2, hg2⟩
    go_wp2_with fail
    refine (num_any n _).mono ?_
    rintro e w3 ⟨rfl, hb3⟩
    have hR3 := (hb3.block w.heap.size (by have := hg2.size; omega)).trans ((hg2.block w.heap.size hz (by simp; omega)).trans hR)
    have fin := hid (short n hn0 hn1 w2 w3 hM2 hg2 hb3)
    clear short shortR hR
    have f0 : w3.cell? ⟨w.heap.size, 0, none⟩ = some (.int .i64 0) := by simp [World.cell?, hR3]
    have f1 : w3.cell? ⟨w.heap.size, 1, none⟩ = some (.int .i64 0) := by simp [World.cell?, hR3]
    have f2 : w3.cell? ⟨w.heap.size, 2, none⟩ = some (.int .u8 0) := by simp [World.cell?, hR3]
    have f3 : w3.cell? ⟨w.heap.size, 3, none⟩ = some (.slice none 0 0) := by simp [World.cell?, hR3]
    have z0 : ∀ j, w3.frozen? ⟨w.heap.size, j, none⟩ = false := fun j => by simp [World.frozen?, hR3]
    have hR4 := set4_at hR3 rfl (.int .i64 1) (.int .i64 n) (.int .u8 0) (.slice none 0 0)
    have g0 := hid (cell_of_heap (j := 0) hR4)
    have g1 := hid (cell_of_heap (j := 1) hR4)
    have g2 := hid (cell_of_heap (j := 2) hR4)
    have g3 := hid (cell_of_heap (j := 3) hR4)
    clear hR3 hM1 hM2 hg hb3 hg2 Hih hR4
    go_wp2_with fail
    refine bodyPost_ret (v := .agg #[.int .i64 1, .int .i64 n, .int .u8 0, .slice none 0 0]) ?_ rfl fin.out
    have g0 := g0.out
    have g1 := g1.out
    have g2 := g2.out
    have g3 := g3.out
    unfold set4 at g0 g1 g2 g3
    simp [results, Try.results15, go_sem, g0, g1, g2, g3]
  · go_wp2_with fail
    refine (pick_any B m (t + 1) 2 _ hM1 (by omega) (by omega)).mono ?_
    rintro e w2 ⟨n, rfl, hn0, hn1, hM2, hg2⟩
    have hR3 := (hg2.block w.heap.size hz (by simp; omega)).trans hR
    have fin := hid (shortR n hn0 (by omega) w2 hM2 hg2)
    clear short shortR hR
    have f0 : w2.cell? ⟨w.heap.size, 0, none⟩ = some (.int .i64 0) := by simp [World.cell?, hR3]
    have f1 : w2.cell? ⟨w.heap.size, 1, none⟩ = some (.int .i64 0) := by simp [World.cell?, hR3]
    have f2 : w2.cell? ⟨w.heap.size, 2, none⟩ = some (.int .u8 0) := by simp [World.cell?, hR3]
    have f3 : w2.cell? ⟨w.heap.size, 3, none⟩ = some (.slice none 0 0) := by simp [World.cell?, hR3]
    have z0 : ∀ j, w2.frozen? ⟨w.heap.size, j, none⟩ = false := fun j => by simp [World.frozen?, hR3]
    have hR4 := set4_at hR3 rfl (.int .i64 2) (.int .i64 n) (.int .u8 0) (.slice none 0 0)
    have g0 := hid (cell_of_heap (j := 0) hR4)
    have g1 := hid (cell_of_heap (j := 1) hR4)
    have g2 := hid (cell_of_heap (j := 2) hR4)
    have g3 := hid (cell_of_heap (j := 3) hR4)
    clear hR3 hM1 hM2 hg hg2 Hih hR4
    go_wp2_with fail
    refine bodyPost_ret (v := .agg #[.int .i64 2, .int .i64 n, .int .u8 0, .slice none 0 0]) ?_ rfl fin.out
    have g0 := g0.out
    have g1 := g1.out
    have g2 := g2.out
    have g3 := g3.out
    unfold set4 at g0 g1 g2 g3
    simp [results, Try.results15, go_sem, g0, g1, g2, g3]
  · obtain ⟨d', rfl⟩ : ∃ d', deep = d' + 1 := ⟨deep - 1, by have := Hdi.out; omega⟩
    have hA := Hih.out d' rfl
    have hd : di - 1 = (d' : Int) := by have := Hdi.out; omega
    have hp2 : 4 ^ (d' + 1 + 1) = 4 * 4 ^ (d' + 1) := by rw [Nat.pow_succ, Nat.mul_comm]
    have hp1 : 4 ≤ 4 ^ (d' + 1) := by rw [Nat.pow_succ]; have := Nat.pow_pos (n := d') (show 0 < 4 by omega); omega
    have Hd := hid hd
    have HA := hid hA
    have hq : IntKind.i64.wrap (di - 1) = di - 1 := IntWalk.i64_in _ (by have := Hdi.out; have := Nat.lt_pow_self (n := d' + 1 + 1) (show 1 < 4 by omega); omega)
    clear hA hd Hih short shortR hdi0
    have HP2 := hid hp2
    clear hp2
    go_wp2_with fail
    go_region_with (first
      | (go_at_call 26; (refine (pick_any B m (t + 1) 8 _ (hM1.below (Below.refl _ _).drew) (by omega) (by omega)).mono ?_); rintro e w2 ⟨r, rfl, hr0, hr8, hM2, hg2⟩)
      | (go_at_call 15; (refine (HA.out (di - 1) (t + 1 + 1) _ Hd.out hM2 (by have := HP2.out; omega)).mono ?_); rintro e w3 ⟨u0, u1, u2, u3, x, t3, rfl, hx, hfx, hM3, ht3, hg3⟩)
      | (go_at_call 15; (refine (HA.out (di - 1) t3 _ Hd.out hM3 (by have := HP2.out; omega)).mono ?_); rintro e w4 ⟨v0, v1, v2, v3, y, t4, rfl, hy, hfy, hM4, ht4, hg4⟩;
         have hgA := hid (grownBy_trans (grownBy_drew hg) (grownBy_trans (w := w1.drew) hg2 (grownBy_trans hg3 hg4)));
         have hR4 := (hg4.block w.heap.size (by have := hg3.size; have := hg2.size; simp at this; omega) (by simp; omega)).trans ((hg3.block w.heap.size (by have := hg2.size; simp at this; omega) (by simp; omega)).trans ((hg2.block w.heap.size (by simp; omega) (by simp; omega)).trans hR));
         have z4 : w.heap.size < w4.heap.size := (by have := hg4.size; have := hg3.size; have := hg2.size; simp at this; omega);
         have f0 : w4.cell? ⟨w.heap.size, 0, none⟩ = some (.int .i64 0) := cell_of_heap hR4;
         have f1 : w4.cell? ⟨w.heap.size, 1, none⟩ = some (.int .i64 0) := cell_of_heap hR4;
         have f2 : w4.cell? ⟨w.heap.size, 2, none⟩ = some (.int .u8 0) := cell_of_heap hR4;
         have f3 : w4.cell? ⟨w.heap.size, 3, none⟩ = some (.slice none 0 0) := cell_of_heap hR4;
         have y0 : ∀ j, w4.frozen? ⟨w.heap.size, j, none⟩ = false := fun j => unfrozen hR4;
         have HR4 := hid hR4; clear hR4))
    go_wp2_with fail
    all_goals
      have hR5 := set4_at HR4.out rfl (.int .i64 3) (.int .i64 0) (.int .u8 (opAt r.toNat (by omega))) (.slice (some ⟨w4.heap.size, 0, none⟩) 2 2)
      refine bodyPost_ret (v := .agg #[.int .i64 3, .int .i64 0, .int .u8 (opAt r.toNat (by omega)), .slice (some ⟨w4.heap.size, 0, none⟩) 2 2]) ?_ rfl ?_
      · have g0 := cell_of_heap (j := 0) hR5
        have g1 := cell_of_heap (j := 1) hR5
        have g2 := cell_of_heap (j := 2) hR5
        have g3 := cell_of_heap (j := 3) hR5
        unfold set4 opAt at g0 g1 g2 g3
        unfold opAt
        simp [results, Try.results15, go_sem, z4, g0, g1, g2, g3]
      · refine made_long (w3 := w3) (x := x) (y := y) (isOp_at _ _) (wf_at _ _) (by omega) (by have := hg2.size; simp at this; omega) hg3.size hx hy hg4 hfx hfy hM4 (by have := HP2.out; omega) hgA.out
theorem made_any (B m : Nat) (dom : Int) (hdom : 1 ≤ dom) (hdom2 : dom ≤ 9223372036854775807) : ∀ deep, MadeAt B m dom deep
  | 0 => made_step B m dom hdom hdom2 0 fun d h => absurd h (by omega)
  | deep + 1 => made_step B m dom hdom hdom2 (deep + 1) fun d h => by
    have : d = deep := by omega
    subst this
    exact made_any B m dom hdom hdom2 d
end Go.Proofs.Ytnnidmdokehajaa
