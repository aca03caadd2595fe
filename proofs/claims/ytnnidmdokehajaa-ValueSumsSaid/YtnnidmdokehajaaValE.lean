/- The value statements, walked. -/
import Derived.Test.YtnnidmdokehajaaValC
import Derived.Test.YtnnidmdokehajaaValD
namespace Go.Proofs.Ytnnidmdokehajaa
open Go.RowKit

theorem expr_any (dom : Int) (x : Ex) (cs : List Value) (w : World) (hin : ExIn w (In_ w) cs x) :
    Calls Try.prog 12 #[.agg cs.toArray, .int .i64 dom] w fun e w' => e = .returned (.bool (x.fit dom 20)) ∧ Below w.heap.size w w' := by
  obtain ⟨u0, u1, u2, u3, rfl⟩ := hin.four
  have hfb : Below w.heap.size w (w.alloc (.cells #[u0, u1, u2, u3] 24)) := (Below.refl _ _).alloc (Nat.le_refl _) _
  have hX := (Kp.of hfb).ex hin
  have hd : (20 : Int) = ((20 : Nat) : Int) := rfl
  have Hd := hid hd
  clear hd hin
  go_enter Try.func12, Try.ntmps12
  go_wp2_with fail
  refine (refexpr_any dom x 20 20 [u0, u1, u2, u3] _ Hd.out (by omega) hX).mono ?_
  rintro e w1 ⟨rfl, hb1⟩
  go_wp2_with fail
  go_ret
  exact ⟨rfl, hfb.trans (hb1.mono hfb.size)⟩

/-- What Made leaves. -/
def MadeIn (dom : Int) (deep : Nat) (w : World) (e : Ending) (w' : World) : Prop :=
  ∃ (u0 u1 u2 u3 : Value) (x : Ex), e = .returned (.agg #[u0, u1, u2, u3]) ∧ ExIn w' (In_ w') [u0, u1, u2, u3] x ∧ x.fit dom deep = true ∧ Below w.heap.size w w'

set_option maxHeartbeats 1000000 in
theorem Made_any (a : Option Addr) (n cap : Nat) (dom : Int) (hdom : 1 ≤ dom) (hdom2 : dom ≤ 9223372036854775807) (w : World) (hl : U8s w (In_ w) a n cap) :
    Calls Try.prog 11 #[.slice a n cap, .int .i64 dom] w (MadeIn dom 5 w) := by
  go_enter Try.func11, Try.ntmps11
  go_wp2_with fail
  generalize hW : World.alloc (World.alloc w _) _ = W0
  have hR : W0.heap[w.heap.size]? = some (.cells #[.int .i64 0, .int .i64 0, .int .u8 0, .slice none 0 0] 24 (0, 0)) := by
    subst hW; exact (Below.heap_alloc _ _ _ (by simp)).trans (heap_alloc_new w _)
  have hm : W0.heap[w.heap.size + 1]? = some (.cells #[.slice a n cap, .int .i64 ((0 : Nat) : Int)] 41 (0, 0)) := by
    subst hW; have := heap_alloc_new (w.alloc (.cells #[.int .i64 0, .int .i64 0, .int .u8 0, .slice none 0 0] 24)) (.cells #[.slice a n cap, .int .i64 0] 41); simp only [World.size_alloc] at this; exact this
  have hB : Below w.heap.size w W0 := by subst hW; exact ((Below.refl _ _).alloc (Nat.le_refl _) _).alloc (by simp) _
  have hz : W0.heap.size = w.heap.size + 2 := by subst hW; simp
  clear hW
  have hM : Mkr W0 w.heap.size (w.heap.size + 1) 0 := ⟨by omega, a, n, cap, hl.keep fun b o hb => hB.cell (p := ⟨b, o, none⟩) hb, hm⟩
  have hzl : w.heap.size + 1 < W0.heap.size := by omega
  have HZ := hid hz
  clear hz hm hl
  refine (made_any w.heap.size (w.heap.size + 1) dom hdom hdom2 4 4 0 W0 rfl hM (by decide)).mono ?_
  rintro e w1 ⟨u0, u1, u2, u3, x, t', rfl, hx, hfx, hM', ht', hg⟩
  obtain ⟨k1, n1, o1, l1⟩ := x
  obtain ⟨a1, cap1, e, _⟩ := hx.open_
  simp only [List.cons.injEq, and_true] at e
  obtain ⟨rfl, rfl, rfl, rfl⟩ := e
  generalize hu0 : Value.int .i64 k1 = u0 at *
  generalize hu1 : Value.int .i64 n1 = u1 at *
  generalize hu2 : Value.int .u8 o1 = u2 at *
  generalize hu3 : Value.slice a1 l1.length cap1 = u3 at *
  have hR1 := (hg.block w.heap.size (by omega) (by simp)).trans hR
  have hR2 := set4_at hR1 rfl u0 u1 u2 u3
  have hz1 := hg.size
  have fin : Hid (MadeIn dom 5 w (.returned (.agg #[u0, u1, u2, u3])) (set4 w1 w.heap.size u0 u1 u2 u3)) := by
    refine ⟨u0, u1, u2, u3, _, rfl, (hx.keep fun b o hb => set4_cell _ _ _ _ _ _ _ _ (by omega)).widen fun b hb => ?_, hfx, ?_⟩
    · show b < _
      rw [set4_size]; exact hb.2
    · have g := set4_grown (w := w) (r := some (w.heap.size + 1)) (grownBy_trans (w := w) ⟨hB.os, hB.tape, hB.output, hB.size, fun k hk _ => hB.block k hk⟩ hg) (Nat.le_refl w.heap.size) u0 u1 u2 u3
      exact ⟨g.os, g.tape, g.output, g.size, fun k hk => g.block k hk (by simp; omega)⟩
  have f0 : w1.cell? ⟨w.heap.size, 0, none⟩ = some (.int .i64 0) := cell_of_heap hR1
  have f1 : w1.cell? ⟨w.heap.size, 1, none⟩ = some (.int .i64 0) := cell_of_heap hR1
  have f2 : w1.cell? ⟨w.heap.size, 2, none⟩ = some (.int .u8 0) := cell_of_heap hR1
  have f3 : w1.cell? ⟨w.heap.size, 3, none⟩ = some (.slice none 0 0) := cell_of_heap hR1
  have y0 : ∀ j, w1.frozen? ⟨w.heap.size, j, none⟩ = false := fun j => unfrozen hR1
  have g0 := hid (cell_of_heap (j := 0) hR2)
  have g1 := hid (cell_of_heap (j := 1) hR2)
  have g2 := hid (cell_of_heap (j := 2) hR2)
  have g3 := hid (cell_of_heap (j := 3) hR2)
  clear hR hR1 hR2 hM hM' hx hfx hg hB HZ
  subst hu0 hu1 hu2 hu3
  go_wp2_with fail
  refine bodyPost_ret (v := .agg #[.int .i64 k1, .int .i64 n1, .int .u8 o1, .slice a1 l1.length cap1]) ?_ rfl fin.out
  have g0 := g0.out
  have g1 := g1.out
  have g2 := g2.out
  have g3 := g3.out
  unfold set4 at g0 g1 g2 g3
  simp [results, Try.results11, go_sem, g0, g1, g2, g3]

set_option maxHeartbeats 2000000 in
/-- ValueAny. -/
theorem valueAny_walk (x : Ex) (cs : List Value) (r0 r1 r2 r3 d : Int) (w : World) (hin : ExIn w (In_ w) cs x) :
    Calls Try.prog 3 #[.agg cs.toArray, .agg #[.int .i64 r0, .int .i64 r1, .int .i64 r2, .int .i64 r3], .int .i64 d] w fun e w' => e = .returned (.bool true) ∧ Below w.heap.size w w' := by
  obtain ⟨u0, u1, u2, u3, rfl⟩ := hin.four
  have hfb : Below w.heap.size w ((w.alloc (.cells #[u0, u1, u2, u3] 24)).alloc (.cells #[.int .i64 r0, .int .i64 r1, .int .i64 r2, .int .i64 r3] 25)) := ((Below.refl _ _).alloc (Nat.le_refl _) _).alloc (by simp) _
  have hX := (Kp.of hfb).ex hin
  clear hin
  go_enter Try.func3, Try.ntmps3
  go_wp2_with fail
  refine (size_any x _ 1000 _ hX).mono ?_
  rintro e w1 ⟨r, rfl, hb1⟩
  have a0 : w1.cell? ⟨w.heap.size, 0, none⟩ = some u0 := (hb1.cell (p := ⟨_, _, none⟩) (by simp; omega)).trans (by go_simp)
  have a1 : w1.cell? ⟨w.heap.size, 1, none⟩ = some u1 := (hb1.cell (p := ⟨_, _, none⟩) (by simp; omega)).trans (by go_simp)
  have a2 : w1.cell? ⟨w.heap.size, 2, none⟩ = some u2 := (hb1.cell (p := ⟨_, _, none⟩) (by simp; omega)).trans (by go_simp)
  have a3 : w1.cell? ⟨w.heap.size, 3, none⟩ = some u3 := (hb1.cell (p := ⟨_, _, none⟩) (by simp; omega)).trans (by go_simp)
  have b0 : w1.cell? ⟨w.heap.size + 1, 0, none⟩ = some (.int .i64 r0) := (hb1.cell (p := ⟨_, _, none⟩) (by simp)).trans (by go_simp)
  have b1 : w1.cell? ⟨w.heap.size + 1, 1, none⟩ = some (.int .i64 r1) := (hb1.cell (p := ⟨_, _, none⟩) (by simp)).trans (by go_simp)
  have b2 : w1.cell? ⟨w.heap.size + 1, 2, none⟩ = some (.int .i64 r2) := (hb1.cell (p := ⟨_, _, none⟩) (by simp)).trans (by go_simp)
  have b3 : w1.cell? ⟨w.heap.size + 1, 3, none⟩ = some (.int .i64 r3) := (hb1.cell (p := ⟨_, _, none⟩) (by simp)).trans (by go_simp)
  have z1 : w.heap.size + 1 < w1.heap.size := by have := hb1.size; simp at this; omega
  have z0 : w.heap.size < w1.heap.size := by omega
  have hK1 : Kp _ w1 := .of hb1
  have hE1 := hid (hfb.trans (hb1.mono hfb.size))
  by_cases hr : r < 0 ∨ 4611686018427387904 < d
  · rcases hr with hr | hr
    all_goals
      clear hK1 hb1 hX hfb
      go_wp2_with (go_at_call 8; (refine (awake_any _).mono ?_); rintro e w2 ⟨rfl, hb2⟩)
      all_goals
        go_ret
        exact ⟨rfl, hE1.out.trans (hb2.mono hE1.out.size)⟩
  · have hr1 : 0 ≤ r := by omega
    have hr2 : d ≤ 4611686018427387904 := by omega
    clear hr
    go_wp2_with fail
    have hX1 := hK1.ex hX
    clear hK1 hb1 hX hfb
    go_region_held3 (Kp w1)
      (first | assumption | exact Kp.start _ | exact Kp.next (by assumption) hb1)
      (first
        | (go_at_call 8; (refine (awake_any _).mono ?_); rintro e w1 ⟨rfl, hb1⟩)
        | (go_at_call 9; (with_reducible refine (val_eval r0 r1 r2 r3 d hr2 x [u0, u1, u2, u3] _ ?_).mono ?_); (focus exact Kp.ex (by assumption) hX1); rintro e w1 ⟨rfl, hb1⟩)
        | (go_at_call 10; (with_reducible refine (ref_eval r0 r1 r2 r3 d hr2 x [u0, u1, u2, u3] _ ?_).mono ?_); (focus exact Kp.ex (by assumption) hX1); rintro e w1 ⟨rfl, hb1⟩))
    rename_i hKp
    go_wp2
    go_ret
    exact ⟨by simp, hE1.out.trans (hKp.1.mono hE1.out.size)⟩
end Go.Proofs.Ytnnidmdokehajaa
