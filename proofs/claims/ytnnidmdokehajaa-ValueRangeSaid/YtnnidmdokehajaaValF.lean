/- The value statements over expressions by numbers, walked. -/
import Derived.Test.YtnnidmdokehajaaValE
namespace Go.Proofs.Ytnnidmdokehajaa
open Go.RowKit

theorem ExIn.shape {w : World} {S : Nat → Prop} {cs : List Value} {x : Ex} (h : ExIn w S cs x) : ∃ (k n o : Int) (a : Option Addr) (l cap : Nat), cs = [.int .i64 k, .int .i64 n, .int .u8 o, .slice a l cap] := by
  obtain ⟨k, n, o, l⟩ := x
  obtain ⟨a, cap, rfl, _⟩ := h.open_
  exact ⟨_, _, _, _, _, _, rfl⟩

/-- The registers' block, numbers below the domain; below it nothing has turned. -/
def RegsAt (W0 : World) (R : Nat) (D : Int) (wr : World) : Prop :=
  Below R W0 wr ∧ R < W0.heap.size ∧ ∃ a b c d : Int, (0 ≤ a ∧ a < D) ∧ (0 ≤ b ∧ b < D) ∧ (0 ≤ c ∧ c < D) ∧ (0 ≤ d ∧ d < D) ∧ wr.heap[R]? = some (.cells #[.int .i64 a, .int .i64 b, .int .i64 c, .int .i64 d] 25 (0, 0))

theorem RegsAt.set {W0 wr : World} {R : Nat} {D : Int} (h : RegsAt W0 R D wr) (k : Nat) (v : Int) (hk : k < 4) (hv : 0 ≤ v ∧ v < D) : RegsAt W0 R D (wr.setCell ⟨R, k, none⟩ (.int .i64 v)) := by
  obtain ⟨hb, hz, a, b, c, d, ha, hb', hc, hd, hh⟩ := h
  refine ⟨hb.setCell (Nat.le_refl _) _, hz, ?_⟩
  match k, hk with
  | 0, _ => exact ⟨v, b, c, d, hv, hb', hc, hd, by simp [World.setCell, Array.getElem?_modify, hh]⟩
  | 1, _ => exact ⟨a, v, c, d, ha, hv, hc, hd, by simp [World.setCell, Array.getElem?_modify, hh]⟩
  | 2, _ => exact ⟨a, b, v, d, ha, hb', hv, hd, by simp [World.setCell, Array.getElem?_modify, hh]⟩
  | 3, _ => exact ⟨a, b, c, v, ha, hb', hc, hv, by simp [World.setCell, Array.getElem?_modify, hh]⟩

/-- Of an expression that may be, and registers in the domain, the value is in the domain. -/
theorem ev_range {r0 r1 r2 r3 D : Int} (hD : 1 ≤ D) (h0 : 0 ≤ r0 ∧ r0 < D) (h1 : 0 ≤ r1 ∧ r1 < D) (h2 : 0 ≤ r2 ∧ r2 < D) (h3 : 0 ≤ r3 ∧ r3 < D) (deep : Nat) (x : Ex) (hx : x.fit D deep = true) : 0 ≤ x.ev r0 r1 r2 r3 D ∧ x.ev r0 r1 r2 r3 D < D := by
  cases deep with
  | zero => simp [Ex.fit] at hx
  | succ deep =>
    obtain ⟨k, n, o, l⟩ := x
    rw [Ex.ev_eq]
    by_cases k1 : k = 1
    · subst k1
      simp [Ex.fit] at hx
      simp; omega
    by_cases k2 : k = 2
    · subst k2
      simp [Ex.fit] at hx
      simp only [if_neg k1, if_true, if_pos hx.1.1]
      split
      · exact h0
      · split
        · exact h1
        · split
          · exact h2
          · exact h3
    by_cases k3 : k = 3
    · subst k3
      rcases l with _ | ⟨x, _ | ⟨y, _ | ⟨z, l⟩⟩⟩
      · simp; omega
      · simp; omega
      · simp only [if_neg k1, if_neg k2, if_true, if_neg (show ¬ D < 1 by omega)]
        exact ⟨Int.emod_nonneg _ (by omega), Int.emod_lt_of_pos _ (by omega)⟩
      · simp; omega
    · simp [k1, k2, k3]; omega

theorem fit_mono {D : Int} : ∀ (deep deep' : Nat) (x : Ex), deep ≤ deep' → x.fit D deep = true → x.fit D deep' = true
  | 0, _, _, _, h => by simp [Ex.fit] at h
  | deep + 1, 0, _, hl, _ => absurd hl (by omega)
  | deep + 1, deep' + 1, .mk k n o l, hl, h => by
    unfold Ex.fit at h ⊢
    split
    · rename_i k1; rw [if_pos k1] at h; exact h
    · rename_i k1
      rw [if_neg k1] at h
      split
      · rename_i k2; rw [if_pos k2] at h; exact h
      · rename_i k2
        rw [if_neg k2] at h
        split
        · rename_i k3
          rw [if_pos k3] at h
          rcases l with _ | ⟨x, _ | ⟨y, _ | ⟨z, l⟩⟩⟩
          · exact h
          · exact h
          · simp only [Bool.and_eq_true] at h ⊢
            exact ⟨h.1, fit_mono deep deep' x (by omega) h.2.1, fit_mono deep deep' y (by omega) h.2.2⟩
          · exact h
        · rename_i k3; rw [if_neg k3] at h; exact h

theorem rem_i64 (u D : Int) (hu : 0 ≤ u ∧ u ≤ 255) (hD : 1 ≤ D) : 0 ≤ u % D ∧ u % D < D := ⟨Int.emod_nonneg _ (by omega), Int.emod_lt_of_pos _ (by omega)⟩

set_option maxHeartbeats 4000000 in
theorem valueMade_walk (a : Option Addr) (n cap : Nat) (r0 r1 r2 r3 dm : Int) (w : World) (hl : U8s w (In_ w) a n cap) (q0 : 0 ≤ r0 ∧ r0 ≤ 255) (q1 : 0 ≤ r1 ∧ r1 ≤ 255) (q2 : 0 ≤ r2 ∧ r2 ≤ 255) (q3 : 0 ≤ r3 ∧ r3 ≤ 255) (qd : 0 ≤ dm ∧ dm ≤ 255) :
    Calls Try.prog 4 #[.slice a n cap, .agg #[.int .u8 r0, .int .u8 r1, .int .u8 r2, .int .u8 r3], .int .u8 dm] w fun e w' => e = .returned (.bool true) ∧ Below w.heap.size w w' := by
  obtain ⟨q0a, q0b⟩ := q0
  obtain ⟨q1a, q1b⟩ := q1
  obtain ⟨q2a, q2b⟩ := q2
  obtain ⟨q3a, q3b⟩ := q3
  obtain ⟨qda, qdb⟩ := qd
  have hB : Below w.heap.size w (w.alloc (.cells #[.int .u8 r0, .int .u8 r1, .int .u8 r2, .int .u8 r3] 31)) := (Below.refl _ _).alloc (Nat.le_refl _) _
  have hl0 : U8s (w.alloc (.cells #[.int .u8 r0, .int .u8 r1, .int .u8 r2, .int .u8 r3] 31)) (In_ (w.alloc (.cells #[.int .u8 r0, .int .u8 r1, .int .u8 r2, .int .u8 r3] 31))) a n cap := (hl.keep fun b o hb => hB.cell (p := ⟨b, o, none⟩) hb).widen (In_.mono hB.size)
  clear hl
  go_enter Try.func4, Try.ntmps4
  go_wp2_with fail
  generalize hW : World.alloc w _ = W0 at *
  have b0 : W0.cell? ⟨w.heap.size, 0, none⟩ = some (.int .u8 r0) := by subst hW; go_simp
  have b1 : W0.cell? ⟨w.heap.size, 1, none⟩ = some (.int .u8 r1) := by subst hW; go_simp
  have b2 : W0.cell? ⟨w.heap.size, 2, none⟩ = some (.int .u8 r2) := by subst hW; go_simp
  have b3 : W0.cell? ⟨w.heap.size, 3, none⟩ = some (.int .u8 r3) := by subst hW; go_simp
  have z0 : w.heap.size < W0.heap.size := by subst hW; simp
  have HB := hid hB
  clear hW hB
  have hD1 : 2 ≤ 2 + dm % 15 := by omega
  have hD2 : 2 + dm % 15 ≤ 16 := by omega
  generalize 2 + dm % 15 = D at *
  refine (Made_any a n cap D (by omega) (by omega) _ hl0).mono ?_
  rintro e w1 ⟨u0, u1, u2, u3, x, rfl, hx, hfx, hb1⟩
  obtain ⟨k9, n9, o9, a9, l9, cap9, e⟩ := hx.shape
  simp only [List.cons.injEq, and_true] at e
  obtain ⟨rfl, rfl, rfl, rfl⟩ := e
  have hB1 : Below w.heap.size w w1 := HB.out.trans (hb1.mono HB.out.size)
  rw [← hb1.cell (p := ⟨w.heap.size, _, none⟩) z0] at b0 b1 b2 b3
  have z1 : w.heap.size < w1.heap.size := by have := hb1.size; omega
  have hx1 : ExIn ((w1.alloc (.cells #[.int .i64 k9, .int .i64 n9, .int .u8 o9, .slice a9 l9 cap9] 24)).alloc (.cells #[.int .i64 0, .int .i64 0, .int .i64 0, .int .i64 0] 25)) (fun b => b < w1.heap.size) [.int .i64 k9, .int .i64 n9, .int .u8 o9, .slice a9 l9 cap9] x :=
    hx.keep fun b o hb => by
      rw [World.cell?_alloc_lt _ _ _ (by have := hb.lt; simp; omega), World.cell?_alloc_lt _ _ _ hb.lt]
  clear hl0 hb1 HB hx
  have HB1 := hid hB1
  clear hB1
  go_wp2_with fail
  generalize hW : World.alloc (World.alloc w1 _) _ = W2 at *
  have c0 : W2.cell? ⟨w.heap.size, 0, none⟩ = some (.int .u8 r0) := by subst hW; go_simp
  have c1 : W2.cell? ⟨w.heap.size, 1, none⟩ = some (.int .u8 r1) := by subst hW; go_simp
  have c2 : W2.cell? ⟨w.heap.size, 2, none⟩ = some (.int .u8 r2) := by subst hW; go_simp
  have c3 : W2.cell? ⟨w.heap.size, 3, none⟩ = some (.int .u8 r3) := by subst hW; go_simp
  have x0 : W2.cell? ⟨w1.heap.size, 0, none⟩ = some (.int .i64 k9) := by subst hW; go_simp
  have x1 : W2.cell? ⟨w1.heap.size, 1, none⟩ = some (.int .i64 n9) := by subst hW; go_simp
  have x2 : W2.cell? ⟨w1.heap.size, 2, none⟩ = some (.int .u8 o9) := by subst hW; go_simp
  have x3 : W2.cell? ⟨w1.heap.size, 3, none⟩ = some (.slice a9 l9 cap9) := by subst hW; go_simp
  have hB2 : Below w.heap.size w W2 := by subst hW; exact (HB1.out.alloc (by omega) _).alloc (by simp; omega) _
  have hR : RegsAt W2 (w1.heap.size + 1) D W2 := by
    refine ⟨Below.refl _ _, by subst hW; simp, 0, 0, 0, 0, by omega, by omega, by omega, by omega, ?_⟩
    subst hW
    have := heap_alloc_new (w1.alloc (.cells #[.int .i64 k9, .int .i64 n9, .int .u8 o9, .slice a9 l9 cap9] 24)) (.cells #[.int .i64 0, .int .i64 0, .int .i64 0, .int .i64 0] 25)
    simp only [World.size_alloc] at this
    exact this
  clear hW b0 b1 b2 b3
  have HB2 := hid hB2
  clear hB2 HB1
  go_loopw [10] (fun i wr => ∃ k : Nat, k ≤ 4 ∧ i = .int .i64 k ∧ RegsAt W2 (w1.heap.size + 1) D wr) (fun i _ => 4 - (intOf i).toNat)
  case atStart => exact ⟨0, by omega, rfl, hR⟩
  case round =>
    obtain ⟨k, hk, rfl, hR'⟩ := hrel
    clear hR
    have HR := hid hR'
    obtain ⟨hb, hz, ra, rb, rc, rd, ha, hb', hc, hd, hh⟩ := hR'
    have d0 : wr.cell? ⟨w1.heap.size + 1, 0, none⟩ = some (.int .i64 ra) := cell_of_heap hh
    have d1 : wr.cell? ⟨w1.heap.size + 1, 1, none⟩ = some (.int .i64 rb) := cell_of_heap hh
    have d2 : wr.cell? ⟨w1.heap.size + 1, 2, none⟩ = some (.int .i64 rc) := cell_of_heap hh
    have d3 : wr.cell? ⟨w1.heap.size + 1, 3, none⟩ = some (.int .i64 rd) := cell_of_heap hh
    have df : ∀ j, wr.frozen? ⟨w1.heap.size + 1, j, none⟩ = false := fun j => unfrozen hh
    rw [← hb.cell (p := ⟨w.heap.size, _, none⟩) (by show w.heap.size < _; omega)] at c0 c1 c2 c3
    rw [← hb.cell (p := ⟨w1.heap.size, _, none⟩) (by show w1.heap.size < _; omega)] at x0 x1 x2 x3
    have Hb := hid hb
    have hzr : w1.heap.size + 1 < wr.heap.size := by have := hb.size; omega
    clear hb hz hh
    have hk4 : k = 0 ∨ k = 1 ∨ k = 2 ∨ k = 3 ∨ k = 4 := by omega
    rcases hk4 with rfl | rfl | rfl | rfl | rfl
    · have HV := hid (rem_i64 r0 D ⟨q0a, q0b⟩ (by omega))
      go_wp2_with fail
      first
        | exact ⟨⟨1, by omega, rfl, HR.out.set 0 _ (by omega) HV.out⟩, by simp [intOf]⟩
        | (go_roundw
           case rel => exact ⟨1, by omega, rfl, HR.out.set 0 _ (by omega) HV.out⟩
           case measure => simp [intOf])
    · have HV := hid (rem_i64 r1 D ⟨q1a, q1b⟩ (by omega))
      go_wp2_with fail
      first
        | exact ⟨⟨2, by omega, rfl, HR.out.set 1 _ (by omega) HV.out⟩, by simp [intOf]⟩
        | (go_roundw
           case rel => exact ⟨2, by omega, rfl, HR.out.set 1 _ (by omega) HV.out⟩
           case measure => simp [intOf])
    · have HV := hid (rem_i64 r2 D ⟨q2a, q2b⟩ (by omega))
      go_wp2_with fail
      first
        | exact ⟨⟨3, by omega, rfl, HR.out.set 2 _ (by omega) HV.out⟩, by simp [intOf]⟩
        | (go_roundw
           case rel => exact ⟨3, by omega, rfl, HR.out.set 2 _ (by omega) HV.out⟩
           case measure => simp [intOf])
    · have HV := hid (rem_i64 r3 D ⟨q3a, q3b⟩ (by omega))
      go_wp2_with fail
      first
        | exact ⟨⟨4, by omega, rfl, HR.out.set 3 _ (by omega) HV.out⟩, by simp [intOf]⟩
        | (go_roundw
           case rel => exact ⟨4, by omega, rfl, HR.out.set 3 _ (by omega) HV.out⟩
           case measure => simp [intOf])
    · have hx3 : ExIn wr (In_ wr) [.int .i64 k9, .int .i64 n9, .int .u8 o9, .slice a9 l9 cap9] x := (hx1.keep fun b o hb => Hb.out.cell (p := ⟨b, o, none⟩) (by show b < _; omega)).widen fun b hb => by show b < _; omega
      have hBr : Hid (Below w.heap.size w wr) := HB2.out.trans (Hb.out.mono (by omega))
      have zx : w1.heap.size < wr.heap.size := by omega
      clear c0 c1 c2 c3 df hx1 HB2 Hb
      go_wp2_with fail
      go_region_held3 (Kp wr)
        (first | assumption | exact Kp.start _ | exact Kp.next (by assumption) hb1)
        (first
          | (go_at_call 8; (refine (awake_any _).mono ?_); rintro e w1 ⟨rfl, hb1⟩)
          | (go_at_call 9; (with_reducible refine (val_eval ra rb rc rd D (by omega) x [.int .i64 k9, .int .i64 n9, .int .u8 o9, .slice a9 l9 cap9] _ ?_).mono ?_); (focus exact Kp.ex (by assumption) hx3); rintro e w1 ⟨rfl, hb1⟩)
          | (go_at_call 10; (with_reducible refine (ref_eval ra rb rc rd D (by omega) x [.int .i64 k9, .int .i64 n9, .int .u8 o9, .slice a9 l9 cap9] _ ?_).mono ?_); (focus exact Kp.ex (by assumption) hx3); rintro e w1 ⟨rfl, hb1⟩))
      rename_i hKp
      go_wp2
      go_ret
      exact ⟨by simp, hBr.out.trans (hKp.1.mono hBr.out.size)⟩

set_option maxHeartbeats 4000000 in
theorem valueRange_walk (a : Option Addr) (n cap : Nat) (r0 r1 r2 r3 dm : Int) (w : World) (hl : U8s w (In_ w) a n cap) (q0 : 0 ≤ r0 ∧ r0 ≤ 255) (q1 : 0 ≤ r1 ∧ r1 ≤ 255) (q2 : 0 ≤ r2 ∧ r2 ≤ 255) (q3 : 0 ≤ r3 ∧ r3 ≤ 255) (qd : 0 ≤ dm ∧ dm ≤ 255) :
    Calls Try.prog 5 #[.slice a n cap, .agg #[.int .u8 r0, .int .u8 r1, .int .u8 r2, .int .u8 r3], .int .u8 dm] w fun e w' => e = .returned (.bool true) ∧ Below w.heap.size w w' := by
  obtain ⟨q0a, q0b⟩ := q0
  obtain ⟨q1a, q1b⟩ := q1
  obtain ⟨q2a, q2b⟩ := q2
  obtain ⟨q3a, q3b⟩ := q3
  obtain ⟨qda, qdb⟩ := qd
  have hB : Below w.heap.size w (w.alloc (.cells #[.int .u8 r0, .int .u8 r1, .int .u8 r2, .int .u8 r3] 31)) := (Below.refl _ _).alloc (Nat.le_refl _) _
  have hl0 : U8s (w.alloc (.cells #[.int .u8 r0, .int .u8 r1, .int .u8 r2, .int .u8 r3] 31)) (In_ (w.alloc (.cells #[.int .u8 r0, .int .u8 r1, .int .u8 r2, .int .u8 r3] 31))) a n cap := (hl.keep fun b o hb => hB.cell (p := ⟨b, o, none⟩) hb).widen (In_.mono hB.size)
  clear hl
  go_enter Try.func5, Try.ntmps5
  go_wp2_with fail
  generalize hW : World.alloc w _ = W0 at *
  have b0 : W0.cell? ⟨w.heap.size, 0, none⟩ = some (.int .u8 r0) := by subst hW; go_simp
  have b1 : W0.cell? ⟨w.heap.size, 1, none⟩ = some (.int .u8 r1) := by subst hW; go_simp
  have b2 : W0.cell? ⟨w.heap.size, 2, none⟩ = some (.int .u8 r2) := by subst hW; go_simp
  have b3 : W0.cell? ⟨w.heap.size, 3, none⟩ = some (.int .u8 r3) := by subst hW; go_simp
  have z0 : w.heap.size < W0.heap.size := by subst hW; simp
  have HB := hid hB
  clear hW hB
  refine (awake_any _).mono ?_
  rintro e w9 ⟨rfl, hb9⟩
  rw [← hb9.cell (p := ⟨w.heap.size, _, none⟩) z0] at b0 b1 b2 b3
  have z9 : w.heap.size < w9.heap.size := by have := hb9.size; omega
  have HB9 : Hid (Below w.heap.size w w9) := HB.out.trans (hb9.mono HB.out.size)
  have hl9 : U8s w9 (In_ w9) a n cap := (hl0.keep fun b o hb => hb9.cell (p := ⟨b, o, none⟩) hb).widen (In_.mono hb9.size)
  clear hl0 HB hb9 z0
  have z0 := z9
  have HB := HB9
  have hl0 := hl9
  clear z9 HB9 hl9
  go_wp2_with fail
  have hD1 : 2 ≤ 2 + dm % 15 := by omega
  have hD2 : 2 + dm % 15 ≤ 16 := by omega
  generalize 2 + dm % 15 = D at *
  refine (Made_any a n cap D (by omega) (by omega) _ hl0).mono ?_
  rintro e w1 ⟨u0, u1, u2, u3, x, rfl, hx, hfx, hb1⟩
  obtain ⟨k9, n9, o9, a9, l9, cap9, e⟩ := hx.shape
  simp only [List.cons.injEq, and_true] at e
  obtain ⟨rfl, rfl, rfl, rfl⟩ := e
  have hB1 : Below w.heap.size w w1 := HB.out.trans (hb1.mono HB.out.size)
  rw [← hb1.cell (p := ⟨w.heap.size, _, none⟩) z0] at b0 b1 b2 b3
  have z1 : w.heap.size < w1.heap.size := by have := hb1.size; omega
  have hx1 : ExIn ((w1.alloc (.cells #[.int .i64 k9, .int .i64 n9, .int .u8 o9, .slice a9 l9 cap9] 24)).alloc (.cells #[.int .i64 0, .int .i64 0, .int .i64 0, .int .i64 0] 25)) (fun b => b < w1.heap.size) [.int .i64 k9, .int .i64 n9, .int .u8 o9, .slice a9 l9 cap9] x :=
    hx.keep fun b o hb => by
      rw [World.cell?_alloc_lt _ _ _ (by have := hb.lt; simp; omega), World.cell?_alloc_lt _ _ _ hb.lt]
  clear hl0 hb1 HB hx
  have HB1 := hid hB1
  clear hB1
  go_wp2_with fail
  generalize hW : World.alloc (World.alloc w1 _) _ = W2 at *
  have c0 : W2.cell? ⟨w.heap.size, 0, none⟩ = some (.int .u8 r0) := by subst hW; go_simp
  have c1 : W2.cell? ⟨w.heap.size, 1, none⟩ = some (.int .u8 r1) := by subst hW; go_simp
  have c2 : W2.cell? ⟨w.heap.size, 2, none⟩ = some (.int .u8 r2) := by subst hW; go_simp
  have c3 : W2.cell? ⟨w.heap.size, 3, none⟩ = some (.int .u8 r3) := by subst hW; go_simp
  have x0 : W2.cell? ⟨w1.heap.size, 0, none⟩ = some (.int .i64 k9) := by subst hW; go_simp
  have x1 : W2.cell? ⟨w1.heap.size, 1, none⟩ = some (.int .i64 n9) := by subst hW; go_simp
  have x2 : W2.cell? ⟨w1.heap.size, 2, none⟩ = some (.int .u8 o9) := by subst hW; go_simp
  have x3 : W2.cell? ⟨w1.heap.size, 3, none⟩ = some (.slice a9 l9 cap9) := by subst hW; go_simp
  have hB2 : Below w.heap.size w W2 := by subst hW; exact (HB1.out.alloc (by omega) _).alloc (by simp; omega) _
  have hR : RegsAt W2 (w1.heap.size + 1) D W2 := by
    refine ⟨Below.refl _ _, by subst hW; simp, 0, 0, 0, 0, by omega, by omega, by omega, by omega, ?_⟩
    subst hW
    have := heap_alloc_new (w1.alloc (.cells #[.int .i64 k9, .int .i64 n9, .int .u8 o9, .slice a9 l9 cap9] 24)) (.cells #[.int .i64 0, .int .i64 0, .int .i64 0, .int .i64 0] 25)
    simp only [World.size_alloc] at this
    exact this
  clear hW b0 b1 b2 b3
  have HB2 := hid hB2
  clear hB2 HB1
  go_loopw [11] (fun i wr => ∃ k : Nat, k ≤ 4 ∧ i = .int .i64 k ∧ RegsAt W2 (w1.heap.size + 1) D wr) (fun i _ => 4 - (intOf i).toNat)
  case atStart => exact ⟨0, by omega, rfl, hR⟩
  case round =>
    obtain ⟨k, hk, rfl, hR'⟩ := hrel
    clear hR
    have HR := hid hR'
    obtain ⟨hb, hz, ra, rb, rc, rd, ha, hb', hc, hd, hh⟩ := hR'
    have d0 : wr.cell? ⟨w1.heap.size + 1, 0, none⟩ = some (.int .i64 ra) := cell_of_heap hh
    have d1 : wr.cell? ⟨w1.heap.size + 1, 1, none⟩ = some (.int .i64 rb) := cell_of_heap hh
    have d2 : wr.cell? ⟨w1.heap.size + 1, 2, none⟩ = some (.int .i64 rc) := cell_of_heap hh
    have d3 : wr.cell? ⟨w1.heap.size + 1, 3, none⟩ = some (.int .i64 rd) := cell_of_heap hh
    have df : ∀ j, wr.frozen? ⟨w1.heap.size + 1, j, none⟩ = false := fun j => unfrozen hh
    rw [← hb.cell (p := ⟨w.heap.size, _, none⟩) (by show w.heap.size < _; omega)] at c0 c1 c2 c3
    rw [← hb.cell (p := ⟨w1.heap.size, _, none⟩) (by show w1.heap.size < _; omega)] at x0 x1 x2 x3
    have Hb := hid hb
    have hzr : w1.heap.size + 1 < wr.heap.size := by have := hb.size; omega
    clear hb hz hh
    have hk4 : k = 0 ∨ k = 1 ∨ k = 2 ∨ k = 3 ∨ k = 4 := by omega
    rcases hk4 with rfl | rfl | rfl | rfl | rfl
    · have HV := hid (rem_i64 r0 D ⟨q0a, q0b⟩ (by omega))
      go_wp2_with fail
      first
        | exact ⟨⟨1, by omega, rfl, HR.out.set 0 _ (by omega) HV.out⟩, by simp [intOf]⟩
        | (go_roundw
           case rel => exact ⟨1, by omega, rfl, HR.out.set 0 _ (by omega) HV.out⟩
           case measure => simp [intOf])
    · have HV := hid (rem_i64 r1 D ⟨q1a, q1b⟩ (by omega))
      go_wp2_with fail
      first
        | exact ⟨⟨2, by omega, rfl, HR.out.set 1 _ (by omega) HV.out⟩, by simp [intOf]⟩
        | (go_roundw
           case rel => exact ⟨2, by omega, rfl, HR.out.set 1 _ (by omega) HV.out⟩
           case measure => simp [intOf])
    · have HV := hid (rem_i64 r2 D ⟨q2a, q2b⟩ (by omega))
      go_wp2_with fail
      first
        | exact ⟨⟨3, by omega, rfl, HR.out.set 2 _ (by omega) HV.out⟩, by simp [intOf]⟩
        | (go_roundw
           case rel => exact ⟨3, by omega, rfl, HR.out.set 2 _ (by omega) HV.out⟩
           case measure => simp [intOf])
    · have HV := hid (rem_i64 r3 D ⟨q3a, q3b⟩ (by omega))
      go_wp2_with fail
      first
        | exact ⟨⟨4, by omega, rfl, HR.out.set 3 _ (by omega) HV.out⟩, by simp [intOf]⟩
        | (go_roundw
           case rel => exact ⟨4, by omega, rfl, HR.out.set 3 _ (by omega) HV.out⟩
           case measure => simp [intOf])
    · have hx3 : ExIn wr (In_ wr) [.int .i64 k9, .int .i64 n9, .int .u8 o9, .slice a9 l9 cap9] x := (hx1.keep fun b o hb => Hb.out.cell (p := ⟨b, o, none⟩) (by show b < _; omega)).widen fun b hb => by show b < _; omega
      have hBr : Hid (Below w.heap.size w wr) := HB2.out.trans (Hb.out.mono (by omega))
      have zx : w1.heap.size < wr.heap.size := by omega
      clear c0 c1 c2 c3 df hx1 HB2 Hb
      have hrng := ev_range (r0 := ra) (r1 := rb) (r2 := rc) (r3 := rd) (by omega) ha hb' hc hd 5 x hfx
      have hf20 := fit_mono 5 20 x (by omega) hfx
      have HF := hid hf20
      obtain ⟨v0, v1⟩ := hrng
      have hval := val_eval ra rb rc rd D (by omega) x [.int .i64 k9, .int .i64 n9, .int .u8 o9, .slice a9 l9 cap9] _ hx3
      generalize x.ev ra rb rc rd D = V at *
      have Hval := hid hval
      clear hval hf20
      go_wp2_with fail
      refine (Hval.out).mono ?_
      rintro e w8 ⟨rfl, hb8⟩
      have hK8 : Kp wr w8 := .of hb8
      have hx8 := hK8.ex hx3
      rw [← hb8.cell (p := ⟨w1.heap.size, _, none⟩) zx] at x0 x1 x2 x3
      have zx8 : w1.heap.size < w8.heap.size := by have := hb8.size; omega
      have hB8 : Hid (Below w.heap.size w w8) := hBr.out.trans (hb8.mono hBr.out.size)
      clear Hval hx3 hK8 hb8 hBr zx d0 d1 d2 d3
      have hE := expr_any D x [.int .i64 k9, .int .i64 n9, .int .u8 o9, .slice a9 l9 cap9] _ hx8
      rw [HF.out] at hE
      have HE := hid hE
      clear hE
      go_wp2_with fail
      refine (HE.out).mono ?_
      rintro e w7 ⟨rfl, hb7⟩
      go_wp2_with fail
      go_ret
      exact ⟨rfl, hB8.out.trans (hb7.mono hB8.out.size)⟩
end Go.Proofs.Ytnnidmdokehajaa
