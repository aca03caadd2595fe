/- The value statements' awake answers true. -/
import Derived.Test.YtnnidmdokehajaaValB
namespace Go.Proofs.Ytnnidmdokehajaa
open Go.RowKit

/-- Of the registers 1, 2, 0, 0 an expression is v. -/
abbrev EvIs (d v : Int) (x : Ex) : Prop := ∀ (cs : List Value) (w : World), ExIn w (In_ w) cs x →
    Calls Try.prog 9 #[.agg cs.toArray, .agg #[.int .i64 1, .int .i64 2, .int .i64 0, .int .i64 0], .int .i64 d] w fun e w' => e = .returned (.int .i64 v) ∧ Below w.heap.size w w'
theorem evIs_of {d v : Int} {x : Ex} (hd : d ≤ 4611686018427387904) (h : x.ev 1 2 0 0 d = v) : EvIs d v x := fun cs w hin => by
  have := val_eval 1 2 0 0 d hd x cs w hin
  rwa [h] at this

/-- An expression of two parts, the first one the register 0. -/
def X2 (o : Int) (y : Ex) : Ex := .mk 3 0 o [.mk 2 0 0 [], y]
theorem ev_a : EvIs 2 0 (X2 43 (.mk 1 1 0 [])) := evIs_of (by omega) (by simp [X2, Ex.ev_two, Ex.ev_reg, Ex.ev_num, opv]; rw [IntWalk.wrap64_in _ ⟨by omega, by omega⟩]; decide)
theorem ev_b : EvIs 4 3 (X2 45 (.mk 2 1 0 [])) := evIs_of (by omega) (by simp [X2, Ex.ev_two, Ex.ev_reg, opv]; rw [IntWalk.wrap64_in _ ⟨by omega, by omega⟩]; decide)
theorem ev_c : EvIs 4 0 (X2 60 (.mk 1 1 0 [])) := evIs_of (by omega) (by simp [X2, Ex.ev_two, Ex.ev_reg, Ex.ev_num, opv])
theorem ev_d : EvIs 4 1 (X2 61 (.mk 1 1 0 [])) := evIs_of (by omega) (by simp [X2, Ex.ev_two, Ex.ev_reg, Ex.ev_num, opv])
theorem ev_e : EvIs 4 0 (.mk 0 0 0 []) := evIs_of (by omega) (Ex.ev_other _ _ _ _ _ _ _ _ _ (by omega) (by omega) (.inl (by omega)))
theorem x2_in {w : World} {o k n : Int} {b : Nat} (wk : (Lit.int .i64 k).wf = true) (wn : (Lit.int .i64 n).wf = true) (wo : (Lit.int .u8 o).wf = true) (hb : b < w.heap.size)
    (hc : ∀ j, w.cell? ⟨b, j, none⟩ = (#[.int .i64 2, .int .i64 0, .int .u8 0, .slice none 0 0, .int .i64 k, .int .i64 n, .int .u8 0, .slice none 0 0] : Array Value)[j]?) :
    ExIn w (In_ w) [.int .i64 3, .int .i64 0, .int .u8 o, .slice (some ⟨b, 0, none⟩) 2 2] (X2 o (.mk k n 0 [])) :=
  .mk2 (by decide) (by decide) wo hb hc (.leaf _ _ _ _ _ (by decide) (by decide) (by decide)) (.leaf _ _ _ _ _ wk wn (by decide))

set_option maxHeartbeats 4000000 in
theorem awake_any (w : World) : Calls Try.prog 8 #[] w fun e w' => e = .returned (.bool true) ∧ Below w.heap.size w w' := by
  go_enter Try.func8, Try.ntmps8
  go_wp2_with fail
  generalize hW : World.alloc (World.alloc (World.alloc w _) _) _ = W0
  have hB : Below w.heap.size w W0 := by subst hW; exact (((Below.refl _ _).alloc (Nat.le_refl _) _).alloc (by simp) _).alloc (by simp; omega) _
  have z0 : w.heap.size < W0.heap.size := by subst hW; simp; omega
  have z1 : w.heap.size + 1 < W0.heap.size := by subst hW; simp
  have z2 : w.heap.size + 1 + 1 < W0.heap.size := by subst hW; simp
  have a0 : W0.cell? ⟨w.heap.size, 0, none⟩ = some (.int .i64 2) := by subst hW; go_simp
  have a1 : W0.cell? ⟨w.heap.size, 1, none⟩ = some (.int .i64 0) := by subst hW; go_simp
  have a2 : W0.cell? ⟨w.heap.size, 2, none⟩ = some (.int .u8 0) := by subst hW; go_simp
  have a3 : W0.cell? ⟨w.heap.size, 3, none⟩ = some (.slice none 0 0) := by subst hW; go_simp
  have b0 : W0.cell? ⟨w.heap.size + 1, 0, none⟩ = some (.int .i64 1) := by subst hW; go_simp
  have b1 : W0.cell? ⟨w.heap.size + 1, 1, none⟩ = some (.int .i64 1) := by subst hW; go_simp
  have b2 : W0.cell? ⟨w.heap.size + 1, 2, none⟩ = some (.int .u8 0) := by subst hW; go_simp
  have b3 : W0.cell? ⟨w.heap.size + 1, 3, none⟩ = some (.slice none 0 0) := by subst hW; go_simp
  have c0 : W0.cell? ⟨w.heap.size + 1 + 1, 0, none⟩ = some (.int .i64 1) := by subst hW; go_simp
  have c1 : W0.cell? ⟨w.heap.size + 1 + 1, 1, none⟩ = some (.int .i64 2) := by subst hW; go_simp
  have c2 : W0.cell? ⟨w.heap.size + 1 + 1, 2, none⟩ = some (.int .i64 0) := by subst hW; go_simp
  have c3 : W0.cell? ⟨w.heap.size + 1 + 1, 3, none⟩ = some (.int .i64 0) := by subst hW; go_simp
  clear hW
  have HB := hid hB
  clear hB
  go_region_held3 (Kp W0)
    (first | assumption | exact Kp.start _ | exact Kp.next (by assumption) hb1)
    (first
      | (go_at_call 13; (refine (two_any _ _ _ _ _ _ _ _ _ _).mono ?_); rintro e w1 ⟨rfl, hb1, hz1, hc1⟩)
      | (go_at_call 9; (with_reducible refine (ev_a _ _ ?_).mono ?_); (focus exact x2_in (by decide) (by decide) (by decide) hz1 hc1); rintro e w1 ⟨rfl, hb1⟩)
      | (go_at_call 9; (with_reducible refine (ev_b _ _ ?_).mono ?_); (focus exact x2_in (by decide) (by decide) (by decide) hz1 hc1); rintro e w1 ⟨rfl, hb1⟩)
      | (go_at_call 9; (with_reducible refine (ev_c _ _ ?_).mono ?_); (focus exact x2_in (by decide) (by decide) (by decide) hz1 hc1); rintro e w1 ⟨rfl, hb1⟩)
      | (go_at_call 9; (with_reducible refine (ev_d _ _ ?_).mono ?_); (focus exact x2_in (by decide) (by decide) (by decide) hz1 hc1); rintro e w1 ⟨rfl, hb1⟩)
      | (go_at_call 9; (with_reducible refine (ev_e _ _ ?_).mono ?_); (focus exact .leaf _ _ _ _ _ (by decide) (by decide) (by decide)); rintro e w1 ⟨rfl, hb1⟩))
  rename_i hKp
  have hend := HB.out.trans (hKp.1.mono HB.out.size)
  have Hend := hid hend
  clear hend hKp hb1 hz1 hc1 a0 a1 a2 a3 b0 b1 b2 b3 c0 c1 c2 c3
  go_wp2
  go_ret
  exact ⟨rfl, Hend.out⟩
end Go.Proofs.Ytnnidmdokehajaa
