/- ValueSums, walked. -/
import Derived.Test.YtnnidmdokehajaaValE
namespace Go.Proofs.Ytnnidmdokehajaa
open Go.RowKit

/-- Of four registers that are 0 an expression is v. -/
abbrev EvZ (d v : Int) (x : Ex) : Prop := ∀ (cs : List Value) (w : World), ExIn w (In_ w) cs x →
    Calls Try.prog 9 #[.agg cs.toArray, .agg #[.int .i64 0, .int .i64 0, .int .i64 0, .int .i64 0], .int .i64 d] w fun e w' => e = .returned (.int .i64 v) ∧ Below w.heap.size w w'
theorem evz_of {d v : Int} {x : Ex} (hd : d ≤ 4611686018427387904) (h : x.ev 0 0 0 0 d = v) : EvZ d v x := fun cs w hin => by
  have := val_eval 0 0 0 0 d hd x cs w hin
  rwa [h] at this

/-- An expression of two numbers. -/
def XN (o a b : Int) : Ex := .mk 3 0 o [.mk 1 a 0 [], .mk 1 b 0 []]

theorem evz_cmp (A C D : Int) (h1 : 2 ≤ D) (h2 : D ≤ 16) (a0 : 0 ≤ A) (a1 : A < D) (c0 : 0 ≤ C) (c1 : C < D) :
    (XN 60 A C).ev 0 0 0 0 D = (if A < C then 1 else 0) ∧ (XN 61 A C).ev 0 0 0 0 D = (if A = C then 1 else 0) ∧ (XN 33 A C).ev 0 0 0 0 D = (if A = C then 0 else 1) ∧
      (Ex.mk 3 0 45 [XN 43 A C, .mk 1 C 0 []]).ev 0 0 0 0 D = A := by
  have one : (1 : Int) % D = 1 := Int.emod_eq_of_lt (by omega) (by omega)
  refine ⟨?_, ?_, ?_, ?_⟩
  · simp only [XN, Ex.ev_two, Ex.ev_num, if_neg (show ¬ D < 1 by omega)]
    simp only [opv]
    by_cases h : A < C <;> simp [h, one]
  · simp only [XN, Ex.ev_two, Ex.ev_num, if_neg (show ¬ D < 1 by omega)]
    simp only [opv]
    by_cases h : A = C <;> simp [h, one]
  · simp only [XN, Ex.ev_two, Ex.ev_num, if_neg (show ¬ D < 1 by omega)]
    simp only [opv]
    by_cases h : A = C <;> simp [h, one]
  · simp only [XN, Ex.ev_two, Ex.ev_num, if_neg (show ¬ D < 1 by omega)]
    have e1 : opv 43 A C = A + C := by simp only [opv, if_true]; exact IntWalk.wrap64_in _ ⟨by omega, by omega⟩
    have hm0 := Int.emod_nonneg (A + C) (show D ≠ 0 by omega)
    have hm1 := Int.emod_lt_of_pos (A + C) (show 0 < D by omega)
    have e2 : opv 45 ((A + C) % D) C = (A + C) % D - C := by simp only [opv, if_neg (show ¬ (45 : Int) = 43 by omega), if_true]; exact IntWalk.wrap64_in _ ⟨by omega, by omega⟩
    rw [e1, e2, Int.sub_emod, Int.emod_emod, ← Int.sub_emod, Int.add_sub_cancel]
    exact Int.emod_eq_of_lt a0 a1

theorem num_in {w : World} {S : Nat → Prop} {n : Int} (h : (Lit.int .i64 n).wf = true) : ExIn w S [.int .i64 1, .int .i64 n, .int .u8 0, .slice none 0 0] (.mk 1 n 0 []) := .leaf _ _ _ _ _ (by decide) h (by decide)
theorem xn_in {w : World} {o a b : Int} {p : Nat} (wa : (Lit.int .i64 a).wf = true) (wb : (Lit.int .i64 b).wf = true) (wo : (Lit.int .u8 o).wf = true) (hb : p < w.heap.size)
    (hc : ∀ j, w.cell? ⟨p, j, none⟩ = (#[.int .i64 1, .int .i64 a, .int .u8 0, .slice none 0 0, .int .i64 1, .int .i64 b, .int .u8 0, .slice none 0 0] : Array Value)[j]?) :
    ExIn w (In_ w) [.int .i64 3, .int .i64 0, .int .u8 o, .slice (some ⟨p, 0, none⟩) 2 2] (XN o a b) :=
  .mk2 (by decide) (by decide) wo hb hc (num_in wa) (num_in wb)
end Go.Proofs.Ytnnidmdokehajaa
