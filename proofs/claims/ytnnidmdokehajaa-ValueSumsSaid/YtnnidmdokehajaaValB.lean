/- The small functions of the value statements: two, awake, Made, the document's word on what may be. -/
import Derived.Test.YtnnidmdokehajaaVal
import Derived.Test.YtnnidmdokehajaaMakerE
namespace Go.Proofs.Ytnnidmdokehajaa
open Go.RowKit

theorem two_any (op : Int) (u0 u1 u2 u3 v0 v1 v2 v3 : Value) (w : World) :
    Calls Try.prog 13 #[.int .u8 op, .agg #[u0, u1, u2, u3], .agg #[v0, v1, v2, v3]] w fun e w' =>
      e = .returned (.agg #[.int .i64 3, .int .i64 0, .int .u8 op, .slice (some ⟨w.heap.size + 1 + 1 + 1, 0, none⟩) 2 2]) ∧ Below w.heap.size w w' ∧ w.heap.size + 1 + 1 + 1 < w'.heap.size ∧
      (∀ j, w'.cell? ⟨w.heap.size + 1 + 1 + 1, j, none⟩ = (#[u0, u1, u2, u3, v0, v1, v2, v3] : Array Value)[j]?) := by
  go_enter Try.func13, Try.ntmps13
  go_wp2
  refine bodyPost_ret (v := .agg #[.int .i64 3, .int .i64 0, .int .u8 op, .slice (some ⟨w.heap.size + 1 + 1 + 1, 0, none⟩) 2 2]) (by simp [results, Try.results13, go_sem]) rfl ⟨rfl, ?_, by simp, fun j => ?_⟩
  · exact ((((Below.refl _ _).alloc (Nat.le_refl _) _).alloc (by simp) _).alloc (by simp; omega) _).alloc (by simp; omega) _
  · have h := World.cell?_alloc_new (((w.alloc (.cells #[u0, u1, u2, u3] 24)).alloc (.cells #[v0, v1, v2, v3] 24)).alloc (.cells #[.int .i64 3, .int .i64 0, .int .u8 op, .slice (some ⟨w.heap.size + 1 + 1 + 1, 0, none⟩) 2 2] 24)) #[u0, u1, u2, u3, v0, v1, v2, v3] 24 j
    simp only [World.size_alloc] at h
    exact h

/-- An operator's text. -/
def sgn (o : Int) : List UInt8 := if isOp o then (if o = 61 then [61, 61] else if o = 33 then [33, 61] else [UInt8.ofNat o.toNat]) else []

/-- string([]byte{o}) -/
theorem conv_one (W : World) (o : Int) : (convert 30 9 (.slice (some ⟨W.heap.size, 0, none⟩) 1 1)).run Try.prog (W.alloc (.cells #[.int .u8 o] 5)) = .ok (.string ⟨#[UInt8.ofNat o.toNat]⟩) (W.alloc (.cells #[.int .u8 o] 5)) := by
  have h := run_convert_bytes_arg (P := Try.prog) (W.alloc (.cells #[.int .u8 o] 5)) 30 5 Try.underlying30 Try.underlying5 W.heap.size 0 1 1 [o] rfl (fun i hi => by
    have : i = 0 := by omega
    subst this
    simp) 9 Try.underlying9
  rw [h]
  rfl

def sgB (i : Nat) (h : i < 6) : Int := ((⟨#[43, 45, 42, 60, 38, 124]⟩ : ByteArray)[i]'h).toNat

set_option maxHeartbeats 2000000 in
theorem sign_any (o : Int) (w : World) : Calls Try.prog 28 #[.int .u8 o] w fun e w' => e = .returned (.string ⟨(sgn o).toArray⟩) ∧ Below w.heap.size w w' := by
  have t0 : (((⟨#[43, 45, 42, 60, 38, 124]⟩ : ByteArray)[0]'(by decide)).toNat : Int) = 43 := rfl
  have t1 : (((⟨#[43, 45, 42, 60, 38, 124]⟩ : ByteArray)[1]'(by decide)).toNat : Int) = 45 := rfl
  have t2 : (((⟨#[43, 45, 42, 60, 38, 124]⟩ : ByteArray)[2]'(by decide)).toNat : Int) = 42 := rfl
  have t3 : (((⟨#[43, 45, 42, 60, 38, 124]⟩ : ByteArray)[3]'(by decide)).toNat : Int) = 60 := rfl
  have t4 : (((⟨#[43, 45, 42, 60, 38, 124]⟩ : ByteArray)[4]'(by decide)).toNat : Int) = 38 := rfl
  have t5 : (((⟨#[43, 45, 42, 60, 38, 124]⟩ : ByteArray)[5]'(by decide)).toNat : Int) = 124 := rfl
  go_enter Try.func28, Try.ntmps28
  go_wp2_with fail
  go_loop [3] (fun i => ∃ k : Nat, k ≤ 6 ∧ i = .int .i64 k ∧ (0 < k → o ≠ 43) ∧ (1 < k → o ≠ 45) ∧ (2 < k → o ≠ 42) ∧ (3 < k → o ≠ 60) ∧ (4 < k → o ≠ 38) ∧ (5 < k → o ≠ 124)) (fun i => 6 - (intOf i).toNat)
  case atStart => exact ⟨0, by omega, rfl, by omega, by omega, by omega, by omega, by omega, by omega⟩
  case round =>
    obtain ⟨k, hk, rfl, a0, a1, a2, a3, a4, a5⟩ := hrel
    have hk6 : k = 0 ∨ k = 1 ∨ k = 2 ∨ k = 3 ∨ k = 4 ∨ k = 5 ∨ k = 6 := by omega
    have hcv := conv_one
    rcases hk6 with rfl | rfl | rfl | rfl | rfl | rfl | rfl
    · by_cases h : o = 43
      · subst h
        clear a0 a1 a2 a3 a4 a5
        go_wp2
        go_ret
        exact ⟨rfl, (Below.refl _ _).alloc (Nat.le_refl _) _⟩
      · have hb : ((43 : Int) == o) = false := by simpa using fun e => h e.symm
        have HA := hid (show (0 < 1 → o ≠ 43) ∧ (1 < 1 → o ≠ 45) ∧ (2 < 1 → o ≠ 42) ∧ (3 < 1 → o ≠ 60) ∧ (4 < 1 → o ≠ 38) ∧ (5 < 1 → o ≠ 124) from ⟨by omega, by omega, by omega, by omega, by omega, by omega⟩)
        clear a0 a1 a2 a3 a4 a5 h
        go_wp2
        first
          | exact ⟨⟨1, by omega, rfl, HA.out⟩, by simp [intOf]⟩
          | (go_round
             case rel => exact ⟨1, by omega, rfl, HA.out⟩
             case measure => simp [intOf])
    · by_cases h : o = 45
      · subst h
        clear a0 a1 a2 a3 a4 a5
        go_wp2
        go_ret
        exact ⟨rfl, (Below.refl _ _).alloc (Nat.le_refl _) _⟩
      · have hb : ((45 : Int) == o) = false := by simpa using fun e => h e.symm
        have HA := hid (show (0 < 2 → o ≠ 43) ∧ (1 < 2 → o ≠ 45) ∧ (2 < 2 → o ≠ 42) ∧ (3 < 2 → o ≠ 60) ∧ (4 < 2 → o ≠ 38) ∧ (5 < 2 → o ≠ 124) from ⟨by omega, by omega, by omega, by omega, by omega, by omega⟩)
        clear a0 a1 a2 a3 a4 a5 h
        go_wp2
        first
          | exact ⟨⟨2, by omega, rfl, HA.out⟩, by simp [intOf]⟩
          | (go_round
             case rel => exact ⟨2, by omega, rfl, HA.out⟩
             case measure => simp [intOf])
    · by_cases h : o = 42
      · subst h
        clear a0 a1 a2 a3 a4 a5
        go_wp2
        go_ret
        exact ⟨rfl, (Below.refl _ _).alloc (Nat.le_refl _) _⟩
      · have hb : ((42 : Int) == o) = false := by simpa using fun e => h e.symm
        have HA := hid (show (0 < 3 → o ≠ 43) ∧ (1 < 3 → o ≠ 45) ∧ (2 < 3 → o ≠ 42) ∧ (3 < 3 → o ≠ 60) ∧ (4 < 3 → o ≠ 38) ∧ (5 < 3 → o ≠ 124) from ⟨by omega, by omega, by omega, by omega, by omega, by omega⟩)
        clear a0 a1 a2 a3 a4 a5 h
        go_wp2
        first
          | exact ⟨⟨3, by omega, rfl, HA.out⟩, by simp [intOf]⟩
          | (go_round
             case rel => exact ⟨3, by omega, rfl, HA.out⟩
             case measure => simp [intOf])
    · by_cases h : o = 60
      · subst h
        clear a0 a1 a2 a3 a4 a5
        go_wp2
        go_ret
        exact ⟨rfl, (Below.refl _ _).alloc (Nat.le_refl _) _⟩
      · have hb : ((60 : Int) == o) = false := by simpa using fun e => h e.symm
        have HA := hid (show (0 < 4 → o ≠ 43) ∧ (1 < 4 → o ≠ 45) ∧ (2 < 4 → o ≠ 42) ∧ (3 < 4 → o ≠ 60) ∧ (4 < 4 → o ≠ 38) ∧ (5 < 4 → o ≠ 124) from ⟨by omega, by omega, by omega, by omega, by omega, by omega⟩)
        clear a0 a1 a2 a3 a4 a5 h
        go_wp2
        first
          | exact ⟨⟨4, by omega, rfl, HA.out⟩, by simp [intOf]⟩
          | (go_round
             case rel => exact ⟨4, by omega, rfl, HA.out⟩
             case measure => simp [intOf])
    · by_cases h : o = 38
      · subst h
        clear a0 a1 a2 a3 a4 a5
        go_wp2
        go_ret
        exact ⟨rfl, (Below.refl _ _).alloc (Nat.le_refl _) _⟩
      · have hb : ((38 : Int) == o) = false := by simpa using fun e => h e.symm
        have HA := hid (show (0 < 5 → o ≠ 43) ∧ (1 < 5 → o ≠ 45) ∧ (2 < 5 → o ≠ 42) ∧ (3 < 5 → o ≠ 60) ∧ (4 < 5 → o ≠ 38) ∧ (5 < 5 → o ≠ 124) from ⟨by omega, by omega, by omega, by omega, by omega, by omega⟩)
        clear a0 a1 a2 a3 a4 a5 h
        go_wp2
        first
          | exact ⟨⟨5, by omega, rfl, HA.out⟩, by simp [intOf]⟩
          | (go_round
             case rel => exact ⟨5, by omega, rfl, HA.out⟩
             case measure => simp [intOf])
    · by_cases h : o = 124
      · subst h
        clear a0 a1 a2 a3 a4 a5
        go_wp2
        go_ret
        exact ⟨rfl, (Below.refl _ _).alloc (Nat.le_refl _) _⟩
      · have hb : ((124 : Int) == o) = false := by simpa using fun e => h e.symm
        have HA := hid (show (0 < 6 → o ≠ 43) ∧ (1 < 6 → o ≠ 45) ∧ (2 < 6 → o ≠ 42) ∧ (3 < 6 → o ≠ 60) ∧ (4 < 6 → o ≠ 38) ∧ (5 < 6 → o ≠ 124) from ⟨by omega, by omega, by omega, by omega, by omega, by omega⟩)
        clear a0 a1 a2 a3 a4 a5 h
        go_wp2
        first
          | exact ⟨⟨6, by omega, rfl, HA.out⟩, by simp [intOf]⟩
          | (go_round
             case rel => exact ⟨6, by omega, rfl, HA.out⟩
             case measure => simp [intOf])
    · have b0 := a0 (by omega)
      have b1 := a1 (by omega)
      have b2 := a2 (by omega)
      have b3 := a3 (by omega)
      have b4 := a4 (by omega)
      have b5 := a5 (by omega)
      clear a0 a1 a2 a3 a4 a5 t0 t1 t2 t3 t4 t5 hcv
      by_cases h61 : o = 61
      · subst h61
        clear b0 b1 b2 b3 b4 b5
        go_wp2
        go_ret
        exact ⟨rfl, Below.refl _ _⟩
      by_cases h33 : o = 33
      · subst h33
        clear b0 b1 b2 b3 b4 b5 h61
        go_wp2
        go_ret
        exact ⟨rfl, Below.refl _ _⟩
      have hs : Hid (sgn o = []) := by
        show _ = _
        simp [sgn, isOp, b0, b1, b2, b3, b4, b5, h61, h33]
      have c61 : (o == 61) = false := by simpa using h61
      have c33 : (o == 33) = false := by simpa using h33
      clear b0 b1 b2 b3 b4 b5 h61 h33
      go_wp2
      go_ret
      exact ⟨by rw [hs.out]; rfl, Below.refl _ _⟩
end Go.Proofs.Ytnnidmdokehajaa
