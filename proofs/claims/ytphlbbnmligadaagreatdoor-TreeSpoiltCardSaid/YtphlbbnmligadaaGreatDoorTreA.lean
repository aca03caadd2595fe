/- The document's word on what expressions may be. -/
import Derived.Test.YtphlbbnmligadaaGreatDoorRows
import Derived.Test.YtphlbbnmligadaaGreatDoorBunM
import Derived.Deep.RegionHeld3
namespace Go.Proofs.YtphlbbnmligadaaGreatDoor
open Go.RowKit

/-- An operator's text. -/
def sgn (o : Int) : List UInt8 := if isOp o then (if o = 61 then [61, 61] else if o = 33 then [33, 61] else [UInt8.ofNat o.toNat]) else []

/-- string([]byte{o}) -/
theorem conv_one (W : World) (o : Int) : (convert 22 9 (.slice (some ⟨W.heap.size, 0, none⟩) 1 1)).run Tryz.prog (W.alloc (.cells #[.int .u8 o] 5)) = .ok (.string ⟨#[UInt8.ofNat o.toNat]⟩) (W.alloc (.cells #[.int .u8 o] 5)) := by
  have h := run_convert_bytes_arg (P := Tryz.prog) (W.alloc (.cells #[.int .u8 o] 5)) 22 5 Tryz.underlying22 Tryz.underlying5 W.heap.size 0 1 1 [o] rfl (fun i hi => by
    have : i = 0 := by omega
    subst this
    simp) 9 Tryz.underlying9
  rw [h]
  rfl

def sgB (i : Nat) (h : i < 6) : Int := ((⟨#[43, 45, 42, 60, 38, 124]⟩ : ByteArray)[i]'h).toNat

set_option maxHeartbeats 2000000 in
theorem sign_any (o : Int) (w : World) : Calls Tryz.prog 62 #[.int .u8 o] w fun e w' => e = .returned (.string ⟨(sgn o).toArray⟩) ∧ Below w.heap.size w w' := by
  have t0 : (((⟨#[43, 45, 42, 60, 38, 124]⟩ : ByteArray)[0]'(by decide)).toNat : Int) = 43 := rfl
  have t1 : (((⟨#[43, 45, 42, 60, 38, 124]⟩ : ByteArray)[1]'(by decide)).toNat : Int) = 45 := rfl
  have t2 : (((⟨#[43, 45, 42, 60, 38, 124]⟩ : ByteArray)[2]'(by decide)).toNat : Int) = 42 := rfl
  have t3 : (((⟨#[43, 45, 42, 60, 38, 124]⟩ : ByteArray)[3]'(by decide)).toNat : Int) = 60 := rfl
  have t4 : (((⟨#[43, 45, 42, 60, 38, 124]⟩ : ByteArray)[4]'(by decide)).toNat : Int) = 38 := rfl
  have t5 : (((⟨#[43, 45, 42, 60, 38, 124]⟩ : ByteArray)[5]'(by decide)).toNat : Int) = 124 := rfl
  go_enter Tryz.func62, Tryz.ntmps62
  go_wp2_with fail
  go_loop [3] (fun i => ∃ k : Nat, k ≤ 6 ∧ i = .int .i64 k ∧ (0 < k → o ≠ 43) ∧ (1 < k → o ≠ 45) ∧ (2 < k → o ≠ 42) ∧ (3 < k → o ≠ 60) ∧ (4 < k → o ≠ 38) ∧ (5 < k → o ≠ 124)) (fun i => 6 - (intOf i).toNat)
  case atStart => exact ⟨0, by omega, rfl, by omega, by omega, by omega, by omega, by omega, by omega⟩
  case round =>
    obtain ⟨k, hk, rfl, a0, a1, a2, a3, a4, a5⟩ := hrel
    have hk6 : k = 0 ∨ k = 1 ∨ k = 2 ∨ k = 3 ∨ k = 4 ∨ k = 5 ∨ k = 6 := by omega
    have hcv := conv_one
    rcases hk6 with rfl | rfl | rfl | rfl | rfl | rfl | rfl
    · by_cases h : o = 43
      · subst h
        clear a0 a1 a2 a3 a4 a5
        go_wp2
        go_ret
        exact ⟨rfl, (Below.refl _ _).alloc (Nat.le_refl _) _⟩
      · have hb : ((43 : Int) == o) = false := by simpa using fun e => h e.symm
        have HA := hid (show (0 < 1 → o ≠ 43) ∧ (1 < 1 → o ≠ 45) ∧ (2 < 1 → o ≠ 42) ∧ (3 < 1 → o ≠ 60) ∧ (4 < 1 → o ≠ 38) ∧ (5 < 1 → o ≠ 124) from ⟨by omega, by omega, by omega, by omega, by omega, by omega⟩)
        clear a0 a1 a2 a3 a4 a5 h
        go_wp2
        first
          | exact ⟨⟨1, by omega, rfl, HA.out⟩, by simp [intOf]⟩
          | (go_round
             case rel => exact ⟨1, by omega, rfl, HA.out⟩
             case measure => simp [intOf])
    · by_cases h : o = 45
      · subst h
        clear a0 a1 a2 a3 a4 a5
        go_wp2
        go_ret
        exact ⟨rfl, (Below.refl _ _).alloc (Nat.le_refl _) _⟩
      · have hb : ((45 : Int) == o) = false := by simpa using fun e => h e.symm
        have HA := hid (show (0 < 2 → o ≠ 43) ∧ (1 < 2 → o ≠ 45) ∧ (2 < 2 → o ≠ 42) ∧ (3 < 2 → o ≠ 60) ∧ (4 < 2 → o ≠ 38) ∧ (5 < 2 → o ≠ 124) from ⟨by omega, by omega, by omega, by omega, by omega, by omega⟩)
        clear a0 a1 a2 a3 a4 a5 h
        go_wp2
        first
          | exact ⟨⟨2, by omega, rfl, HA.out⟩, by simp [intOf]⟩
          | (go_round
             case rel => exact ⟨2, by omega, rfl, HA.out⟩
             case measure => simp [intOf])
    · by_cases h : o = 42
      · subst h
        clear a0 a1 a2 a3 a4 a5
        go_wp2
        go_ret
        exact ⟨rfl, (Below.refl _ _).alloc (Nat.le_refl _) _⟩
      · have hb : ((42 : Int) == o) = false := by simpa using fun e => h e.symm
        have HA := hid (show (0 < 3 → o ≠ 43) ∧ (1 < 3 → o ≠ 45) ∧ (2 < 3 → o ≠ 42) ∧ (3 < 3 → o ≠ 60) ∧ (4 < 3 → o ≠ 38) ∧ (5 < 3 → o ≠ 124) from ⟨by omega, by omega, by omega, by omega, by omega, by omega⟩)
        clear a0 a1 a2 a3 a4 a5 h
        go_wp2
        first
          | exact ⟨⟨3, by omega, rfl, HA.out⟩, by simp [intOf]⟩
          | (go_round
             case rel => exact ⟨3, by omega, rfl, HA.out⟩
             case measure => simp [intOf])
    · by_cases h : o = 60
      · subst h
        clear a0 a1 a2 a3 a4 a5
        go_wp2
        go_ret
        exact ⟨rfl, (Below.refl _ _).alloc (Nat.le_refl _) _⟩
      · have hb : ((60 : Int) == o) = false := by simpa using fun e => h e.symm
        have HA := hid (show (0 < 4 → o ≠ 43) ∧ (1 < 4 → o ≠ 45) ∧ (2 < 4 → o ≠ 42) ∧ (3 < 4 → o ≠ 60) ∧ (4 < 4 → o ≠ 38) ∧ (5 < 4 → o ≠ 124) from ⟨by omega, by omega, by omega, by omega, by omega, by omega⟩)
        clear a0 a1 a2 a3 a4 a5 h
        go_wp2
        first
          | exact ⟨⟨4, by omega, rfl, HA.out⟩, by simp [intOf]⟩
          | (go_round
             case rel => exact ⟨4, by omega, rfl, HA.out⟩
             case measure => simp [intOf])
    · by_cases h : o = 38
      · subst h
        clear a0 a1 a2 a3 a4 a5
        go_wp2
        go_ret
        exact ⟨rfl, (Below.refl _ _).alloc (Nat.le_refl _) _⟩
      · have hb : ((38 : Int) == o) = false := by simpa using fun e => h e.symm
        have HA := hid (show (0 < 5 → o ≠ 43) ∧ (1 < 5 → o ≠ 45) ∧ (2 < 5 → o ≠ 42) ∧ (3 < 5 → o ≠ 60) ∧ (4 < 5 → o ≠ 38) ∧ (5 < 5 → o ≠ 124) from ⟨by omega, by omega, by omega, by omega, by omega, by omega⟩)
        clear a0 a1 a2 a3 a4 a5 h
        go_wp2
        first
          | exact ⟨⟨5, by omega, rfl, HA.out⟩, by simp [intOf]⟩
          | (go_round
             case rel => exact ⟨5, by omega, rfl, HA.out⟩
             case measure => simp [intOf])
    · by_cases h : o = 124
      · subst h
        clear a0 a1 a2 a3 a4 a5
        go_wp2
        go_ret
        exact ⟨rfl, (Below.refl _ _).alloc (Nat.le_refl _) _⟩
      · have hb : ((124 : Int) == o) = false := by simpa using fun e => h e.symm
        have HA := hid (show (0 < 6 → o ≠ 43) ∧ (1 < 6 → o ≠ 45) ∧ (2 < 6 → o ≠ 42) ∧ (3 < 6 → o ≠ 60) ∧ (4 < 6 → o ≠ 38) ∧ (5 < 6 → o ≠ 124) from ⟨by omega, by omega, by omega, by omega, by omega, by omega⟩)
        clear a0 a1 a2 a3 a4 a5 h
        go_wp2
        first
          | exact ⟨⟨6, by omega, rfl, HA.out⟩, by simp [intOf]⟩
          | (go_round
             case rel => exact ⟨6, by omega, rfl, HA.out⟩
             case measure => simp [intOf])
    · have b0 := a0 (by omega)
      have b1 := a1 (by omega)
      have b2 := a2 (by omega)
      have b3 := a3 (by omega)
      have b4 := a4 (by omega)
      have b5 := a5 (by omega)
      clear a0 a1 a2 a3 a4 a5 t0 t1 t2 t3 t4 t5 hcv
      by_cases h61 : o = 61
      · subst h61
        clear b0 b1 b2 b3 b4 b5
        go_wp2
        go_ret
        exact ⟨rfl, Below.refl _ _⟩
      by_cases h33 : o = 33
      · subst h33
        clear b0 b1 b2 b3 b4 b5 h61
        go_wp2
        go_ret
        exact ⟨rfl, Below.refl _ _⟩
      have hs : Hid (sgn o = []) := by
        show _ = _
        simp [sgn, isOp, b0, b1, b2, b3, b4, b5, h61, h33]
      have c61 : (o == 61) = false := by simpa using h61
      have c33 : (o == 33) = false := by simpa using h33
      clear b0 b1 b2 b3 b4 b5 h61 h33
      go_wp2
      go_ret
      exact ⟨by rw [hs.out]; rfl, Below.refl _ _⟩


set_option maxHeartbeats 1000000 in
theorem refexpr_any (dom : Int) (x : Ex) : ∀ (deep : Nat) (di : Int) (cs : List Value) (w : World), di = deep → deep ≤ 1000 → ExIn w (In_ w) cs x →
    Calls Tryz.prog 35 #[.agg cs.toArray, .int .i64 di, .int .i64 dom] w fun e w' => e = .returned (.bool (x.fit dom deep)) ∧ Below w.heap.size w w' := by
  induction x using Ex.ind with
  | h k n o l ih =>
  intro deep di cs w hdi hdeep hin
  obtain ⟨a, cap, rfl, hl, hc, wk, wn, wo, hk⟩ := hin.open_
  unfold maxLen at hc
  have hfb : Below w.heap.size w (w.alloc (.cells #[.int .i64 k, .int .i64 n, .int .u8 o, .slice a l.length cap] 44)) := (Below.refl _ _).alloc (Nat.le_refl _) _
  cases deep with
  | zero =>
    obtain rfl : di = 0 := by omega
    clear hdi
    go_enter Tryz.func35, Tryz.ntmps35
    go_wp2_with fail
    go_ret
    exact ⟨rfl, hfb⟩
  | succ deep =>
    have h1 : 1 ≤ di := by omega
    have Hdi := hid hdi
    clear hdi
    by_cases k1 : k = 1
    · subst k1
      have hfit : Ex.fit dom (deep + 1) (.mk 1 n o l) = (decide (0 ≤ n) && decide (n < dom) && o == 0 && l.isEmpty) := rfl
      have Hf := hid hfit
      clear hfit ih hk
      by_cases c1 : 0 ≤ n
      case neg =>
        go_enter Tryz.func35, Tryz.ntmps35
        go_wp2_with fail
        go_ret
        exact ⟨ret_bool (by rw [Hf.out, decide_eq_false (show ¬ 0 ≤ n by omega)]; rfl), hfb⟩
      by_cases c2 : n < dom
      case neg =>
        go_enter Tryz.func35, Tryz.ntmps35
        go_wp2_with fail
        go_ret
        exact ⟨ret_bool (by rw [Hf.out, decide_eq_false (show ¬ n < dom by omega)]; simp), hfb⟩
      by_cases c3 : o = 0
      case neg =>
        have c4 : (o == 0) = false := by simpa using c3
        go_enter Tryz.func35, Tryz.ntmps35
        go_wp2_with fail
        go_ret
        exact ⟨ret_bool (by rw [Hf.out]; simp [c3]), hfb⟩
      subst c3
      rcases l with _ | ⟨y, l⟩
      · go_enter Tryz.func35, Tryz.ntmps35
        go_wp2_with fail
        go_ret
        exact ⟨ret_bool (by rw [Hf.out]; simp [c1, c2]), hfb⟩
      · have c5 : (((y :: l).length : Int) == 0) = false := by rw [beq_eq_false_iff_ne]; simp; omega
        go_enter Tryz.func35, Tryz.ntmps35
        go_wp2_with fail
        go_ret
        exact ⟨ret_bool (by rw [Hf.out]; simp; omega), hfb⟩
    by_cases k2 : k = 2
    · subst k2
      have hfit : Ex.fit dom (deep + 1) (.mk 2 n o l) = (decide (0 ≤ n) && decide (n < 4) && o == 0 && l.isEmpty) := rfl
      have Hf := hid hfit
      clear hfit ih hk
      by_cases c1 : 0 ≤ n
      case neg =>
        go_enter Tryz.func35, Tryz.ntmps35
        go_wp2_with fail
        go_ret
        exact ⟨ret_bool (by rw [Hf.out, decide_eq_false (show ¬ 0 ≤ n by omega)]; rfl), hfb⟩
      by_cases c2 : n < 4
      case neg =>
        go_enter Tryz.func35, Tryz.ntmps35
        go_wp2_with fail
        go_ret
        exact ⟨ret_bool (by rw [Hf.out, decide_eq_false (show ¬ n < 4 by omega)]; simp), hfb⟩
      by_cases c3 : o = 0
      case neg =>
        have c4 : (o == 0) = false := by simpa using c3
        go_enter Tryz.func35, Tryz.ntmps35
        go_wp2_with fail
        go_ret
        exact ⟨ret_bool (by rw [Hf.out]; simp [c3]), hfb⟩
      subst c3
      rcases l with _ | ⟨y, l⟩
      · go_enter Tryz.func35, Tryz.ntmps35
        go_wp2_with fail
        go_ret
        exact ⟨ret_bool (by rw [Hf.out]; simp [c1, c2]), hfb⟩
      · have c5 : (((y :: l).length : Int) == 0) = false := by rw [beq_eq_false_iff_ne]; simp; omega
        go_enter Tryz.func35, Tryz.ntmps35
        go_wp2_with fail
        go_ret
        exact ⟨ret_bool (by rw [Hf.out]; simp; omega), hfb⟩
    have b1 : (k == 1) = false := by simpa using k1
    have b2 : (k == 2) = false := by simpa using k2
    by_cases k3 : k = 3
    case neg =>
      have b3 : (k == 3) = false := by simpa using k3
      go_enter Tryz.func35, Tryz.ntmps35
      go_wp2_with fail
      go_ret
      exact ⟨ret_bool (by simp [Ex.fit, k1, k2, k3]), hfb⟩
    subst k3
    by_cases n0 : n = 0
    case neg =>
      have c0 : (n == 0) = false := by simpa using n0
      go_enter Tryz.func35, Tryz.ntmps35
      go_wp2_with fail
      go_ret
      exact ⟨ret_bool (by simp [Ex.fit, n0]), hfb⟩
    subst n0
    cases ho : isOp o
    case false =>
      have hs : sgn o = [] := by simp [sgn, ho]
      have Ho := hid ho
      clear ho
      go_enter Tryz.func35, Tryz.ntmps35
      go_wp2_with (go_at_call 62; (refine (sign_any _ _).mono ?_); rintro e w1 ⟨rfl, hb1⟩)
      go_ret
      exact ⟨ret_bool (by simp [Ex.fit, Ho.out]), hfb.trans (hb1.mono hfb.size)⟩
    case true =>
      have hs : (sgn o).isEmpty = false := by
        unfold sgn
        rw [if_pos ho]
        split
        · rfl
        · split <;> rfl
      have Ho := hid ho
      clear ho
      rcases l with _ | ⟨x0, _ | ⟨x1, _ | ⟨x2, l'⟩⟩⟩
      case nil =>
        go_enter Tryz.func35, Tryz.ntmps35
        go_wp2_with fail
        have HB := hid hfb
        clear hfb
        generalize hW : World.alloc w _ = W0 at *
        have hzW : w.heap.size < W0.heap.size := by subst hW; simp
        have d3 : W0.cell? ⟨w.heap.size, 3, none⟩ = some (.slice a 0 cap) := by subst hW; go_simp
        clear hW
        refine (sign_any _ _).mono ?_
        rintro e w1 ⟨rfl, hb1⟩
        have hK : Kp W0 w1 := .of hb1
        clear ih hk
        go_wp2_with fail
        go_ret
        exact ⟨ret_bool (by simp [Ex.fit, Ho.out]), Kp.fin HB.out hK⟩
      case cons.nil =>
        go_enter Tryz.func35, Tryz.ntmps35
        go_wp2_with fail
        have HB := hid hfb
        clear hfb
        generalize hW : World.alloc w _ = W0 at *
        have hzW : w.heap.size < W0.heap.size := by subst hW; simp
        have d3 : W0.cell? ⟨w.heap.size, 3, none⟩ = some (.slice a 1 cap) := by subst hW; go_simp
        clear hW
        refine (sign_any _ _).mono ?_
        rintro e w1 ⟨rfl, hb1⟩
        have hK : Kp W0 w1 := .of hb1
        clear ih hk
        go_wp2_with fail
        go_ret
        exact ⟨ret_bool (by simp [Ex.fit, Ho.out]), Kp.fin HB.out hK⟩
      case cons.cons.cons =>
        have hl2 : ((((l'.length + 1 + 1 + 1 : Nat)) : Int) == 2) = false := by rw [beq_eq_false_iff_ne]; omega
        go_enter Tryz.func35, Tryz.ntmps35
        go_wp2_with fail
        have HB := hid hfb
        clear hfb
        generalize hW : World.alloc w _ = W0 at *
        have hzW : w.heap.size < W0.heap.size := by subst hW; simp
        have d3 : W0.cell? ⟨w.heap.size, 3, none⟩ = some (.slice a (l'.length + 1 + 1 + 1) cap) := by subst hW; go_simp
        clear hW
        refine (sign_any _ _).mono ?_
        rintro e w1 ⟨rfl, hb1⟩
        have hK : Kp W0 w1 := .of hb1
        clear ih hk
        go_wp2_with fail
        go_ret
        exact ⟨ret_bool (by simp [Ex.fit, Ho.out]), Kp.fin HB.out hK⟩
      case cons.cons.nil =>
        obtain ⟨b, off, u0, u1, u2, u3, v0, v1, v2, v3, rfl, hb0, c00, c01, c02, c03, c10, c11, c12, c13, hx0, hx1⟩ := ExIn.pair hk
        have hb := hb0.lt
        have ih0 := ih x0 (by simp) deep (di - 1)
        have ih1 := ih x1 (by simp) deep (di - 1)
        have hdi1 : Hid (di - 1 = (deep : Int)) := by have := Hdi.out; show _ = _; omega
        have hdd : deep ≤ 1000 := by omega
        have hd1 : di ≤ 1001 := by have := Hdi.out; omega
        clear hk ih Hdi hb0
        go_enter Tryz.func35, Tryz.ntmps35
        go_wp2_with fail
        have hX0 := (Kp.of hfb).ex hx0
        have hX1 := (Kp.of hfb).ex hx1
        simp only [List.length_cons, List.length_nil, Nat.zero_add] at hl
        rw [← hfb.cell (p := ⟨b, _, none⟩) hb] at c00 c01 c02 c03 c10 c11 c12 c13
        clear hx0 hx1
        have HB := hid hfb
        clear hfb
        generalize hW : World.alloc w _ = W0 at *
        have hzW : w.heap.size < W0.heap.size := by subst hW; simp
        have d3 : W0.cell? ⟨w.heap.size, 3, none⟩ = some (.slice (some ⟨b, off, none⟩) 2 cap) := by subst hW; go_simp
        clear hW
        refine (sign_any _ _).mono ?_
        rintro e w1 ⟨rfl, hb1⟩
        have hK : Kp W0 w1 := .of hb1
        have hbz : b < W0.heap.size := by omega
        have hY0 := hK.ex hX0
        cases hf0 : x0.fit dom deep
        case false =>
          rw [hf0] at ih0
          have Hf0 := hid hf0
          clear hf0 ih1
          go_wp2_with (go_at_call 35; (with_reducible refine (ih0 _ _ hdi1.out hdd hY0).mono ?_); rintro e w2 ⟨rfl, hb2⟩)
          go_ret
          exact ⟨ret_bool (by simp [Ex.fit, Ho.out, Hf0.out]), Kp.fin HB.out (hK.next hb2)⟩
        case true =>
          rw [hf0] at ih0
          have Hf0 := hid hf0
          clear hf0
          go_wp2_with fail
          (with_reducible refine (ih0 _ _ hdi1.out hdd hY0).mono ?_)
          rintro e w2 ⟨rfl, hb2⟩
          have hK2 := hK.next hb2
          have hY1 := hK2.ex hX1
          clear hK hb1 hb2 hX0 hX1 hY0 ih0
          go_wp2_with (go_at_call 35; (with_reducible refine (ih1 _ _ hdi1.out hdd hY1).mono ?_); rintro e w3 ⟨rfl, hb3⟩)
          go_ret
          exact ⟨ret_bool (by simp [Ex.fit, Ho.out, Hf0.out]), Kp.fin HB.out (hK2.next hb3)⟩

theorem expr_any (dom : Int) (x : Ex) (cs : List Value) (w : World) (hin : ExIn w (In_ w) cs x) :
    Calls Tryz.prog 17 #[.agg cs.toArray, .int .i64 dom] w fun e w' => e = .returned (.bool (x.fit dom 20)) ∧ Below w.heap.size w w' := by
  obtain ⟨u0, u1, u2, u3, rfl⟩ := hin.four
  have hfb : Below w.heap.size w (w.alloc (.cells #[u0, u1, u2, u3] 44)) := (Below.refl _ _).alloc (Nat.le_refl _) _
  have hX := (Kp.of hfb).ex hin
  have hd : (20 : Int) = ((20 : Nat) : Int) := rfl
  have Hd := hid hd
  clear hd hin
  go_enter Tryz.func17, Tryz.ntmps17
  go_wp2_with fail
  refine (refexpr_any dom x 20 20 [u0, u1, u2, u3] _ Hd.out (by omega) hX).mono ?_
  rintro e w1 ⟨rfl, hb1⟩
  go_wp2_with fail
  go_ret
  exact ⟨rfl, hfb.trans (hb1.mono hfb.size)⟩

end Go.Proofs.YtphlbbnmligadaaGreatDoor
