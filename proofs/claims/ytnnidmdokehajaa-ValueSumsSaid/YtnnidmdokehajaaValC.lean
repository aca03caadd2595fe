/- The value statements' own functions: awake, Made, the document's word on what may be. -/
import Derived.Test.YtnnidmdokehajaaValB
namespace Go.Proofs.Ytnnidmdokehajaa
open Go.RowKit

set_option maxHeartbeats 1000000 in
theorem refexpr_any (dom : Int) (x : Ex) : ∀ (deep : Nat) (di : Int) (cs : List Value) (w : World), di = deep → deep ≤ 1000 → ExIn w (In_ w) cs x →
    Calls Try.prog 16 #[.agg cs.toArray, .int .i64 di, .int .i64 dom] w fun e w' => e = .returned (.bool (x.fit dom deep)) ∧ Below w.heap.size w w' := by
  induction x using Ex.ind with
  | h k n o l ih =>
  intro deep di cs w hdi hdeep hin
  obtain ⟨a, cap, rfl, hl, hc, wk, wn, wo, hk⟩ := hin.open_
  unfold maxLen at hc
  have hfb : Below w.heap.size w (w.alloc (.cells #[.int .i64 k, .int .i64 n, .int .u8 o, .slice a l.length cap] 24)) := (Below.refl _ _).alloc (Nat.le_refl _) _
  cases deep with
  | zero =>
    obtain rfl : di = 0 := by omega
    clear hdi
    go_enter Try.func16, Try.ntmps16
    go_wp2_with fail
    go_ret
    exact ⟨rfl, hfb⟩
  | succ deep =>
    have h1 : 1 ≤ di := by omega
    have Hdi := hid hdi
    clear hdi
    by_cases k1 : k = 1
    · subst k1
      have hfit : Ex.fit dom (deep + 1) (.mk 1 n o l) = (decide (0 ≤ n) && decide (n < dom) && o == 0 && l.isEmpty) := rfl
      have Hf := hid hfit
      clear hfit ih hk
      by_cases c1 : 0 ≤ n
      case neg =>
        go_enter Try.func16, Try.ntmps16
        go_wp2_with fail
        go_ret
        exact ⟨ret_bool (by rw [Hf.out, decide_eq_false (show ¬ 0 ≤ n by omega)]; rfl), hfb⟩
      by_cases c2 : n < dom
      case neg =>
        go_enter Try.func16, Try.ntmps16
        go_wp2_with fail
        go_ret
        exact ⟨ret_bool (by rw [Hf.out, decide_eq_false (show ¬ n < dom by omega)]; simp), hfb⟩
      by_cases c3 : o = 0
      case neg =>
        have c4 : (o == 0) = false := by simpa using c3
        go_enter Try.func16, Try.ntmps16
        go_wp2_with fail
        go_ret
        exact ⟨ret_bool (by rw [Hf.out]; simp [c3]), hfb⟩
      subst c3
      rcases l with _ | ⟨y, l⟩
      · go_enter Try.func16, Try.ntmps16
        go_wp2_with fail
        go_ret
        exact ⟨ret_bool (by rw [Hf.out]; simp [c1, c2]), hfb⟩
      · have c5 : (((y :: l).length : Int) == 0) = false := by rw [beq_eq_false_iff_ne]; simp; omega
        go_enter Try.func16, Try.ntmps16
        go_wp2_with fail
        go_ret
        exact ⟨ret_bool (by rw [Hf.out]; simp; omega), hfb⟩
    by_cases k2 : k = 2
    · subst k2
      have hfit : Ex.fit dom (deep + 1) (.mk 2 n o l) = (decide (0 ≤ n) && decide (n < 4) && o == 0 && l.isEmpty) := rfl
      have Hf := hid hfit
      clear hfit ih hk
      by_cases c1 : 0 ≤ n
      case neg =>
        go_enter Try.func16, Try.ntmps16
        go_wp2_with fail
        go_ret
        exact ⟨ret_bool (by rw [Hf.out, decide_eq_false (show ¬ 0 ≤ n by omega)]; rfl), hfb⟩
      by_cases c2 : n < 4
      case neg =>
        go_enter Try.func16, Try.ntmps16
        go_wp2_with fail
        go_ret
        exact ⟨ret_bool (by rw [Hf.out, decide_eq_false (show ¬ n < 4 by omega)]; simp), hfb⟩
      by_cases c3 : o = 0
      case neg =>
        have c4 : (o == 0) = false := by simpa using c3
        go_enter Try.func16, Try.ntmps16
        go_wp2_with fail
        go_ret
        exact ⟨ret_bool (by rw [Hf.out]; simp [c3]), hfb⟩
      subst c3
      rcases l with _ | ⟨y, l⟩
      · go_enter Try.func16, Try.ntmps16
        go_wp2_with fail
        go_ret
        exact ⟨ret_bool (by rw [Hf.out]; simp [c1, c2]), hfb⟩
      · have c5 : (((y :: l).length : Int) == 0) = false := by rw [beq_eq_false_iff_ne]; simp; omega
        go_enter Try.func16, Try.ntmps16
        go_wp2_with fail
        go_ret
        exact ⟨ret_bool (by rw [Hf.out]; simp; omega), hfb⟩
    have b1 : (k == 1) = false := by simpa using k1
    have b2 : (k == 2) = false := by simpa using k2
    by_cases k3 : k = 3
    case neg =>
      have b3 : (k == 3) = false := by simpa using k3
      go_enter Try.func16, Try.ntmps16
      go_wp2_with fail
      go_ret
      exact ⟨ret_bool (by simp [Ex.fit, k1, k2, k3]), hfb⟩
    subst k3
    by_cases n0 : n = 0
    case neg =>
      have c0 : (n == 0) = false := by simpa using n0
      go_enter Try.func16, Try.ntmps16
      go_wp2_with fail
      go_ret
      exact ⟨ret_bool (by simp [Ex.fit, n0]), hfb⟩
    subst n0
    cases ho : isOp o
    case false =>
      have hs : sgn o = [] := by simp [sgn, ho]
      have Ho := hid ho
      clear ho
      go_enter Try.func16, Try.ntmps16
      go_wp2_with (go_at_call 28; (refine (sign_any _ _).mono ?_); rintro e w1 ⟨rfl, hb1⟩)
      go_ret
      exact ⟨ret_bool (by simp [Ex.fit, Ho.out]), hfb.trans (hb1.mono hfb.size)⟩
    case true =>
      have hs : (sgn o).isEmpty = false := by
        unfold sgn
        rw [if_pos ho]
        split
        · rfl
        · split <;> rfl
      have Ho := hid ho
      clear ho
      rcases l with _ | ⟨x0, _ | ⟨x1, _ | ⟨x2, l'⟩⟩⟩
      case nil =>
        go_enter Try.func16, Try.ntmps16
        go_wp2_with fail
        have HB := hid hfb
        clear hfb
        generalize hW : World.alloc w _ = W0 at *
        have hzW : w.heap.size < W0.heap.size := by subst hW; simp
        have d3 : W0.cell? ⟨w.heap.size, 3, none⟩ = some (.slice a 0 cap) := by subst hW; go_simp
        clear hW
        refine (sign_any _ _).mono ?_
        rintro e w1 ⟨rfl, hb1⟩
        have hK : Kp W0 w1 := .of hb1
        clear ih hk
        go_wp2_with fail
        go_ret
        exact ⟨ret_bool (by simp [Ex.fit, Ho.out]), Kp.fin HB.out hK⟩
      case cons.nil =>
        go_enter Try.func16, Try.ntmps16
        go_wp2_with fail
        have HB := hid hfb
        clear hfb
        generalize hW : World.alloc w _ = W0 at *
        have hzW : w.heap.size < W0.heap.size := by subst hW; simp
        have d3 : W0.cell? ⟨w.heap.size, 3, none⟩ = some (.slice a 1 cap) := by subst hW; go_simp
        clear hW
        refine (sign_any _ _).mono ?_
        rintro e w1 ⟨rfl, hb1⟩
        have hK : Kp W0 w1 := .of hb1
        clear ih hk
        go_wp2_with fail
        go_ret
        exact ⟨ret_bool (by simp [Ex.fit, Ho.out]), Kp.fin HB.out hK⟩
      case cons.cons.cons =>
        have hl2 : ((((l'.length + 1 + 1 + 1 : Nat)) : Int) == 2) = false := by rw [beq_eq_false_iff_ne]; omega
        go_enter Try.func16, Try.ntmps16
        go_wp2_with fail
        have HB := hid hfb
        clear hfb
        generalize hW : World.alloc w _ = W0 at *
        have hzW : w.heap.size < W0.heap.size := by subst hW; simp
        have d3 : W0.cell? ⟨w.heap.size, 3, none⟩ = some (.slice a (l'.length + 1 + 1 + 1) cap) := by subst hW; go_simp
        clear hW
        refine (sign_any _ _).mono ?_
        rintro e w1 ⟨rfl, hb1⟩
        have hK : Kp W0 w1 := .of hb1
        clear ih hk
        go_wp2_with fail
        go_ret
        exact ⟨ret_bool (by simp [Ex.fit, Ho.out]), Kp.fin HB.out hK⟩
      case cons.cons.nil =>
        obtain ⟨b, off, u0, u1, u2, u3, v0, v1, v2, v3, rfl, hb0, c00, c01, c02, c03, c10, c11, c12, c13, hx0, hx1⟩ := ExIn.pair hk
        have hb := hb0.lt
        have ih0 := ih x0 (by simp) deep (di - 1)
        have ih1 := ih x1 (by simp) deep (di - 1)
        have hdi1 : Hid (di - 1 = (deep : Int)) := by have := Hdi.out; show _ = _; omega
        have hdd : deep ≤ 1000 := by omega
        have hd1 : di ≤ 1001 := by have := Hdi.out; omega
        clear hk ih Hdi hb0
        go_enter Try.func16, Try.ntmps16
        go_wp2_with fail
        have hX0 := (Kp.of hfb).ex hx0
        have hX1 := (Kp.of hfb).ex hx1
        simp only [List.length_cons, List.length_nil, Nat.zero_add] at hl
        rw [← hfb.cell (p := ⟨b, _, none⟩) hb] at c00 c01 c02 c03 c10 c11 c12 c13
        clear hx0 hx1
        have HB := hid hfb
        clear hfb
        generalize hW : World.alloc w _ = W0 at *
        have hzW : w.heap.size < W0.heap.size := by subst hW; simp
        have d3 : W0.cell? ⟨w.heap.size, 3, none⟩ = some (.slice (some ⟨b, off, none⟩) 2 cap) := by subst hW; go_simp
        clear hW
        refine (sign_any _ _).mono ?_
        rintro e w1 ⟨rfl, hb1⟩
        have hK : Kp W0 w1 := .of hb1
        have hbz : b < W0.heap.size := by omega
        have hY0 := hK.ex hX0
        cases hf0 : x0.fit dom deep
        case false =>
          rw [hf0] at ih0
          have Hf0 := hid hf0
          clear hf0 ih1
          go_wp2_with (go_at_call 16; (with_reducible refine (ih0 _ _ hdi1.out hdd hY0).mono ?_); rintro e w2 ⟨rfl, hb2⟩)
          go_ret
          exact ⟨ret_bool (by simp [Ex.fit, Ho.out, Hf0.out]), Kp.fin HB.out (hK.next hb2)⟩
        case true =>
          rw [hf0] at ih0
          have Hf0 := hid hf0
          clear hf0
          go_wp2_with fail
          (with_reducible refine (ih0 _ _ hdi1.out hdd hY0).mono ?_)
          rintro e w2 ⟨rfl, hb2⟩
          have hK2 := hK.next hb2
          have hY1 := hK2.ex hX1
          clear hK hb1 hb2 hX0 hX1 hY0 ih0
          go_wp2_with (go_at_call 16; (with_reducible refine (ih1 _ _ hdi1.out hdd hY1).mono ?_); rintro e w3 ⟨rfl, hb3⟩)
          go_ret
          exact ⟨ret_bool (by simp [Ex.fit, Ho.out, Hf0.out]), Kp.fin HB.out (hK2.next hb3)⟩

end Go.Proofs.Ytnnidmdokehajaa
