/- Two buffers, the same. -/
import Derived.Test.YtekmcoflagajkaaDoorBufA
namespace Go.Proofs.YtekmcoflagajkaaDoor
open Go.RowKit

/-- Two entries compared. -/
@[go_sem] theorem neqEn (a b c d : Int) (w : World) : (binOp .neq 67 (.agg #[.int .i64 a, .int .i64 b]) (.agg #[.int .i64 c, .int .i64 d])).run Tryd.prog w = .ok (.bool (!(a == c && b == d))) w := by
  have hS : Tryd.prog.underlying 67 = some (.struct (Tryd.prog.fieldsOf 67)) := by kernel_rfl
  have hp : Tryd.prog.stoodInHeld 67 = false := by kernel_rfl
  rw [run_neq_struct, show (10000 : Nat) = 9999 + 1 from rfl, run_equalIn_agg w 9999 _ _ _ hS hp]
  simp only [Program.fieldsOf, Tryd.underlying67]
  go_simp
  by_cases h1 : a = c <;> by_cases h2 : b = d <;> simp [h1, h2]
@[go_sem] theorem guardEn (op : BinOp) (x y : Operand) (xs ys : Array Value) (w : World) : (eqGuard op 67 x y (.agg xs) (.agg ys)).run Tryd.prog w = .ok () w := run_eqGuard_agg w op _ x y xs ys (by kernel_rfl)

set_option maxHeartbeats 2000000 in
theorem enSame_any (a a' : Option Addr) (n cap n' cap' : Nat) (l l' : List (Int × Int)) (w : World) (hl : EnIn w (In_ w) a n cap l) (hl' : EnIn w (In_ w) a' n' cap' l') :
    Calls Tryd.prog 22 #[.slice a n cap, .slice a' n' cap'] w fun e w' => e = .returned (.bool (decide (l = l'))) ∧ Below w.heap.size w w' := by
  have hn := hl.1
  have hn' := hl'.1
  subst hn hn'
  have hcap := hl.2.le
  have hmx := hl.2.mx
  have hcap' := hl'.2.le
  have hmx' := hl'.2.mx
  unfold maxLen at hmx hmx'
  by_cases hlen : l.length = l'.length
  case neg =>
    have hb : ((l.length : Int) != l'.length) = true := by rw [bne_iff_ne]; omega
    have hne : Hid (decide (l = l') = false) := by show _ = _; rw [decide_eq_false_iff_not]; intro h; rw [h] at hlen; exact hlen rfl
    go_enter Tryd.func22, Tryd.ntmps22
    go_wp2
    go_ret
    exact ⟨by rw [hne.out]; rfl, Below.refl _ _⟩
  have hb : ((l.length : Int) != l'.length) = false := by rw [bne_eq_false_iff_eq]; omega
  have Hlen := hid hlen
  clear hlen
  go_enter Tryd.func22, Tryd.ntmps22
  go_wp2_with fail
  go_loopw [5] (fun i wr => ∃ k : Nat, k ≤ l.length ∧ i = .int .i64 k ∧ Hid (l.take k = l'.take k) ∧ Kp w wr) (fun i _ => l.length - (intOf i).toNat)
  case atStart => exact ⟨0, Nat.zero_le _, rfl, rfl, Kp.refl _⟩
  case round =>
    obtain ⟨k, hk, rfl, heq, hK⟩ := hrel
    by_cases hlt : k < l.length
    · obtain ⟨bb, off, rfl, hbb, e0, e1⟩ := hl.at_ k hlt
      obtain ⟨bb', off', rfl, hbb', e0', e1'⟩ := hl'.at_ k (by have := Hlen.out; omega)
      have hbl := hbb.lt
      have hbl' := hbb'.lt
      have k0 : (0 : Int) ≤ k := by omega
      have k1 : (k : Int) < l.length := by omega
      have k2 : (k : Int) < l'.length := by have := Hlen.out; omega
      have ht := List.take_succ_eq_append_getElem hlt
      have ht' := List.take_succ_eq_append_getElem (l := l') (i := k) (by have := Hlen.out; omega)
      by_cases hv : l[k] = l'[k]'(by have := Hlen.out; omega)
      · have h1 : (l[k].1 == (l'[k]'(by have := Hlen.out; omega)).1) = true := by rw [hv]; exact beq_self_eq_true _
        have h2 : (l[k].2 == (l'[k]'(by have := Hlen.out; omega)).2) = true := by rw [hv]; exact beq_self_eq_true _
        have hx : Hid (l.take (k + 1) = l'.take (k + 1)) := by show _ = _; rw [ht, ht', heq.out, hv]
        clear ht ht' hv heq
        go_wp2_with fail
        go_region_held3 (Kp w) (first | assumption | exact hK.drew) (fail)
        rename_i hKp
        go_wp2
        go_roundw
        case rel => exact ⟨k + 1, by omega, by simp, hx, hKp⟩
        case measure => simp [intOf]; omega
      · have hx : Hid (decide (l = l') = false) := by
          show _ = _
          rw [decide_eq_false_iff_not]
          intro h
          subst h
          exact hv rfl
        by_cases hv1 : l[k].1 = (l'[k]'(by have := Hlen.out; omega)).1
        · have h1 : (l[k].1 == (l'[k]'(by have := Hlen.out; omega)).1) = true := by rw [hv1]; exact beq_self_eq_true _
          have h2 : (l[k].2 == (l'[k]'(by have := Hlen.out; omega)).2) = false := by
            rw [beq_eq_false_iff_ne]; intro h2; exact hv (Prod.ext hv1 h2)
          clear ht ht' hv heq hv1
          go_wp2_with fail
          go_region_held3 (Kp w) (first | assumption | exact hK.drew) (fail)
          rename_i hKp
          go_wp2
          go_ret
          exact ⟨by rw [hx.out]; rfl, hKp.1⟩
        · have h1 : (l[k].1 == (l'[k]'(by have := Hlen.out; omega)).1) = false := by rw [beq_eq_false_iff_ne]; exact hv1
          clear ht ht' hv heq hv1
          go_wp2_with fail
          go_region_held3 (Kp w) (first | assumption | exact hK.drew) (fail)
          rename_i hKp
          go_wp2
          go_ret
          exact ⟨by rw [hx.out]; rfl, hKp.1⟩
    · have k1 : ¬ (k : Int) < l.length := by omega
      have hx : Hid (decide (l = l') = true) := by
        show _ = _
        rw [decide_eq_true_iff]
        have h := heq.out
        rw [List.take_of_length_le (by omega), List.take_of_length_le (by have := Hlen.out; omega)] at h
        exact h
      clear heq
      go_wp2
      go_ret
      exact ⟨by rw [hx.out]; rfl, hK.1⟩
end Go.Proofs.YtekmcoflagajkaaDoor
