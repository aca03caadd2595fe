/- The document's Look, Same, ints. -/
import Derived.Test.YtjjdmhbljagokaaBufA
namespace Go.Proofs.Ytjjdmhbljagokaa
open Go.RowKit

/-- What is seen of a variable; the last one counts. -/
def lookL (v : Int) (l : List (Int × Int)) : Int × Bool :=
  match l.reverse.find? (fun y => y.1 == v) with
  | some y => (y.2, true)
  | none => (0, false)
theorem lookL_snoc (v : Int) (l : List (Int × Int)) (y : Int × Int) : lookL v (l ++ [y]) = if y.1 = v then (y.2, true) else lookL v l := by
  unfold lookL
  rw [List.reverse_append]
  by_cases h : y.1 = v
  · simp [h]
  · have hb : (y.1 == v) = false := by simpa using h
    simp [hb, h]
theorem lookL_nil (v : Int) : lookL v [] = (0, false) := rfl
theorem lookL_take (v : Int) (l : List (Int × Int)) (k : Nat) (hk : k < l.length) : lookL v (l.take (k + 1)) = if l[k].1 = v then (l[k].2, true) else lookL v (l.take k) := by
  rw [List.take_succ_eq_append_getElem hk, lookL_snoc]

def LookPost (w : World) (r : Int × Bool) (e : Ending) (w' : World) : Prop := e = .returned (.tuple #[.int .i64 r.1, .bool r.2]) ∧ Below w.heap.size w w'

set_option maxHeartbeats 2000000 in
theorem refLook_any (a : Option Addr) (n cap : Nat) (l : List (Int × Int)) (v : Int) (w : World) (hl : EnIn w (In_ w) a n cap l) :
    Calls Try.prog 16 #[.slice a n cap, .int .i64 v] w (LookPost w (lookL v l)) := by
  have hn := hl.1
  subst hn
  have hcap := hl.2.le
  have hmx := hl.2.mx
  unfold maxLen at hmx
  go_enter Try.func16, Try.ntmps16
  go_wp2_with fail
  go_loop [6] (fun i => ∃ k : Nat, k ≤ l.length ∧ Hid (lookL v (l.take k) = lookL v l) ∧ ((k = 0 ∧ i = .int .i64 (-1)) ∨ ∃ j : Nat, k = j + 1 ∧ i = .int .i64 j)) (fun i => (intOf i + 1).toNat)
  case atStart =>
    refine ⟨l.length, Nat.le_refl _, by show _ = _; rw [List.take_length], ?_⟩
    rcases Nat.eq_zero_or_pos l.length with h0 | h0
    · left; refine ⟨h0, ?_⟩; rw [h0]; try rfl
    · right; refine ⟨l.length - 1, by omega, ?_⟩; congr 1; omega
  case round =>
    obtain ⟨k, hk, hrest, ⟨rfl, rfl⟩ | ⟨j, rfl, rfl⟩⟩ := hrel
    · go_wp2
      go_ret2
      have h := hrest.out
      rw [List.take_zero, lookL_nil] at h
      exact ⟨by rw [← h]; rfl, Below.refl _ _⟩
    · obtain ⟨b, off, rfl, hb, e0, e1⟩ := hl.at_ j (by omega)
      have ht := lookL_take v l j (by omega)
      have k0 : (0 : Int) ≤ j := by omega
      have k1 : (j : Int) < l.length := by omega
      by_cases hv : l[j].1 = v
      · have hv1 : (l[j].1 == v) = true := by simpa using hv
        rw [if_pos hv] at ht
        have h := hid (ht.symm.trans hrest.out)
        clear ht hrest hv
        go_wp2
        go_ret2
        exact ⟨by rw [← h.out]; rfl, Below.refl _ _⟩
      · have hv1 : (l[j].1 == v) = false := by simpa using hv
        rw [if_neg hv] at ht
        have h := hid (ht.symm.trans hrest.out)
        clear ht hrest hv
        go_wp2
        go_round
        case rel =>
          refine ⟨j, by omega, h, ?_⟩
          cases j with
          | zero => left; exact ⟨rfl, rfl⟩
          | succ j => right; refine ⟨j, rfl, ?_⟩; first | rfl | (congr 1; done) | (congr 1; omega)
        case measure => simp [intOf]

/-- Two entries compared. -/
@[go_sem] theorem neqEn (a b c d : Int) (w : World) : (binOp .neq 26 (.agg #[.int .i64 a, .int .i64 b]) (.agg #[.int .i64 c, .int .i64 d])).run Try.prog w = .ok (.bool (!(a == c && b == d))) w := by
  have hS : Try.prog.underlying 26 = some (.struct (Try.prog.fieldsOf 26)) := by kernel_rfl
  have hp : Try.prog.stoodInHeld 26 = false := by kernel_rfl
  rw [run_neq_struct, show (10000 : Nat) = 9999 + 1 from rfl, run_equalIn_agg w 9999 _ _ _ hS hp]
  simp only [Program.fieldsOf, Try.underlying26]
  go_simp
  by_cases h1 : a = c <;> by_cases h2 : b = d <;> simp [h1, h2]
@[go_sem] theorem guardEn (op : BinOp) (x y : Operand) (xs ys : Array Value) (w : World) : (eqGuard op 26 x y (.agg xs) (.agg ys)).run Try.prog w = .ok () w := run_eqGuard_agg w op _ x y xs ys (by kernel_rfl)

set_option maxHeartbeats 2000000 in
theorem enSame_any (a a' : Option Addr) (n cap n' cap' : Nat) (l l' : List (Int × Int)) (w : World) (hl : EnIn w (In_ w) a n cap l) (hl' : EnIn w (In_ w) a' n' cap' l') :
    Calls Try.prog 13 #[.slice a n cap, .slice a' n' cap'] w fun e w' => e = .returned (.bool (decide (l = l'))) ∧ Below w.heap.size w w' := by
  have hn := hl.1
  have hn' := hl'.1
  subst hn hn'
  have hcap := hl.2.le
  have hmx := hl.2.mx
  have hcap' := hl'.2.le
  have hmx' := hl'.2.mx
  unfold maxLen at hmx hmx'
  by_cases hlen : l.length = l'.length
  case neg =>
    have hb : ((l.length : Int) != l'.length) = true := by rw [bne_iff_ne]; omega
    have hne : Hid (decide (l = l') = false) := by show _ = _; rw [decide_eq_false_iff_not]; intro h; rw [h] at hlen; exact hlen rfl
    go_enter Try.func13, Try.ntmps13
    go_wp2
    go_ret
    exact ⟨by rw [hne.out]; rfl, Below.refl _ _⟩
  have hb : ((l.length : Int) != l'.length) = false := by rw [bne_eq_false_iff_eq]; omega
  have Hlen := hid hlen
  clear hlen
  go_enter Try.func13, Try.ntmps13
  go_wp2_with fail
  go_loopw [5] (fun i wr => ∃ k : Nat, k ≤ l.length ∧ i = .int .i64 k ∧ Hid (l.take k = l'.take k) ∧ Kp w wr) (fun i _ => l.length - (intOf i).toNat)
  case atStart => exact ⟨0, Nat.zero_le _, rfl, rfl, Kp.refl _⟩
  case round =>
    obtain ⟨k, hk, rfl, heq, hK⟩ := hrel
    by_cases hlt : k < l.length
    · obtain ⟨bb, off, rfl, hbb, e0, e1⟩ := hl.at_ k hlt
      obtain ⟨bb', off', rfl, hbb', e0', e1'⟩ := hl'.at_ k (by have := Hlen.out; omega)
      have hbl := hbb.lt
      have hbl' := hbb'.lt
      have k0 : (0 : Int) ≤ k := by omega
      have k1 : (k : Int) < l.length := by omega
      have k2 : (k : Int) < l'.length := by have := Hlen.out; omega
      have ht := List.take_succ_eq_append_getElem hlt
      have ht' := List.take_succ_eq_append_getElem (l := l') (i := k) (by have := Hlen.out; omega)
      by_cases hv : l[k] = l'[k]'(by have := Hlen.out; omega)
      · have h1 : (l[k].1 == (l'[k]'(by have := Hlen.out; omega)).1) = true := by rw [hv]; exact beq_self_eq_true _
        have h2 : (l[k].2 == (l'[k]'(by have := Hlen.out; omega)).2) = true := by rw [hv]; exact beq_self_eq_true _
        have hx : Hid (l.take (k + 1) = l'.take (k + 1)) := by show _ = _; rw [ht, ht', heq.out, hv]
        clear ht ht' hv heq
        go_wp2_with fail
        go_region_held3 (Kp w) (first | assumption | exact hK.drew) (fail)
        rename_i hKp
        go_wp2
        go_roundw
        case rel => exact ⟨k + 1, by omega, by simp, hx, hKp⟩
        case measure => simp [intOf]; omega
      · have hx : Hid (decide (l = l') = false) := by
          show _ = _
          rw [decide_eq_false_iff_not]
          intro h
          subst h
          exact hv rfl
        by_cases hv1 : l[k].1 = (l'[k]'(by have := Hlen.out; omega)).1
        · have h1 : (l[k].1 == (l'[k]'(by have := Hlen.out; omega)).1) = true := by rw [hv1]; exact beq_self_eq_true _
          have h2 : (l[k].2 == (l'[k]'(by have := Hlen.out; omega)).2) = false := by
            rw [beq_eq_false_iff_ne]; intro h2; exact hv (Prod.ext hv1 h2)
          clear ht ht' hv heq hv1
          go_wp2_with fail
          go_region_held3 (Kp w) (first | assumption | exact hK.drew) (fail)
          rename_i hKp
          go_wp2
          go_ret
          exact ⟨by rw [hx.out]; rfl, hKp.1⟩
        · have h1 : (l[k].1 == (l'[k]'(by have := Hlen.out; omega)).1) = false := by rw [beq_eq_false_iff_ne]; exact hv1
          clear ht ht' hv heq hv1
          go_wp2_with fail
          go_region_held3 (Kp w) (first | assumption | exact hK.drew) (fail)
          rename_i hKp
          go_wp2
          go_ret
          exact ⟨by rw [hx.out]; rfl, hKp.1⟩
    · have k1 : ¬ (k : Int) < l.length := by omega
      have hx : Hid (decide (l = l') = true) := by
        show _ = _
        rw [decide_eq_true_iff]
        have h := heq.out
        rw [List.take_of_length_le (by omega), List.take_of_length_le (by have := Hlen.out; omega)] at h
        exact h
      clear heq
      go_wp2
      go_ret
      exact ⟨by rw [hx.out]; rfl, hK.1⟩
end Go.Proofs.Ytjjdmhbljagokaa
