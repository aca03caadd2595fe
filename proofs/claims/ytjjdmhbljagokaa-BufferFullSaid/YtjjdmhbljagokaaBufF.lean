/- The place of a store: slices.IndexFunc with the program's function. -/
import Derived.Test.YtjjdmhbljagokaaBufB
namespace Go.Proofs.Ytjjdmhbljagokaa
open Go.RowKit

/-- The first place of a store to a variable. -/
def idxL (v : Int) (l : List (Int × Int)) : Int := if l.findIdx (fun y => y.1 == v) < l.length then (l.findIdx (fun y => y.1 == v) : Nat) else -1
theorem idxL_hit {v : Int} {l : List (Int × Int)} {k : Nat} (hk : k < l.length) (hv : l[k].1 = v) (h : ∀ j (hj : j < l.length), j < k → l[j].1 ≠ v) : idxL v l = k := by
  have e : l.findIdx (fun y => y.1 == v) = k := by
    rw [List.findIdx_eq hk]
    exact ⟨by simpa using hv, fun j hj => by simpa using h j (by omega) hj⟩
  unfold idxL
  rw [e, if_pos hk]
theorem idxL_none {v : Int} {l : List (Int × Int)} (h : ∀ j (hj : j < l.length), l[j].1 ≠ v) : idxL v l = -1 := by
  have e : l.findIdx (fun y => y.1 == v) = l.length := by
    rw [List.findIdx_eq_length]
    intro x hx
    obtain ⟨j, hj, rfl⟩ := List.getElem_of_mem hx
    simpa using h j hj
  unfold idxL
  rw [e, if_neg (Nat.lt_irrefl _)]

set_option maxHeartbeats 1000000 in
theorem is_any (p q v : Int) (b o : Nat) (w : World) (hb : b < w.heap.size) (hc : w.cell? ⟨b, o, none⟩ = some (.int .i64 v)) :
    Calls Try.prog 23 #[.agg #[.int .i64 p, .int .i64 q], .pointer (some ⟨b, o, none⟩)] w fun e w' => e = .returned (.bool (p == v)) ∧ Below w.heap.size w w' := by
  go_enter Try.func23, Try.ntmps23
  go_wp2_with fail
  go_ret
  exact ⟨rfl, (Below.refl _ _).alloc (Nat.le_refl _) _⟩

set_option maxHeartbeats 2000000 in
theorem index_any (a : Option Addr) (n cap : Nat) (l : List (Int × Int)) (v : Int) (b : Nat) (w : World) (hl : EnIn w (In_ w) a n cap l) (hb : b < w.heap.size) (hc : w.cell? ⟨b, 0, none⟩ = some (.int .i64 v)) :
    Calls Try.prog 22 #[.slice a n cap, .func (.func 23) #[] #[.pointer (some ⟨b, 0, none⟩)]] w fun e w' => e = .returned (.int .i64 (idxL v l)) ∧ Below w.heap.size w w' := by
  have hn := hl.1
  subst hn
  have hcap := hl.2.le
  have hmx := hl.2.mx
  unfold maxLen at hmx
  go_enter Try.func22, Try.ntmps22
  go_wp2_with fail
  go_loopw [8] (fun i wr => ∃ k : Nat, k ≤ l.length ∧ i = .int .i64 k ∧ Hid (∀ j (hj : j < l.length), j < k → l[j].1 ≠ v) ∧ Kp w wr) (fun i _ => l.length - (intOf i).toNat)
  case atStart => exact ⟨0, Nat.zero_le _, rfl, fun j _ h => absurd h (by omega), Kp.refl _⟩
  case round =>
    obtain ⟨k, hk, rfl, hno, hK⟩ := hrel
    by_cases hlt : k < l.length
    · obtain ⟨bb, off, rfl, hbb, e0, e1⟩ := hl.at_ k hlt
      have hbl := hbb.lt
      have k0 : (0 : Int) ≤ k := by omega
      have k1 : (k : Int) < l.length := by omega
      have g0 : b < wr.heap.size := by have := hK.1.size; omega
      have hc1 : wr.cell? ⟨b, 0, none⟩ = some (.int .i64 v) := (hK.2 b 0 hb).trans hc
      by_cases hv : l[k].1 = v
      · have hv1 : (l[k].1 == v) = true := by simpa using hv
        have hx : Hid (idxL v l = k) := idxL_hit hlt hv hno.out
        clear hno hv
        go_wp2_with (first | (go_at_call 23; (with_reducible refine (is_any l[k].1 l[k].2 v b 0 wr g0 hc1).mono ?_); rintro e w1 ⟨rfl, hb1⟩) | fail)
        go_ret
        exact ⟨by rw [hx.out]; rfl, hK.1.trans (hb1.mono hK.1.size)⟩
      · have hv1 : (l[k].1 == v) = false := by simpa using hv
        have hno2 : Hid (∀ j (hj : j < l.length), j < k + 1 → l[j].1 ≠ v) := fun j hj hjk => by
          rcases Nat.lt_succ_iff_lt_or_eq.1 hjk with h | rfl
          · exact hno.out j hj h
          · exact hv
        clear hno hv
        go_wp2_with (first | (go_at_call 23; (with_reducible refine (is_any l[k].1 l[k].2 v b 0 wr g0 hc1).mono ?_); rintro e w1 ⟨rfl, hb1⟩) | fail)
        go_roundw
        case rel => exact ⟨k + 1, by omega, by simp, hno2, hK.next hb1⟩
        case measure => simp [intOf]; omega
    · have k1 : ¬ (k : Int) < l.length := by omega
      have hx : Hid (idxL v l = -1) := idxL_none fun j hj => hno.out j hj (by omega)
      clear hno
      go_wp2
      go_ret
      exact ⟨by rw [hx.out]; rfl, hK.1⟩
end Go.Proofs.Ytjjdmhbljagokaa
