/- Lists of numbers in memory; ints. -/
import Derived.Test.YtjjdmhbljagokaaBufB
namespace Go.Proofs.Ytjjdmhbljagokaa
open Go.RowKit

/-- A list of numbers lies where a slice leads. -/
def IntIn (w : World) (S : Nat → Prop) (a : Option Addr) (n cap : Nat) (l : List Int) : Prop :=
  n = l.length ∧ Sl w S 1 a l.length cap (fun i => [.int .i64 (l[i]?.getD 0)])
namespace IntIn
variable {w w' : World} {S S' : Nat → Prop} {a : Option Addr} {n cap : Nat} {l : List Int}
theorem keep (h : IntIn w S a n cap l) (hk : ∀ b o, S b → w'.cell? ⟨b, o, none⟩ = w.cell? ⟨b, o, none⟩) : IntIn w' S a n cap l := ⟨h.1, h.2.keep hk⟩
theorem widen (h : IntIn w S a n cap l) (hS : ∀ b, S b → S' b) : IntIn w S' a n cap l := ⟨h.1, h.2.widen hS⟩
theorem at_ (h : IntIn w S a n cap l) (i : Nat) (hi : i < l.length) : ∃ b off, a = some ⟨b, off, none⟩ ∧ S b ∧ w.cell? ⟨b, off + i, none⟩ = some (.int .i64 l[i]) := by
  obtain ⟨b, off, rfl, hb, hc⟩ := h.2.at_ (by omega)
  refine ⟨b, off, rfl, hb, ?_⟩
  have := hc i hi 0 (by omega)
  simpa [hi] using this
theorem nil_ : IntIn w S none 0 0 [] := ⟨rfl, Sl.nil⟩
end IntIn
theorem Kp.ints {W0 w : World} (h : Kp W0 w) {a : Option Addr} {n cap : Nat} {l : List Int} (hx : IntIn W0 (In_ W0) a n cap l) : IntIn w (In_ w) a n cap l := (hx.keep fun b o hb => h.2 b o hb).widen (In_.mono h.1.size)

set_option maxHeartbeats 2000000 in
theorem ints_any (a a' : Option Addr) (n cap n' cap' : Nat) (l l' : List Int) (w : World) (hl : IntIn w (In_ w) a n cap l) (hl' : IntIn w (In_ w) a' n' cap' l') :
    Calls Try.prog 18 #[.slice a n cap, .slice a' n' cap'] w fun e w' => e = .returned (.bool (decide (l = l'))) ∧ Below w.heap.size w w' := by
  have hn := hl.1
  have hn' := hl'.1
  subst hn hn'
  have hcap := hl.2.le
  have hmx := hl.2.mx
  have hcap' := hl'.2.le
  have hmx' := hl'.2.mx
  unfold maxLen at hmx hmx'
  by_cases hlen : l.length = l'.length
  case neg =>
    have hb : ((l.length : Int) != l'.length) = true := by rw [bne_iff_ne]; omega
    have hne : Hid (decide (l = l') = false) := by show _ = _; rw [decide_eq_false_iff_not]; intro h; rw [h] at hlen; exact hlen rfl
    go_enter Try.func18, Try.ntmps18
    go_wp2
    go_ret
    exact ⟨by rw [hne.out]; rfl, Below.refl _ _⟩
  have hb : ((l.length : Int) != l'.length) = false := by rw [bne_eq_false_iff_eq]; omega
  have Hlen := hid hlen
  clear hlen
  go_enter Try.func18, Try.ntmps18
  go_wp2_with fail
  go_loopw [5] (fun i wr => ∃ k : Nat, k ≤ l.length ∧ i = .int .i64 k ∧ Hid (l.take k = l'.take k) ∧ Kp w wr) (fun i _ => l.length - (intOf i).toNat)
  case atStart => exact ⟨0, Nat.zero_le _, rfl, rfl, Kp.refl _⟩
  case round =>
    obtain ⟨k, hk, rfl, heq, hK⟩ := hrel
    by_cases hlt : k < l.length
    · obtain ⟨bb, off, rfl, hbb, e0⟩ := hl.at_ k hlt
      obtain ⟨bb', off', rfl, hbb', e0'⟩ := hl'.at_ k (by have := Hlen.out; omega)
      have hbl := hbb.lt
      have hbl' := hbb'.lt
      have k0 : (0 : Int) ≤ k := by omega
      have k1 : (k : Int) < l.length := by omega
      have k2 : (k : Int) < l'.length := by have := Hlen.out; omega
      have ht := List.take_succ_eq_append_getElem hlt
      have ht' := List.take_succ_eq_append_getElem (l := l') (i := k) (by have := Hlen.out; omega)
      by_cases hv : l[k] = l'[k]'(by have := Hlen.out; omega)
      · have h1 : (l[k] != (l'[k]'(by have := Hlen.out; omega))) = false := by rw [hv]; exact bne_self_eq_false _
        have hx : Hid (l.take (k + 1) = l'.take (k + 1)) := by show _ = _; rw [ht, ht', heq.out, hv]
        clear ht ht' hv heq
        go_wp2_with fail
        go_quiet (fail)
        go_wp2
        go_roundw
        case rel => exact ⟨k + 1, by omega, by simp, hx, drewN_kp hK nq⟩
        case measure => simp [intOf]; omega
      · have hx : Hid (decide (l = l') = false) := by
          show _ = _
          rw [decide_eq_false_iff_not]
          intro h
          subst h
          exact hv rfl
        have h1 : (l[k] != (l'[k]'(by have := Hlen.out; omega))) = true := by rw [bne_iff_ne]; exact hv
        clear ht ht' hv heq
        go_wp2_with fail
        go_quiet (fail)
        go_wp2
        go_ret
        exact ⟨by rw [hx.out]; rfl, (drewN_kp hK nq).1⟩
    · have k1 : ¬ (k : Int) < l.length := by omega
      have hx : Hid (decide (l = l') = true) := by
        show _ = _
        rw [decide_eq_true_iff]
        have h := heq.out
        rw [List.take_of_length_le (by omega), List.take_of_length_le (by have := Hlen.out; omega)] at h
        exact h
      clear heq
      go_wp2
      go_ret
      exact ⟨by rw [hx.out]; rfl, hK.1⟩
end Go.Proofs.Ytjjdmhbljagokaa
