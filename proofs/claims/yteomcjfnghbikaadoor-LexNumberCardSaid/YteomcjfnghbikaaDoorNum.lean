/- LexNumber's walk. -/
import Derived.Test.YteomcjfnghbikaaDoorLexU
namespace Go.Proofs.YteomcjfnghbikaaDoor
open Go.RowKit

theorem conv_one (w : World) (x : Int) : (convert 24 9 (.slice (some ⟨w.heap.size, 0, none⟩) 1 1)).run Tryd.prog (w.alloc (.cells #[.int .u8 x] 5)) = .ok (.string (strOfNums [x])) (w.alloc (.cells #[.int .u8 x] 5)) :=
  run_convert_bytes_arg (P := Tryd.prog) _ 24 5 Tryd.underlying24 Tryd.underlying5 w.heap.size 0 1 1 [x] rfl (fun i hi => by
    obtain rfl : i = 0 := by omega
    go_simp) 9 Tryd.underlying9
def flagN : Value → Nat
  | .bool true => 1
  | _ => 0
theorem one_size (x : Int) : (strOfNums [x]).size = 1 := rfl

set_option maxRecDepth 100000 in
set_option maxHeartbeats 8000000 in
theorem lexNumber_walk (n m : Nat) (w : World) (hv : Vars w) (hn : n < 4294967296) (hm : m < 256) :
    Calls Tryd.prog 7 #[.int .u32 n, .int .u8 m] w fun e w' => e = .returned (.bool true) ∧ Below w.heap.size w w' := by
  have m0 : (0 : Int) ≤ m := by omega
  have m1 : (m : Int) < 256 := by omega
  have n0 : (0 : Int) ≤ n := by omega
  have n1 : (n : Int) < 4294967296 := by omega
  have htm : (m : Int).tmod 3 = ((m % 3 : Nat) : Int) := by rw [Int.tmod_eq_emod_of_nonneg (by omega)]; omega
  have hmm : (m : Int) % 3 = ((m % 3 : Nat) : Int) := by omega
  have hm3 : m % 3 < 3 := Nat.mod_lt _ (by decide)
  generalize m % 3 = q at htm hmm hm3
  go_enter Tryd.func7, Tryd.ntmps7
  go_wp2_with fail
  go_loopw [5, 6] (fun v i wr => ∃ (k : Nat) (s : ByteArray), k ≤ q ∧ v = .string s ∧ i = .int .i64 k ∧ s.size ≤ k ∧ w = wr) (fun _ i _ => q - (intOf i).toNat)
  case atStart => exact ⟨0, ⟨#[]⟩, Nat.zero_le _, rfl, rfl, by decide, rfl⟩
  case round =>
    obtain ⟨k, s, hk, rfl, rfl, hsz, hw⟩ := hrel
    subst hw
    by_cases hlt : k < q
    · have k0 : (0 : Int) ≤ k := by omega
      have k1 : (k : Int) < q := by omega
      have d1 : decide ((k : Int) < q) = true := decide_eq_true k1
      have hsmall : s.size ≤ 1000 := by omega
      go_wp2_with fail
      exact ⟨⟨k + 1, _, hlt, rfl, by simp, by rw [ByteArray.size_append]; have : (⟨#[48]⟩ : ByteArray).size = 1 := rfl; omega, trivial⟩, by simp [intOf]; omega⟩
    · obtain rfl : k = q := by omega
      have d1 : decide ((k : Int) < k) = false := decide_eq_false (by omega)
      have htn : (n : Int).tmod 100000000 = ((n % 100000000 : Nat) : Int) := by rw [Int.tmod_eq_emod_of_nonneg (by omega)]; omega
      have hnn : (n : Int) % 100000000 = ((n % 100000000 : Nat) : Int) := by omega
      have hn8 : n % 100000000 < 100000000 := Nat.mod_lt _ (by decide)
      generalize n % 100000000 = z at htn hnn hn8
      go_wp2_with fail
      go_loopw [7, 8, 9] (fun kv tv fv wr => ∃ (j : Nat) (t : ByteArray) (f : Bool), kv = .int .i64 j ∧ tv = .string t ∧ fv = .bool f ∧ t.size ≤ 8 ∧ j < 10 ^ (8 - t.size) ∧ (f = true → t.size = 0) ∧ Kp w wr)
        (fun kv _ fv _ => (intOf kv).toNat + flagN fv)
      case atStart => exact ⟨z, ⟨#[]⟩, true, rfl, rfl, rfl, by decide, Nat.lt_of_lt_of_le hn8 (by decide), fun _ => rfl, Kp.refl _⟩
      case round =>
        obtain ⟨j, t, f, rfl, rfl, rfl, ht8, hj, hf, hK⟩ := hrel
        have j0 : (0 : Int) ≤ j := by omega
        have hpw : 10 ^ (8 - t.size) ≤ 10 ^ 8 := Nat.pow_le_pow_right (by omega) (by omega)
        have j1 : (j : Int) < 1000000000 := by omega
        by_cases hgo : f = true ∨ 0 < j
        · have ht7 : t.size < 8 := by
            rcases hgo with h | h
            · rw [hf h]; decide
            · rcases Nat.lt_or_ge t.size 8 with h8 | h8
              · exact h8
              · have : 8 - t.size = 0 := by omega
                rw [this] at hj
                omega
          have hor : f = true ∨ (f = false ∧ decide ((0 : Int) < j) = true) := by
            rcases hgo with h | h
            · exact .inl h
            · cases f
              · exact .inr ⟨rfl, decide_eq_true (by omega)⟩
              · exact .inl rfl
          have hj2 : j / 10 < 10 ^ (8 - (t.size + 1)) := by
            have e : 8 - t.size = (8 - (t.size + 1)) + 1 := by omega
            rw [e, Nat.pow_succ] at hj
            omega
          have hjt : (j : Int).tmod 10 = ((j % 10 : Nat) : Int) := by rw [Int.tmod_eq_emod_of_nonneg (by omega)]; omega
          have hje : (j : Int) % 10 = ((j % 10 : Nat) : Int) := by omega
          have hjq : (j : Int).tdiv 10 = ((j / 10 : Nat) : Int) := by rw [Int.tdiv_eq_ediv_of_nonneg (by omega)]; omega
          have hjd : (j : Int) / 10 = ((j / 10 : Nat) : Int) := by omega
          have hd10 : j % 10 < 10 := Nat.mod_lt _ (by decide)
          have hmeas : f = true ∨ j / 10 < j := by
            rcases hgo with h | h
            · exact .inl h
            · exact .inr (by omega)
          have hle : j / 10 ≤ j := Nat.div_le_self _ _
          generalize j % 10 = d at hjt hje hd10
          generalize j / 10 = e at hj2 hjq hjd hmeas hle
          have hcv := conv_one wr (48 + (d : Int))
          have hsz1 := one_size (48 + (d : Int))
          generalize strOfNums [48 + (d : Int)] = z1 at hcv hsz1
          have d0 : (0 : Int) ≤ 48 + (d : Int) := by omega
          have d1 : 48 + (d : Int) < 256 := by omega
          have hsm : t.size ≤ 1000 := by omega
          have hsm1 : z1.size ≤ 1000 := by omega
          have Hj2 := hid hj2
          have Ht8 := hid ht8
          have Hmeas := hid hmeas
          clear hmeas hf
          clear hgo hj hpw hj2 ht8
          have hK2 : Kp w (wr.alloc (.cells #[.int .u8 (48 + (d : Int))] 5)) := hK.alloc _
          have hts : (z1 ++ t).size = t.size + 1 := by rw [ByteArray.size_append]; omega
          obtain ⟨J, hJ⟩ : ∃ J : Int, (j : Int) = J := ⟨_, rfl⟩
          rw [hJ] at hjt hje hjq hjd j0 j1 hor ⊢
          have HJ := hid hJ
          clear hJ
          rcases hor with rfl | ⟨rfl, hd⟩
          · go_wp2_with fail
            refine ⟨⟨e, _, false, rfl, rfl, rfl, by rw [hts]; omega, by rw [hts]; exact Hj2.out, fun h => (by cases h), hK2⟩, ?_⟩
            have := HJ.out
            simp [intOf, flagN]
            omega
          · have hd' : (0 : Int) < J := of_decide_eq_true hd
            have hd2 : ¬ J ≤ 0 := by omega
            clear hd
            go_wp2_with fail
            refine ⟨⟨e, _, false, rfl, rfl, rfl, by rw [hts]; omega, by rw [hts]; exact Hj2.out, fun h => (by cases h), hK2⟩, ?_⟩
            have := HJ.out
            have := Hmeas.out
            simp at this
            simp [intOf, flagN]
            omega
        · have hff : f = false := by cases f; rfl; exact absurd (.inl rfl) hgo
          obtain rfl : j = 0 := by omega
          subst hff
          have h1 := awake_any wr (hv.below hK.1 hv.size)
          have hss : s.size ≤ 1000 := by omega
          have htt : t.size ≤ 1000 := by omega
          have hst : (s ++ t).size ≤ 1000 := by rw [ByteArray.size_append]; omega
          clear hgo hf hj
          go_wp2_with (first
            | (go_at_call 8; refine h1.mono ?_; clear h1; rintro e w1 ⟨rfl, hB1⟩
               have hB01 := hK.1.trans (hB1.mono hK.1.size)
               have hv1 := hv.next hB01
               have g1 := same_law (s ++ t) w1 hv1)
            | (go_at_call 9; refine g1.mono ?_; clear g1; rintro e w2 ⟨rfl, hB2⟩
               have hB02 := hB01.trans (hB2.mono hB01.size)
               have hv2 := hv.next hB02
               have g2 := same_law (⟨#[114]⟩ ++ t) w2 hv2)
            | (go_at_call 9; refine g2.mono ?_; clear g2; rintro e w3 ⟨rfl, hB3⟩
               have hB03 := hB02.trans (hB3.mono hB02.size)
               have hv3 := hv.next hB03
               have g3 := same_law ((s ++ t) ++ ⟨#[120]⟩) w3 hv3)
            | (go_at_call 9; refine g3.mono ?_; clear g3; rintro e w4 ⟨rfl, hB4⟩
               have hB04 := hB03.trans (hB4.mono hB03.size))
            | fail)
          go_ret
          exact ⟨rfl, hB04⟩
end Go.Proofs.YteomcjfnghbikaaDoor
