/- The document's words: runs. -/
import Derived.Test.YteomcjfnghbikaaDoorLexH
namespace Go.Proofs.YteomcjfnghbikaaDoor
open Go.RowKit

set_option maxHeartbeats 4000000 in
theorem refRun_digit (s : ByteArray) (w : World) (hs : s.size ≤ 100000) :
    Calls Tryd.prog 28 #[.string s, .bool true] w fun e w' => e = .returned (.int .i64 (runP digitB s.data.toList)) ∧ w = w' := by
  go_enter Tryd.func28, Tryd.ntmps28
  go_wp2_with fail
  go_loopw [5] (fun i wr => ∃ k : Nat, k ≤ s.size ∧ i = .int .i64 k ∧ Hid (runP digitB s.data.toList = k + runP digitB (s.data.toList.drop k)) ∧ w = wr) (fun i _ => s.size - (intOf i).toNat)
  case atStart => exact ⟨0, Nat.zero_le _, rfl, by simp [Hid], rfl⟩
  case round =>
    obtain ⟨k, hk, rfl, hp, hw⟩ := hrel
    subst hw
    by_cases hlt : k < s.size
    · have k0 : (0 : Int) ≤ k := by omega
      have k1 : (k : Int) < s.size := by omega
      have hd := hid (drop_byte s k hlt)
      have hdi := fun w => digitR_any s[k] w
      have hle := fun w => letterR_any s[k] w
      have hpb : Hid (partB s[k] = (letterB s[k] || digitB s[k])) := rfl
      cases hD : digitB s[k] <;> cases hL : letterB s[k]
      all_goals
        rw [hD, hL] at hpb
        simp only [hD] at hdi
        simp only [hL] at hle
        have hb := hD
        have hp2 := hp.out
        rw [hd.out] at hp2
        first | rw [runP_cons_pos hb] at hp2 | rw [runP_cons_neg hb] at hp2
        have hp2 := hid hp2
        clear hp hd hD hL hb hpb
        go_wp2_with (first
          | (go_at_call 29; refine (hdi _).mono ?_; rintro e w1 ⟨rfl, rfl⟩)
          | fail)
        first
          | (go_ret; exact ⟨ret_int (by rw [hp2.out]; simp), rfl⟩)
          | (go_roundw
             case rel => exact ⟨k + 1, by omega, by simp, (by show _ = _; rw [hp2.out]; omega), by trivial⟩
             case measure => simp [intOf]; omega)
    · obtain rfl : k = s.size := by omega
      have hp2 : Hid (runP digitB s.data.toList = s.size) := by
        show _ = _
        rw [hp.out, List.drop_eq_nil_of_le (Nat.le_of_eq (data_len s)), runP_nil]; omega
      clear hp
      go_wp2_with fail
      go_ret
      exact ⟨ret_int (by rw [hp2.out]), rfl⟩

set_option maxHeartbeats 4000000 in
set_option linter.unusedSimpArgs false in
theorem refRun_part (s : ByteArray) (w : World) (hs : s.size ≤ 100000) :
    Calls Tryd.prog 28 #[.string s, .bool false] w fun e w' => e = .returned (.int .i64 (runP partB s.data.toList)) ∧ w = w' := by
  go_enter Tryd.func28, Tryd.ntmps28
  go_wp2_with fail
  go_loopw [5] (fun i wr => ∃ k : Nat, k ≤ s.size ∧ i = .int .i64 k ∧ Hid (runP partB s.data.toList = k + runP partB (s.data.toList.drop k)) ∧ w = wr) (fun i _ => s.size - (intOf i).toNat)
  case atStart => exact ⟨0, Nat.zero_le _, rfl, by simp [Hid], rfl⟩
  case round =>
    obtain ⟨k, hk, rfl, hp, hw⟩ := hrel
    subst hw
    by_cases hlt : k < s.size
    · have k0 : (0 : Int) ≤ k := by omega
      have k1 : (k : Int) < s.size := by omega
      have hd := hid (drop_byte s k hlt)
      have hdi := fun w => digitR_any s[k] w
      have hle := fun w => letterR_any s[k] w
      have hpb : Hid (partB s[k] = (letterB s[k] || digitB s[k])) := rfl
      cases hD : digitB s[k] <;> cases hL : letterB s[k]
      all_goals
        rw [hD, hL] at hpb
        simp only [hD] at hdi
        simp only [hL] at hle
        have hb := hpb.out
        simp only [Bool.or_true, Bool.or_false, Bool.true_or, Bool.false_or] at hb
        have hp2 := hp.out
        rw [hd.out] at hp2
        first | rw [runP_cons_pos hb] at hp2 | rw [runP_cons_neg hb] at hp2
        have hp2 := hid hp2
        clear hp hd hD hL hb hpb
        go_wp2_with (first
          | (go_at_call 29; refine (hdi _).mono ?_; rintro e w1 ⟨rfl, rfl⟩)
          | (go_at_call 27; refine (hle _).mono ?_; rintro e w1 ⟨rfl, rfl⟩)
          | fail)
        first
          | (go_ret; exact ⟨ret_int (by rw [hp2.out]; simp), rfl⟩)
          | (go_roundw
             case rel => exact ⟨k + 1, by omega, by simp, (by show _ = _; rw [hp2.out]; omega), by trivial⟩
             case measure => simp [intOf]; omega)
    · obtain rfl : k = s.size := by omega
      have hp2 : Hid (runP partB s.data.toList = s.size) := by
        show _ = _
        rw [hp.out, List.drop_eq_nil_of_le (Nat.le_of_eq (data_len s)), runP_nil]; omega
      clear hp
      go_wp2_with fail
      go_ret
      exact ⟨ret_int (by rw [hp2.out]), rfl⟩

end Go.Proofs.YteomcjfnghbikaaDoor
