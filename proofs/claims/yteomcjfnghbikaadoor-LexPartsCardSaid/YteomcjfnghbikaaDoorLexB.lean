/- How many bytes ahead are so: the program's run, passed a function. -/
import Derived.Test.YteomcjfnghbikaaDoorLexA
namespace Go.Proofs.YteomcjfnghbikaaDoor
open Go.RowKit

theorem data_len (s : ByteArray) : s.data.toList.length = s.size := rfl
theorem drop_byte (s : ByteArray) (k : Nat) (h : k < s.size) : s.data.toList.drop k = s[k] :: s.data.toList.drop (k + 1) := by
  rw [List.drop_eq_getElem_cons (by rw [data_len]; exact h)]
  rfl

set_option maxHeartbeats 2000000 in
theorem run_part (s : ByteArray) (w : World) (hs : s.size ≤ 100000) :
    Calls Tryd.prog 24 #[.string s, .func (.func 25) #[] #[]] w fun e w' => e = .returned (.int .i64 (runP partB s.data.toList)) ∧ w = w' := by
  go_enter Tryd.func24, Tryd.ntmps24
  go_wp2_with fail
  go_loopw [8] (fun i wr => ∃ k : Nat, k ≤ s.size ∧ i = .int .i64 k ∧ Hid (runP partB s.data.toList = k + runP partB (s.data.toList.drop k)) ∧ wr = w) (fun i _ => s.size - (intOf i).toNat)
  case atStart => exact ⟨0, Nat.zero_le _, rfl, by simp [Hid], rfl⟩
  case round =>
    obtain ⟨k, hk, rfl, hp, hw⟩ := hrel
    subst hw
    by_cases hlt : k < s.size
    · have k0 : (0 : Int) ≤ k := by omega
      have k1 : (k : Int) < s.size := by omega
      have hd := hid (drop_byte s k hlt)
      cases hb : partB s[k] with
      | true =>
        have hp2 : Hid (runP partB s.data.toList = (k + 1 : Nat) + runP partB (s.data.toList.drop (k + 1))) := by
          show _ = _
          rw [hp.out, hd.out, runP_cons_pos hb]; omega
        clear hp hd
        go_wp2_with (first
          | (go_at_call 25; refine (part_any s[k] _).mono ?_; rintro e w1 ⟨rfl, rfl⟩)
          | fail)
        go_roundw
        case rel => exact ⟨k + 1, by omega, by simp, hp2, by trivial⟩
        case measure => simp [intOf]; omega
      | false =>
        have hp2 : Hid (runP partB s.data.toList = k) := by
          show _ = _
          rw [hp.out, hd.out, runP_cons_neg hb]; omega
        clear hp hd
        go_wp2_with (first
          | (go_at_call 25; refine (part_any s[k] _).mono ?_; rintro e w1 ⟨rfl, rfl⟩)
          | fail)
        go_ret
        exact ⟨ret_int (by rw [hp2.out]), rfl⟩
    · obtain rfl : k = s.size := by omega
      have hp2 : Hid (runP partB s.data.toList = s.size) := by
        show _ = _
        rw [hp.out, List.drop_eq_nil_of_le (Nat.le_of_eq (data_len s)), runP_nil]; omega
      clear hp
      go_wp2_with fail
      go_ret
      exact ⟨ret_int (by rw [hp2.out]), rfl⟩

set_option maxHeartbeats 2000000 in
theorem run_digit (s : ByteArray) (w : World) (hs : s.size ≤ 100000) :
    Calls Tryd.prog 24 #[.string s, .func (.func 33) #[] #[]] w fun e w' => e = .returned (.int .i64 (runP digitB s.data.toList)) ∧ w = w' := by
  go_enter Tryd.func24, Tryd.ntmps24
  go_wp2_with fail
  go_loopw [8] (fun i wr => ∃ k : Nat, k ≤ s.size ∧ i = .int .i64 k ∧ Hid (runP digitB s.data.toList = k + runP digitB (s.data.toList.drop k)) ∧ wr = w) (fun i _ => s.size - (intOf i).toNat)
  case atStart => exact ⟨0, Nat.zero_le _, rfl, by simp [Hid], rfl⟩
  case round =>
    obtain ⟨k, hk, rfl, hp, hw⟩ := hrel
    subst hw
    by_cases hlt : k < s.size
    · have k0 : (0 : Int) ≤ k := by omega
      have k1 : (k : Int) < s.size := by omega
      have hd := hid (drop_byte s k hlt)
      cases hb : digitB s[k] with
      | true =>
        have hp2 : Hid (runP digitB s.data.toList = (k + 1 : Nat) + runP digitB (s.data.toList.drop (k + 1))) := by
          show _ = _
          rw [hp.out, hd.out, runP_cons_pos hb]; omega
        clear hp hd
        go_wp2_with (first
          | (go_at_call 33; refine (digit_any s[k] _).mono ?_; rintro e w1 ⟨rfl, rfl⟩)
          | fail)
        go_roundw
        case rel => exact ⟨k + 1, by omega, by simp, hp2, by trivial⟩
        case measure => simp [intOf]; omega
      | false =>
        have hp2 : Hid (runP digitB s.data.toList = k) := by
          show _ = _
          rw [hp.out, hd.out, runP_cons_neg hb]; omega
        clear hp hd
        go_wp2_with (first
          | (go_at_call 33; refine (digit_any s[k] _).mono ?_; rintro e w1 ⟨rfl, rfl⟩)
          | fail)
        go_ret
        exact ⟨ret_int (by rw [hp2.out]), rfl⟩
    · obtain rfl : k = s.size := by omega
      have hp2 : Hid (runP digitB s.data.toList = s.size) := by
        show _ = _
        rw [hp.out, List.drop_eq_nil_of_le (Nat.le_of_eq (data_len s)), runP_nil]; omega
      clear hp
      go_wp2_with fail
      go_ret
      exact ⟨ret_int (by rw [hp2.out]), rfl⟩

end Go.Proofs.YteomcjfnghbikaaDoor
