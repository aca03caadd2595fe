/- What a byte is; the run ahead of a text. -/
import Derived.Test.YtcgpobeidlimkaaGreatDoorLexN
import Derived.Test.YtcgpobeidlimkaaGreatDoorApp
import Derived.Test.YtcgpobeidlimkaaGreatDoorRows
import Derived.Test.YtcgpobeidlimkaaGreatDoorKp
import Derived.BigQuiet
import Derived.Deep.QuietTactic
import Derived.Lib.Strings
namespace Go.Proofs.YtcgpobeidlimkaaGreatDoor
open Go.RowKit

theorem letterB_int (c : UInt8) : letterB c = (decide ((97 : Int) ≤ c.toNat) && decide ((c.toNat : Int) ≤ 122)) := by
  unfold letterB
  congr 1 <;> (apply decide_eq_decide.2; omega)
theorem digitB_int (c : UInt8) : digitB c = (decide ((48 : Int) ≤ c.toNat) && decide ((c.toNat : Int) ≤ 57)) := by
  unfold digitB
  congr 1 <;> (apply decide_eq_decide.2; omega)

set_option maxHeartbeats 1000000 in
theorem letter_any (c : UInt8) (w : World) : Calls Tryz.prog 63 #[.int .u8 c.toNat] w fun e w' => e = .returned (.bool (letterB c)) ∧ w = w' := by
  rw [letterB_int]
  by_cases h : (97 : Int) ≤ c.toNat <;> by_cases h' : (c.toNat : Int) ≤ 122
  all_goals
    first | rw [decide_eq_true h] | rw [decide_eq_false h]
    first | rw [decide_eq_true h'] | rw [decide_eq_false h']
    go_enter Tryz.func63, Tryz.ntmps63
    go_wp2_with fail
    go_ret
    exact ⟨rfl, rfl⟩

set_option maxHeartbeats 1000000 in
theorem digit_any (c : UInt8) (w : World) : Calls Tryz.prog 93 #[.int .u8 c.toNat] w fun e w' => e = .returned (.bool (digitB c)) ∧ w = w' := by
  rw [digitB_int]
  by_cases h : (48 : Int) ≤ c.toNat <;> by_cases h' : (c.toNat : Int) ≤ 57
  all_goals
    first | rw [decide_eq_true h] | rw [decide_eq_false h]
    first | rw [decide_eq_true h'] | rw [decide_eq_false h']
    go_enter Tryz.func93, Tryz.ntmps93
    go_wp2_with fail
    go_ret
    exact ⟨rfl, rfl⟩

set_option maxHeartbeats 1000000 in
theorem letterR_any (c : UInt8) (w : World) : Calls Tryz.prog 57 #[.int .u8 c.toNat] w fun e w' => e = .returned (.bool (letterB c)) ∧ w = w' := by
  rw [letterB_int]
  by_cases h : (97 : Int) ≤ c.toNat <;> by_cases h' : (c.toNat : Int) ≤ 122
  all_goals
    first | rw [decide_eq_true h] | rw [decide_eq_false h]
    first | rw [decide_eq_true h'] | rw [decide_eq_false h']
    go_enter Tryz.func57, Tryz.ntmps57
    go_wp2_with fail
    go_ret
    exact ⟨rfl, rfl⟩

set_option maxHeartbeats 1000000 in
theorem digitR_any (c : UInt8) (w : World) : Calls Tryz.prog 60 #[.int .u8 c.toNat] w fun e w' => e = .returned (.bool (digitB c)) ∧ w = w' := by
  rw [digitB_int]
  by_cases h : (48 : Int) ≤ c.toNat <;> by_cases h' : (c.toNat : Int) ≤ 57
  all_goals
    first | rw [decide_eq_true h] | rw [decide_eq_false h]
    first | rw [decide_eq_true h'] | rw [decide_eq_false h']
    go_enter Tryz.func60, Tryz.ntmps60
    go_wp2_with fail
    go_ret
    exact ⟨rfl, rfl⟩

set_option maxHeartbeats 1000000 in
theorem part_any (c : UInt8) (w : World) : Calls Tryz.prog 65 #[.int .u8 c.toNat] w fun e w' => e = .returned (.bool (partB c)) ∧ w = w' := by
  have hp : Hid (partB c = (letterB c || digitB c)) := rfl
  go_enter Tryz.func65, Tryz.ntmps65
  go_wp2_with (first
    | (go_at_call 63; refine (letter_any c w).mono ?_; rintro e w1 ⟨rfl, rfl⟩)
    | (go_at_call 93; refine (digit_any c w).mono ?_; rintro e w1 ⟨rfl, rfl⟩)
    | fail)
  all_goals go_ret
  all_goals exact ⟨ret_bool (by rw [hp.out]; simp [*]), rfl⟩

theorem data_len (s : ByteArray) : s.data.toList.length = s.size := rfl
theorem drop_byte (s : ByteArray) (k : Nat) (h : k < s.size) : s.data.toList.drop k = s[k] :: s.data.toList.drop (k + 1) := by
  rw [List.drop_eq_getElem_cons (by rw [data_len]; exact h)]
  rfl

set_option maxHeartbeats 2000000 in
theorem run_part (s : ByteArray) (w : World) (hs : s.size ≤ 100000) :
    Calls Tryz.prog 64 #[.string s, .func (.func 65) #[] #[]] w fun e w' => e = .returned (.int .i64 (runP partB s.data.toList)) ∧ w = w' := by
  go_enter Tryz.func64, Tryz.ntmps64
  go_wp2_with fail
  go_loopw [8] (fun i wr => ∃ k : Nat, k ≤ s.size ∧ i = .int .i64 k ∧ Hid (runP partB s.data.toList = k + runP partB (s.data.toList.drop k)) ∧ wr = w) (fun i _ => s.size - (intOf i).toNat)
  case atStart => exact ⟨0, Nat.zero_le _, rfl, by simp [Hid], rfl⟩
  case round =>
    obtain ⟨k, hk, rfl, hp, hw⟩ := hrel
    subst hw
    by_cases hlt : k < s.size
    · have k0 : (0 : Int) ≤ k := by omega
      have k1 : (k : Int) < s.size := by omega
      have hd := hid (drop_byte s k hlt)
      cases hb : partB s[k] with
      | true =>
        have hp2 : Hid (runP partB s.data.toList = (k + 1 : Nat) + runP partB (s.data.toList.drop (k + 1))) := by
          show _ = _
          rw [hp.out, hd.out, runP_cons_pos hb]; omega
        clear hp hd
        go_wp2_with (first
          | (go_at_call 65; refine (part_any s[k] _).mono ?_; rintro e w1 ⟨rfl, rfl⟩)
          | fail)
        go_roundw
        case rel => exact ⟨k + 1, by omega, by simp, hp2, by trivial⟩
        case measure => simp [intOf]; omega
      | false =>
        have hp2 : Hid (runP partB s.data.toList = k) := by
          show _ = _
          rw [hp.out, hd.out, runP_cons_neg hb]; omega
        clear hp hd
        go_wp2_with (first
          | (go_at_call 65; refine (part_any s[k] _).mono ?_; rintro e w1 ⟨rfl, rfl⟩)
          | fail)
        go_ret
        exact ⟨ret_int (by rw [hp2.out]), rfl⟩
    · obtain rfl : k = s.size := by omega
      have hp2 : Hid (runP partB s.data.toList = s.size) := by
        show _ = _
        rw [hp.out, List.drop_eq_nil_of_le (Nat.le_of_eq (data_len s)), runP_nil]; omega
      clear hp
      go_wp2_with fail
      go_ret
      exact ⟨ret_int (by rw [hp2.out]), rfl⟩

set_option maxHeartbeats 2000000 in
theorem run_digit (s : ByteArray) (w : World) (hs : s.size ≤ 100000) :
    Calls Tryz.prog 64 #[.string s, .func (.func 93) #[] #[]] w fun e w' => e = .returned (.int .i64 (runP digitB s.data.toList)) ∧ w = w' := by
  go_enter Tryz.func64, Tryz.ntmps64
  go_wp2_with fail
  go_loopw [8] (fun i wr => ∃ k : Nat, k ≤ s.size ∧ i = .int .i64 k ∧ Hid (runP digitB s.data.toList = k + runP digitB (s.data.toList.drop k)) ∧ wr = w) (fun i _ => s.size - (intOf i).toNat)
  case atStart => exact ⟨0, Nat.zero_le _, rfl, by simp [Hid], rfl⟩
  case round =>
    obtain ⟨k, hk, rfl, hp, hw⟩ := hrel
    subst hw
    by_cases hlt : k < s.size
    · have k0 : (0 : Int) ≤ k := by omega
      have k1 : (k : Int) < s.size := by omega
      have hd := hid (drop_byte s k hlt)
      cases hb : digitB s[k] with
      | true =>
        have hp2 : Hid (runP digitB s.data.toList = (k + 1 : Nat) + runP digitB (s.data.toList.drop (k + 1))) := by
          show _ = _
          rw [hp.out, hd.out, runP_cons_pos hb]; omega
        clear hp hd
        go_wp2_with (first
          | (go_at_call 93; refine (digit_any s[k] _).mono ?_; rintro e w1 ⟨rfl, rfl⟩)
          | fail)
        go_roundw
        case rel => exact ⟨k + 1, by omega, by simp, hp2, by trivial⟩
        case measure => simp [intOf]; omega
      | false =>
        have hp2 : Hid (runP digitB s.data.toList = k) := by
          show _ = _
          rw [hp.out, hd.out, runP_cons_neg hb]; omega
        clear hp hd
        go_wp2_with (first
          | (go_at_call 93; refine (digit_any s[k] _).mono ?_; rintro e w1 ⟨rfl, rfl⟩)
          | fail)
        go_ret
        exact ⟨ret_int (by rw [hp2.out]), rfl⟩
    · obtain rfl : k = s.size := by omega
      have hp2 : Hid (runP digitB s.data.toList = s.size) := by
        show _ = _
        rw [hp.out, List.drop_eq_nil_of_le (Nat.le_of_eq (data_len s)), runP_nil]; omega
      clear hp
      go_wp2_with fail
      go_ret
      exact ⟨ret_int (by rw [hp2.out]), rfl⟩

end Go.Proofs.YtcgpobeidlimkaaGreatDoor
