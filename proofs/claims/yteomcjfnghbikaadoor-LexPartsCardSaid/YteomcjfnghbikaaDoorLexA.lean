/- What a byte is: the program's and the document's words; the run ahead of a text. -/
import Derived.Test.YteomcjfnghbikaaDoorTok
import Derived.Test.YteomcjfnghbikaaDoorKp
import Derived.BigQuiet
import Derived.Deep.QuietTactic
import Derived.Lib.Strings
namespace Go.Proofs.YteomcjfnghbikaaDoor
open Go.RowKit

theorem letterB_int (c : UInt8) : letterB c = (decide ((97 : Int) ≤ c.toNat) && decide ((c.toNat : Int) ≤ 122)) := by
  unfold letterB
  congr 1 <;> (apply decide_eq_decide.2; omega)
theorem digitB_int (c : UInt8) : digitB c = (decide ((48 : Int) ≤ c.toNat) && decide ((c.toNat : Int) ≤ 57)) := by
  unfold digitB
  congr 1 <;> (apply decide_eq_decide.2; omega)

set_option maxHeartbeats 1000000 in
theorem letter_any (c : UInt8) (w : World) : Calls Tryd.prog 23 #[.int .u8 c.toNat] w fun e w' => e = .returned (.bool (letterB c)) ∧ w = w' := by
  rw [letterB_int]
  by_cases h : (97 : Int) ≤ c.toNat <;> by_cases h' : (c.toNat : Int) ≤ 122
  all_goals
    first | rw [decide_eq_true h] | rw [decide_eq_false h]
    first | rw [decide_eq_true h'] | rw [decide_eq_false h']
    go_enter Tryd.func23, Tryd.ntmps23
    go_wp2_with fail
    go_ret
    exact ⟨rfl, rfl⟩

set_option maxHeartbeats 1000000 in
theorem digit_any (c : UInt8) (w : World) : Calls Tryd.prog 33 #[.int .u8 c.toNat] w fun e w' => e = .returned (.bool (digitB c)) ∧ w = w' := by
  rw [digitB_int]
  by_cases h : (48 : Int) ≤ c.toNat <;> by_cases h' : (c.toNat : Int) ≤ 57
  all_goals
    first | rw [decide_eq_true h] | rw [decide_eq_false h]
    first | rw [decide_eq_true h'] | rw [decide_eq_false h']
    go_enter Tryd.func33, Tryd.ntmps33
    go_wp2_with fail
    go_ret
    exact ⟨rfl, rfl⟩

set_option maxHeartbeats 1000000 in
theorem letterR_any (c : UInt8) (w : World) : Calls Tryd.prog 27 #[.int .u8 c.toNat] w fun e w' => e = .returned (.bool (letterB c)) ∧ w = w' := by
  rw [letterB_int]
  by_cases h : (97 : Int) ≤ c.toNat <;> by_cases h' : (c.toNat : Int) ≤ 122
  all_goals
    first | rw [decide_eq_true h] | rw [decide_eq_false h]
    first | rw [decide_eq_true h'] | rw [decide_eq_false h']
    go_enter Tryd.func27, Tryd.ntmps27
    go_wp2_with fail
    go_ret
    exact ⟨rfl, rfl⟩

set_option maxHeartbeats 1000000 in
theorem digitR_any (c : UInt8) (w : World) : Calls Tryd.prog 29 #[.int .u8 c.toNat] w fun e w' => e = .returned (.bool (digitB c)) ∧ w = w' := by
  rw [digitB_int]
  by_cases h : (48 : Int) ≤ c.toNat <;> by_cases h' : (c.toNat : Int) ≤ 57
  all_goals
    first | rw [decide_eq_true h] | rw [decide_eq_false h]
    first | rw [decide_eq_true h'] | rw [decide_eq_false h']
    go_enter Tryd.func29, Tryd.ntmps29
    go_wp2_with fail
    go_ret
    exact ⟨rfl, rfl⟩

set_option maxHeartbeats 1000000 in
theorem part_any (c : UInt8) (w : World) : Calls Tryd.prog 25 #[.int .u8 c.toNat] w fun e w' => e = .returned (.bool (partB c)) ∧ w = w' := by
  have hp : Hid (partB c = (letterB c || digitB c)) := rfl
  go_enter Tryd.func25, Tryd.ntmps25
  go_wp2_with (first
    | (go_at_call 23; refine (letter_any c w).mono ?_; rintro e w1 ⟨rfl, rfl⟩)
    | (go_at_call 33; refine (digit_any c w).mono ?_; rintro e w1 ⟨rfl, rfl⟩)
    | fail)
  all_goals go_ret
  all_goals exact ⟨ret_bool (by rw [hp.out]; simp [*]), rfl⟩
end Go.Proofs.YteomcjfnghbikaaDoor
