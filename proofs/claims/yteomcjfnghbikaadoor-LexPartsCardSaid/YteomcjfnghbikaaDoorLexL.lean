/- The document's word: names. -/
import Derived.Test.YteomcjfnghbikaaDoorLexK
namespace Go.Proofs.YteomcjfnghbikaaDoor
open Go.RowKit

set_option maxRecDepth 100000 in
set_option maxHeartbeats 8000000 in
theorem name_ref (s : ByteArray) (w : World) : Calls Tryd.prog 19 #[.string s] w fun e w' => e = .returned (.bool (nameB s)) ∧ Below w.heap.size w w' := by
  cases hl : s.data.toList with
  | nil =>
    have he : s.toList.isEmpty = true := by rw [Lib.toList_data, hl]; rfl
    have hn : Hid (nameB s = false) := by show _ = _; unfold nameB; rw [hl]
    clear hl
    go_enter Tryd.func19, Tryd.ntmps19
    go_wp2_with fail
    go_ret
    exact ⟨ret_bool (by rw [hn.out]), Below.refl _ _⟩
  | cons c r =>
    have hne : s.toList.isEmpty = false := by rw [Lib.toList_data, hl]; rfl
    have h1 : 0 < s.size := by rw [← data_len, hl]; simp
    have hc : s[0] = c := by
      have := drop_byte s 0 h1
      rw [List.drop_zero, hl] at this
      exact (List.cons.inj this).1.symm
    have i0 : (0 : Int) < s.size := by omega
    have hn : Hid (nameB s = (decide (s.size ≤ 12) && letterB s[0] && decide (runP partB s.data.toList = s.size) && !keyB s && decide (regI s < 0))) := by
      show _ = _
      unfold nameB
      rw [hl, hc]
    have hlet := letterR_any s[0] w
    have hkey := key_ref s w
    have hreg := fun w' => reg_ref s w'
    clear hl hc
    by_cases h12 : s.size ≤ 12
    · have h12' : (s.size : Int) ≤ 12 := by omega
      have h12n : ¬ (12 : Int) < s.size := by omega
      have h12d : decide ((12 : Int) < s.size) = false := decide_eq_false h12n
      have hx1 : decide (s.size ≤ 12) = true := decide_eq_true h12
      rw [hx1, Bool.true_and] at hn
      cases hL : letterB s[0] with
      | false =>
        rw [hL] at hn hlet
        have hfin : Hid (nameB s = false) := hn.out
        clear hn hL hkey hreg
        go_enter Tryd.func19, Tryd.ntmps19
        go_wp2_with (first
          | (go_at_call 27; refine hlet.mono ?_; rintro e w1 ⟨rfl, rfl⟩)
          | fail)
        go_ret
        exact ⟨ret_bool (by rw [hfin.out]), Below.refl _ _⟩
      | true =>
        rw [hL, Bool.true_and] at hn
        rw [hL] at hlet
        cases hK : keyB s with
        | true =>
          rw [hK] at hn hkey
          have hfin : Hid (nameB s = false) := by show _ = _; rw [hn.out]; simp
          clear hn hL hK hreg
          go_enter Tryd.func19, Tryd.ntmps19
          go_wp2_with (first
            | (go_at_call 27; refine hlet.mono ?_; rintro e w1 ⟨rfl, rfl⟩)
            | (go_at_call 17; refine hkey.mono ?_; rintro e w1 ⟨rfl, hb1⟩)
            | fail)
          go_ret
          exact ⟨ret_bool (by rw [hfin.out]), hb1⟩
        | false =>
          rw [hK] at hn hkey
          simp only [Bool.not_false, Bool.and_true] at hn
          by_cases hR : regI s < 0
          · rw [decide_eq_true hR, Bool.and_true] at hn
            have hR' : ¬ 0 ≤ regI s := by omega
            generalize regI s = x at hreg hR hR'
            clear hL hK
            go_enter Tryd.func19, Tryd.ntmps19
            go_wp2_with (first
              | (go_at_call 27; refine hlet.mono ?_; rintro e w1 ⟨rfl, rfl⟩)
              | (go_at_call 17; refine hkey.mono ?_; rintro e w1 ⟨rfl, hb1⟩)
              | (go_at_call 18; refine (hreg w1).mono ?_; rintro e w2 ⟨rfl, rfl⟩)
              | fail)
            go_loopw [3] (fun i wr => ∃ k : Nat, k ≤ s.size ∧ i = .int .i64 k ∧ Hid (runP partB s.data.toList = k + runP partB (s.data.toList.drop k)) ∧ w1 = wr) (fun i _ => s.size - (intOf i).toNat)
            case atStart => exact ⟨0, Nat.zero_le _, rfl, by simp [Hid], rfl⟩
            case round =>
              obtain ⟨k, hk, rfl, hp, hw⟩ := hrel
              subst hw
              by_cases hlt : k < s.size
              · have k0 : (0 : Int) ≤ k := by omega
                have k1 : (k : Int) < s.size := by omega
                have hd := hid (drop_byte s k hlt)
                have hdi := fun w => digitR_any s[k] w
                have hle := fun w => letterR_any s[k] w
                have hpb : Hid (partB s[k] = (letterB s[k] || digitB s[k])) := rfl
                cases hD : digitB s[k] <;> cases hLk : letterB s[k]
                · rw [hD, hLk] at hpb
                  simp only [hD] at hdi
                  simp only [hLk] at hle
                  have hfin : Hid (nameB s = false) := by
                    show _ = _
                    rw [hn.out, hp.out, hd.out, runP_cons_neg hpb.out]
                    exact decide_eq_false (by omega)
                  clear hp hd hD hLk hpb hn
                  go_wp2_with (first
                    | (go_at_call 27; refine (hle _).mono ?_; rintro e w1 ⟨rfl, rfl⟩)
                    | (go_at_call 29; refine (hdi _).mono ?_; rintro e w1 ⟨rfl, rfl⟩)
                    | fail)
                  go_ret
                  exact ⟨ret_bool (by rw [hfin.out]), hb1⟩
                all_goals
                  rw [hD, hLk] at hpb
                  simp only [hD] at hdi
                  simp only [hLk] at hle
                  have hp2 : Hid (runP partB s.data.toList = (k + 1 : Nat) + runP partB (s.data.toList.drop (k + 1))) := by
                    show _ = _
                    rw [hp.out, hd.out, runP_cons_pos hpb.out]; omega
                  clear hp hd hD hLk hpb
                  go_wp2_with (first
                    | (go_at_call 27; refine (hle _).mono ?_; rintro e w1 ⟨rfl, rfl⟩)
                    | (go_at_call 29; refine (hdi _).mono ?_; rintro e w1 ⟨rfl, rfl⟩)
                    | fail)
                  go_roundw
                  case rel => exact ⟨k + 1, by omega, by simp, hp2, by trivial⟩
                  case measure => simp [intOf]; omega
              · obtain rfl : k = s.size := by omega
                have hfin : Hid (nameB s = true) := by
                  show _ = _
                  rw [hn.out, hp.out, List.drop_eq_nil_of_le (Nat.le_of_eq (data_len s)), runP_nil]
                  exact decide_eq_true (by omega)
                clear hp hn
                go_wp2_with fail
                go_ret
                exact ⟨ret_bool (by rw [hfin.out]), hb1⟩
          · have hfin : Hid (nameB s = false) := by show _ = _; rw [hn.out, decide_eq_false hR]; simp
            have hR' : 0 ≤ regI s := by omega
            generalize regI s = x at hreg hR hR'
            clear hL hK hn hR
            go_enter Tryd.func19, Tryd.ntmps19
            go_wp2_with (first
              | (go_at_call 27; refine hlet.mono ?_; rintro e w1 ⟨rfl, rfl⟩)
              | (go_at_call 17; refine hkey.mono ?_; rintro e w1 ⟨rfl, hb1⟩)
              | (go_at_call 18; refine (hreg w1).mono ?_; rintro e w2 ⟨rfl, rfl⟩)
              | fail)
            go_ret
            exact ⟨ret_bool (by rw [hfin.out]), hb1⟩
    · have hfin : Hid (nameB s = false) := by show _ = _; rw [hn.out, decide_eq_false h12]; simp
      have h12' : (12 : Int) < s.size := by omega
      clear hn hlet hkey h12
      go_enter Tryd.func19, Tryd.ntmps19
      go_wp2_with fail
      go_ret
      exact ⟨ret_bool (by rw [hfin.out]), Below.refl _ _⟩
end Go.Proofs.YteomcjfnghbikaaDoor
