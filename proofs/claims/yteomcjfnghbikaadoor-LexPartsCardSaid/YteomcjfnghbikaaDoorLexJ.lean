/- The document's words: signs, own words, registers. -/
import Derived.Test.YteomcjfnghbikaaDoorLexI
namespace Go.Proofs.YteomcjfnghbikaaDoor
open Go.RowKit

def sgnL (l : List UInt8) : Nat := if two l = true then 2 else match l with | [] => 0 | c :: _ => if signB c = true then 1 else 0

def sgZ : List UInt8 := [43, 45, 42, 60, 38, 124, 61, 40, 41, 123, 125, 59, 44]
theorem signB_iff (c : UInt8) : signB c = true ↔ ∃ j, j < 13 ∧ sgZ.getD j 0 = c := by
  have : signB c = sgZ.contains c := rfl
  rw [this, List.contains_iff_mem, List.mem_iff_getElem]
  constructor
  · rintro ⟨j, hj, rfl⟩
    exact ⟨j, hj, (List.getElem_eq_getD (h := hj) 0).symm⟩
  · rintro ⟨j, hj, rfl⟩
    exact ⟨j, hj, List.getElem_eq_getD (h := hj) 0⟩

theorem two_ext (s : ByteArray) (h : 2 ≤ s.size) : two s.data.toList = (((s.extract 0 2).toList == [61, 61]) || ((s.extract 0 2).toList == [33, 61])) := by
  have e : (s.extract 0 2).toList = s.data.toList.take 2 := by rw [Lib.toList_data, Lib.extract_data, List.drop_zero, Nat.sub_zero]
  rw [e]
  rcases hl : s.data.toList with _ | ⟨a, _ | ⟨b, r⟩⟩
  · have := data_len s; rw [hl] at this; simp at this; omega
  · have := data_len s; rw [hl] at this; simp at this; omega
  · rw [two_eq]
    simp only [Lib.hasPrefix, List.isPrefixOf, Bool.and_true, List.take_succ_cons, List.take_zero]
    rw [BEq.comm (a := (61 : UInt8)) (b := a), BEq.comm (a := (33 : UInt8)) (b := a), BEq.comm (a := (61 : UInt8)) (b := b)]
    simp only [List.cons_beq_cons]
    simp

set_option maxRecDepth 100000 in
set_option maxHeartbeats 4000000 in
theorem sign_ref (s : ByteArray) (w : World) (h1 : 1 ≤ s.size) (hs : s.size ≤ 100000) :
    Calls Tryd.prog 26 #[.string s] w fun e w' => e = .returned (.int .i64 (sgnL s.data.toList)) ∧ Below w.heap.size w w' := by
  have i0 : (0 : Int) < s.size := by omega
  have n0 : 0 < s.size := h1
  by_cases ht : two s.data.toList = true
  · have h2 := two_len ht
    rw [data_len] at h2
    have h2i : (2 : Int) ≤ s.size := by omega
    have h2j : (1 : Int) < s.size := by omega
    have hte := two_ext s h2
    have hfin : Hid (sgnL s.data.toList = 2) := by show _ = _; unfold sgnL; rw [if_pos ht]
    rw [ht] at hte
    cases hb1 : ((s.extract 0 2).toList == [61, 61]) <;> cases hb2 : ((s.extract 0 2).toList == [33, 61])
    · rw [hb1, hb2] at hte; cases hte
    all_goals
      clear ht hte
      go_enter Tryd.func26, Tryd.ntmps26
      go_wp2_with fail
      go_ret
      exact ⟨ret_int (by rw [hfin.out]; rfl), Below.refl _ _⟩
  · have hsg : sgnL s.data.toList = if signB s[0] = true then 1 else 0 := by
      unfold sgnL
      rw [if_neg ht]
      have := drop_byte s 0 h1
      rw [List.drop_zero] at this
      rw [this]
    have hor : (s.size ≤ 1) ∨ (2 ≤ s.size ∧ ((s.extract 0 2).toList == [61, 61]) = false ∧ ((s.extract 0 2).toList == [33, 61]) = false) := by
      by_cases h2 : 2 ≤ s.size
      · have hte := two_ext s h2
        have ht' : two s.data.toList = false := by simpa using ht
        rw [ht'] at hte
        refine .inr ⟨h2, ?_, ?_⟩
        · cases h : ((s.extract 0 2).toList == [61, 61]); rfl; rw [h] at hte; cases hte
        · cases h : ((s.extract 0 2).toList == [33, 61]); rfl; rw [h] at hte; simp at hte
      · exact .inl (by omega)
    rcases hor with hx | ⟨h2, hb1, hb2⟩
    · have hx1 : ¬ (1 : Int) < s.size := by omega
      have hx2 : decide ((1 : Int) < s.size) = false := decide_eq_false hx1
      go_enter Tryd.func26, Tryd.ntmps26
      go_wp2_with fail
      go_loopw [3] (fun i wr => ∃ k : Nat, k ≤ 13 ∧ i = .int .i64 k ∧ Hid (∀ j, j < k → sgZ.getD j 0 ≠ s[0]) ∧ Kp w wr) (fun i _ => 13 - (intOf i).toNat)
      case atStart => exact ⟨0, Nat.zero_le _, rfl, fun j h => (by omega), Kp.refl _⟩
      case round =>
        obtain ⟨k, hk, rfl, hp, hK⟩ := hrel
        by_cases hlt : k < 13
        · have k0 : (0 : Int) ≤ k := by omega
          have k1 : (k : Int) < 13 := by omega
          have hz : (⟨#[43, 45, 42, 60, 38, 124, 61, 40, 41, 123, 125, 59, 44]⟩ : ByteArray)[k]'hlt = sgZ.getD k 0 := List.getElem_eq_getD (l := sgZ) (h := hlt) 0
          by_cases he : s[0] = sgZ.getD k 0
          · have hfin : Hid (sgnL s.data.toList = 1) := by
              show _ = _
              rw [hsg, if_pos ((signB_iff _).2 ⟨k, hlt, he.symm⟩)]
            have he2 : s[0] = (⟨#[43, 45, 42, 60, 38, 124, 61, 40, 41, 123, 125, 59, 44]⟩ : ByteArray)[k]'hlt := by rw [hz, he]
            have he' : ((s[0].toNat : Int) == ((⟨#[43, 45, 42, 60, 38, 124, 61, 40, 41, 123, 125, 59, 44]⟩ : ByteArray)[k]'hlt).toNat) = true := by rw [he2]; simp
            clear hsg hp he hz he2
            go_wp2_with fail
            go_quiet (fail)
            have hK2 := drewN_kp hK nq
            go_wp2_with fail
            go_ret
            exact ⟨ret_int (by rw [hfin.out]; rfl), hK2.1⟩
          · have hp2 : Hid (∀ j, j < k + 1 → sgZ.getD j 0 ≠ s[0]) := by
              intro j hj
              by_cases hjk : j = k
              · subst hjk; exact fun e => he e.symm
              · exact hp.out j (by omega)
            have he' : ¬ (s[0].toNat : Int) = ((⟨#[43, 45, 42, 60, 38, 124, 61, 40, 41, 123, 125, 59, 44]⟩ : ByteArray)[k]'hlt).toNat := by
              intro e
              apply he
              rw [← hz]
              exact UInt8.toNat_inj.1 (by omega)
            have he2 : ((s[0].toNat : Int) == ((⟨#[43, 45, 42, 60, 38, 124, 61, 40, 41, 123, 125, 59, 44]⟩ : ByteArray)[k]'hlt).toNat) = false := by simpa using he'
            clear hsg hp he hz
            go_wp2_with fail
            go_quiet (fail)
            have hK2 := drewN_kp hK nq
            go_wp2_with fail
            go_roundw
            case rel => exact ⟨k + 1, by omega, by simp, hp2, hK2⟩
            case measure => simp [intOf]; omega
        · obtain rfl : k = 13 := by omega
          have hfin : Hid (sgnL s.data.toList = 0) := by
            show _ = _
            rw [hsg, if_neg]
            intro h
            obtain ⟨j, hj, e⟩ := (signB_iff _).1 h
            exact hp.out j hj e
          clear hsg hp
          go_wp2_with fail
          go_ret
          exact ⟨ret_int (by rw [hfin.out]; rfl), hK.1⟩
    · have h2i : (2 : Int) ≤ s.size := by omega
      have h2j : (1 : Int) < s.size := by omega
      go_enter Tryd.func26, Tryd.ntmps26
      go_wp2_with fail
      go_loopw [3] (fun i wr => ∃ k : Nat, k ≤ 13 ∧ i = .int .i64 k ∧ Hid (∀ j, j < k → sgZ.getD j 0 ≠ s[0]) ∧ Kp w wr) (fun i _ => 13 - (intOf i).toNat)
      case atStart => exact ⟨0, Nat.zero_le _, rfl, fun j h => (by omega), Kp.refl _⟩
      case round =>
        obtain ⟨k, hk, rfl, hp, hK⟩ := hrel
        by_cases hlt : k < 13
        · have k0 : (0 : Int) ≤ k := by omega
          have k1 : (k : Int) < 13 := by omega
          have hz : (⟨#[43, 45, 42, 60, 38, 124, 61, 40, 41, 123, 125, 59, 44]⟩ : ByteArray)[k]'hlt = sgZ.getD k 0 := List.getElem_eq_getD (l := sgZ) (h := hlt) 0
          by_cases he : s[0] = sgZ.getD k 0
          · have hfin : Hid (sgnL s.data.toList = 1) := by
              show _ = _
              rw [hsg, if_pos ((signB_iff _).2 ⟨k, hlt, he.symm⟩)]
            have he2 : s[0] = (⟨#[43, 45, 42, 60, 38, 124, 61, 40, 41, 123, 125, 59, 44]⟩ : ByteArray)[k]'hlt := by rw [hz, he]
            have he' : ((s[0].toNat : Int) == ((⟨#[43, 45, 42, 60, 38, 124, 61, 40, 41, 123, 125, 59, 44]⟩ : ByteArray)[k]'hlt).toNat) = true := by rw [he2]; simp
            clear hsg hp he hz he2
            go_wp2_with fail
            go_quiet (fail)
            have hK2 := drewN_kp hK nq
            go_wp2_with fail
            go_ret
            exact ⟨ret_int (by rw [hfin.out]; rfl), hK2.1⟩
          · have hp2 : Hid (∀ j, j < k + 1 → sgZ.getD j 0 ≠ s[0]) := by
              intro j hj
              by_cases hjk : j = k
              · subst hjk; exact fun e => he e.symm
              · exact hp.out j (by omega)
            have he' : ¬ (s[0].toNat : Int) = ((⟨#[43, 45, 42, 60, 38, 124, 61, 40, 41, 123, 125, 59, 44]⟩ : ByteArray)[k]'hlt).toNat := by
              intro e
              apply he
              rw [← hz]
              exact UInt8.toNat_inj.1 (by omega)
            have he2 : ((s[0].toNat : Int) == ((⟨#[43, 45, 42, 60, 38, 124, 61, 40, 41, 123, 125, 59, 44]⟩ : ByteArray)[k]'hlt).toNat) = false := by simpa using he'
            clear hsg hp he hz
            go_wp2_with fail
            go_quiet (fail)
            have hK2 := drewN_kp hK nq
            go_wp2_with fail
            go_roundw
            case rel => exact ⟨k + 1, by omega, by simp, hp2, hK2⟩
            case measure => simp [intOf]; omega
        · obtain rfl : k = 13 := by omega
          have hfin : Hid (sgnL s.data.toList = 0) := by
            show _ = _
            rw [hsg, if_neg]
            intro h
            obtain ⟨j, hj, e⟩ := (signB_iff _).1 h
            exact hp.out j hj e
          clear hsg hp
          go_wp2_with fail
          go_ret
          exact ⟨ret_int (by rw [hfin.out]; rfl), hK.1⟩
end Go.Proofs.YteomcjfnghbikaaDoor
