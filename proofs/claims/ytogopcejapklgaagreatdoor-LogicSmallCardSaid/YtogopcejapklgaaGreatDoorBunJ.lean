/- The language's own words, registers, names: the program's words. -/
import Derived.Test.YtogopcejapklgaaGreatDoorLexF
namespace Go.Proofs.YtogopcejapklgaaGreatDoor
open Go.RowKit

def keyZ : List ByteArray := [⟨#[118, 97, 114, 115]⟩, ⟨#[100, 111, 109, 97, 105, 110]⟩, ⟨#[116, 104, 114, 101, 97, 100]⟩, ⟨#[102, 101, 110, 99, 101]⟩, ⟨#[115, 102, 101, 110, 99, 101]⟩, ⟨#[99, 97, 115]⟩, ⟨#[108, 111, 99, 107]⟩, ⟨#[117, 110, 108, 111, 99, 107]⟩, ⟨#[97, 115, 115, 101, 114, 116]⟩, ⟨#[105, 102]⟩, ⟨#[101, 108, 115, 101]⟩, ⟨#[119, 104, 105, 108, 101]⟩]
def regZ : List ByteArray := [⟨#[114, 48]⟩, ⟨#[114, 49]⟩, ⟨#[114, 50]⟩, ⟨#[114, 51]⟩]
def keyB (s : ByteArray) : Bool := Lib.containsS keyZ s
def regI (s : ByteArray) : Int := Lib.idxOfS regZ s

theorem row_cell (w : World) (zs : List ByteArray) (T : TypeId) (j : Nat) (hj : j < zs.length) : (w.alloc (.cells (zs.map Value.string).toArray T)).cell? ⟨w.heap.size, 0 + j, none⟩ = some (.string (zs.getD j ByteArray.empty)) := by
  rw [World.cell?_alloc_at _ _ _ _ (by simp)]
  simp [hj]

end Go.Proofs.YtogopcejapklgaaGreatDoor
namespace Go.Proofs.YtogopcejapklgaaGreatDoor
open Go.RowKit

def nameB (s : ByteArray) : Bool :=
  match s.data.toList with
  | [] => false
  | c :: _ => decide (s.size ≤ 12) && letterB c && decide (runP partB s.data.toList = s.size) && !keyB s && decide (regI s < 0)

end Go.Proofs.YtogopcejapklgaaGreatDoor
namespace Go.Proofs.YtogopcejapklgaaGreatDoor
open Go.RowKit

set_option maxHeartbeats 4000000 in
theorem refRun_digit (s : ByteArray) (w : World) (hs : s.size ≤ 100000) :
    Calls Tryz.prog 56 #[.string s, .bool true] w fun e w' => e = .returned (.int .i64 (runP digitB s.data.toList)) ∧ w = w' := by
  go_enter Tryz.func56, Tryz.ntmps56
  go_wp2_with fail
  go_loopw [5] (fun i wr => ∃ k : Nat, k ≤ s.size ∧ i = .int .i64 k ∧ Hid (runP digitB s.data.toList = k + runP digitB (s.data.toList.drop k)) ∧ w = wr) (fun i _ => s.size - (intOf i).toNat)
  case atStart => exact ⟨0, Nat.zero_le _, rfl, by simp [Hid], rfl⟩
  case round =>
    obtain ⟨k, hk, rfl, hp, hw⟩ := hrel
    subst hw
    by_cases hlt : k < s.size
    · have k0 : (0 : Int) ≤ k := by omega
      have k1 : (k : Int) < s.size := by omega
      have hd := hid (drop_byte s k hlt)
      have hdi := fun w => digitR_any s[k] w
      have hle := fun w => letterR_any s[k] w
      have hpb : Hid (partB s[k] = (letterB s[k] || digitB s[k])) := rfl
      cases hD : digitB s[k] <;> cases hL : letterB s[k]
      all_goals
        rw [hD, hL] at hpb
        simp only [hD] at hdi
        simp only [hL] at hle
        have hb := hD
        have hp2 := hp.out
        rw [hd.out] at hp2
        first | rw [runP_cons_pos hb] at hp2 | rw [runP_cons_neg hb] at hp2
        have hp2 := hid hp2
        clear hp hd hD hL hb hpb
        go_wp2_with (first
          | (go_at_call 57; refine (hdi _).mono ?_; rintro e w1 ⟨rfl, rfl⟩)
          | fail)
        first
          | (go_ret; exact ⟨ret_int (by rw [hp2.out]; simp), rfl⟩)
          | (go_roundw
             case rel => exact ⟨k + 1, by omega, by simp, (by show _ = _; rw [hp2.out]; omega), by trivial⟩
             case measure => simp [intOf]; omega)
    · obtain rfl : k = s.size := by omega
      have hp2 : Hid (runP digitB s.data.toList = s.size) := by
        show _ = _
        rw [hp.out, List.drop_eq_nil_of_le (Nat.le_of_eq (data_len s)), runP_nil]; omega
      clear hp
      go_wp2_with fail
      go_ret
      exact ⟨ret_int (by rw [hp2.out]), rfl⟩

set_option maxHeartbeats 4000000 in
set_option linter.unusedSimpArgs false in
theorem refRun_part (s : ByteArray) (w : World) (hs : s.size ≤ 100000) :
    Calls Tryz.prog 56 #[.string s, .bool false] w fun e w' => e = .returned (.int .i64 (runP partB s.data.toList)) ∧ w = w' := by
  go_enter Tryz.func56, Tryz.ntmps56
  go_wp2_with fail
  go_loopw [5] (fun i wr => ∃ k : Nat, k ≤ s.size ∧ i = .int .i64 k ∧ Hid (runP partB s.data.toList = k + runP partB (s.data.toList.drop k)) ∧ w = wr) (fun i _ => s.size - (intOf i).toNat)
  case atStart => exact ⟨0, Nat.zero_le _, rfl, by simp [Hid], rfl⟩
  case round =>
    obtain ⟨k, hk, rfl, hp, hw⟩ := hrel
    subst hw
    by_cases hlt : k < s.size
    · have k0 : (0 : Int) ≤ k := by omega
      have k1 : (k : Int) < s.size := by omega
      have hd := hid (drop_byte s k hlt)
      have hdi := fun w => digitR_any s[k] w
      have hle := fun w => letterR_any s[k] w
      have hpb : Hid (partB s[k] = (letterB s[k] || digitB s[k])) := rfl
      cases hD : digitB s[k] <;> cases hL : letterB s[k]
      all_goals
        rw [hD, hL] at hpb
        simp only [hD] at hdi
        simp only [hL] at hle
        have hb := hpb.out
        simp only [Bool.or_true, Bool.or_false, Bool.true_or, Bool.false_or] at hb
        have hp2 := hp.out
        rw [hd.out] at hp2
        first | rw [runP_cons_pos hb] at hp2 | rw [runP_cons_neg hb] at hp2
        have hp2 := hid hp2
        clear hp hd hD hL hb hpb
        go_wp2_with (first
          | (go_at_call 57; refine (hdi _).mono ?_; rintro e w1 ⟨rfl, rfl⟩)
          | (go_at_call 55; refine (hle _).mono ?_; rintro e w1 ⟨rfl, rfl⟩)
          | fail)
        first
          | (go_ret; exact ⟨ret_int (by rw [hp2.out]; simp), rfl⟩)
          | (go_roundw
             case rel => exact ⟨k + 1, by omega, by simp, (by show _ = _; rw [hp2.out]; omega), by trivial⟩
             case measure => simp [intOf]; omega)
    · obtain rfl : k = s.size := by omega
      have hp2 : Hid (runP partB s.data.toList = s.size) := by
        show _ = _
        rw [hp.out, List.drop_eq_nil_of_le (Nat.le_of_eq (data_len s)), runP_nil]; omega
      clear hp
      go_wp2_with fail
      go_ret
      exact ⟨ret_int (by rw [hp2.out]), rfl⟩

end Go.Proofs.YtogopcejapklgaaGreatDoor
namespace Go.Proofs.YtogopcejapklgaaGreatDoor
open Go.RowKit

def sgnL (l : List UInt8) : Nat := if two l = true then 2 else match l with | [] => 0 | c :: _ => if signB c = true then 1 else 0

def sgZ : List UInt8 := [43, 45, 42, 60, 38, 124, 61, 40, 41, 123, 125, 59, 44]
theorem signB_iff (c : UInt8) : signB c = true ↔ ∃ j, j < 13 ∧ sgZ.getD j 0 = c := by
  have : signB c = sgZ.contains c := rfl
  rw [this, List.contains_iff_mem, List.mem_iff_getElem]
  constructor
  · rintro ⟨j, hj, rfl⟩
    exact ⟨j, hj, (List.getElem_eq_getD (h := hj) 0).symm⟩
  · rintro ⟨j, hj, rfl⟩
    exact ⟨j, hj, List.getElem_eq_getD (h := hj) 0⟩

theorem two_ext (s : ByteArray) (h : 2 ≤ s.size) : two s.data.toList = (((s.extract 0 2).toList == [61, 61]) || ((s.extract 0 2).toList == [33, 61])) := by
  have e : (s.extract 0 2).toList = s.data.toList.take 2 := by rw [Lib.toList_data, Lib.extract_data, List.drop_zero, Nat.sub_zero]
  rw [e]
  rcases hl : s.data.toList with _ | ⟨a, _ | ⟨b, r⟩⟩
  · have := data_len s; rw [hl] at this; simp at this; omega
  · have := data_len s; rw [hl] at this; simp at this; omega
  · rw [two_eq]
    simp only [Lib.hasPrefix, List.isPrefixOf, Bool.and_true, List.take_succ_cons, List.take_zero]
    rw [BEq.comm (a := (61 : UInt8)) (b := a), BEq.comm (a := (33 : UInt8)) (b := a), BEq.comm (a := (61 : UInt8)) (b := b)]
    simp only [List.cons_beq_cons]
    simp

set_option maxRecDepth 100000 in
set_option maxHeartbeats 4000000 in
theorem sign_ref (s : ByteArray) (w : World) (h1 : 1 ≤ s.size) (hs : s.size ≤ 100000) :
    Calls Tryz.prog 54 #[.string s] w fun e w' => e = .returned (.int .i64 (sgnL s.data.toList)) ∧ Below w.heap.size w w' := by
  have i0 : (0 : Int) < s.size := by omega
  have n0 : 0 < s.size := h1
  by_cases ht : two s.data.toList = true
  · have h2 := two_len ht
    rw [data_len] at h2
    have h2i : (2 : Int) ≤ s.size := by omega
    have h2j : (1 : Int) < s.size := by omega
    have hte := two_ext s h2
    have hfin : Hid (sgnL s.data.toList = 2) := by show _ = _; unfold sgnL; rw [if_pos ht]
    rw [ht] at hte
    cases hb1 : ((s.extract 0 2).toList == [61, 61]) <;> cases hb2 : ((s.extract 0 2).toList == [33, 61])
    · rw [hb1, hb2] at hte; cases hte
    all_goals
      clear ht hte
      go_enter Tryz.func54, Tryz.ntmps54
      go_wp2_with fail
      go_ret
      exact ⟨ret_int (by rw [hfin.out]; rfl), Below.refl _ _⟩
  · have hsg : sgnL s.data.toList = if signB s[0] = true then 1 else 0 := by
      unfold sgnL
      rw [if_neg ht]
      have := drop_byte s 0 h1
      rw [List.drop_zero] at this
      rw [this]
    have hor : (s.size ≤ 1) ∨ (2 ≤ s.size ∧ ((s.extract 0 2).toList == [61, 61]) = false ∧ ((s.extract 0 2).toList == [33, 61]) = false) := by
      by_cases h2 : 2 ≤ s.size
      · have hte := two_ext s h2
        have ht' : two s.data.toList = false := by simpa using ht
        rw [ht'] at hte
        refine .inr ⟨h2, ?_, ?_⟩
        · cases h : ((s.extract 0 2).toList == [61, 61]); rfl; rw [h] at hte; cases hte
        · cases h : ((s.extract 0 2).toList == [33, 61]); rfl; rw [h] at hte; simp at hte
      · exact .inl (by omega)
    rcases hor with hx | ⟨h2, hb1, hb2⟩
    · have hx1 : ¬ (1 : Int) < s.size := by omega
      have hx2 : decide ((1 : Int) < s.size) = false := decide_eq_false hx1
      go_enter Tryz.func54, Tryz.ntmps54
      go_wp2_with fail
      go_loopw [3] (fun i wr => ∃ k : Nat, k ≤ 13 ∧ i = .int .i64 k ∧ Hid (∀ j, j < k → sgZ.getD j 0 ≠ s[0]) ∧ Kp w wr) (fun i _ => 13 - (intOf i).toNat)
      case atStart => exact ⟨0, Nat.zero_le _, rfl, fun j h => (by omega), Kp.refl _⟩
      case round =>
        obtain ⟨k, hk, rfl, hp, hK⟩ := hrel
        by_cases hlt : k < 13
        · have k0 : (0 : Int) ≤ k := by omega
          have k1 : (k : Int) < 13 := by omega
          have hz : (⟨#[43, 45, 42, 60, 38, 124, 61, 40, 41, 123, 125, 59, 44]⟩ : ByteArray)[k]'hlt = sgZ.getD k 0 := List.getElem_eq_getD (l := sgZ) (h := hlt) 0
          by_cases he : s[0] = sgZ.getD k 0
          · have hfin : Hid (sgnL s.data.toList = 1) := by
              show _ = _
              rw [hsg, if_pos ((signB_iff _).2 ⟨k, hlt, he.symm⟩)]
            have he2 : s[0] = (⟨#[43, 45, 42, 60, 38, 124, 61, 40, 41, 123, 125, 59, 44]⟩ : ByteArray)[k]'hlt := by rw [hz, he]
            have he' : ((s[0].toNat : Int) == ((⟨#[43, 45, 42, 60, 38, 124, 61, 40, 41, 123, 125, 59, 44]⟩ : ByteArray)[k]'hlt).toNat) = true := by rw [he2]; simp
            clear hsg hp he hz he2
            go_wp2_with fail
            go_quiet (fail)
            have hK2 := drewN_kp hK nq
            go_wp2_with fail
            go_ret
            exact ⟨ret_int (by rw [hfin.out]; rfl), hK2.1⟩
          · have hp2 : Hid (∀ j, j < k + 1 → sgZ.getD j 0 ≠ s[0]) := by
              intro j hj
              by_cases hjk : j = k
              · subst hjk; exact fun e => he e.symm
              · exact hp.out j (by omega)
            have he' : ¬ (s[0].toNat : Int) = ((⟨#[43, 45, 42, 60, 38, 124, 61, 40, 41, 123, 125, 59, 44]⟩ : ByteArray)[k]'hlt).toNat := by
              intro e
              apply he
              rw [← hz]
              exact UInt8.toNat_inj.1 (by omega)
            have he2 : ((s[0].toNat : Int) == ((⟨#[43, 45, 42, 60, 38, 124, 61, 40, 41, 123, 125, 59, 44]⟩ : ByteArray)[k]'hlt).toNat) = false := by simpa using he'
            clear hsg hp he hz
            go_wp2_with fail
            go_quiet (fail)
            have hK2 := drewN_kp hK nq
            go_wp2_with fail
            go_roundw
            case rel => exact ⟨k + 1, by omega, by simp, hp2, hK2⟩
            case measure => simp [intOf]; omega
        · obtain rfl : k = 13 := by omega
          have hfin : Hid (sgnL s.data.toList = 0) := by
            show _ = _
            rw [hsg, if_neg]
            intro h
            obtain ⟨j, hj, e⟩ := (signB_iff _).1 h
            exact hp.out j hj e
          clear hsg hp
          go_wp2_with fail
          go_ret
          exact ⟨ret_int (by rw [hfin.out]; rfl), hK.1⟩
    · have h2i : (2 : Int) ≤ s.size := by omega
      have h2j : (1 : Int) < s.size := by omega
      go_enter Tryz.func54, Tryz.ntmps54
      go_wp2_with fail
      go_loopw [3] (fun i wr => ∃ k : Nat, k ≤ 13 ∧ i = .int .i64 k ∧ Hid (∀ j, j < k → sgZ.getD j 0 ≠ s[0]) ∧ Kp w wr) (fun i _ => 13 - (intOf i).toNat)
      case atStart => exact ⟨0, Nat.zero_le _, rfl, fun j h => (by omega), Kp.refl _⟩
      case round =>
        obtain ⟨k, hk, rfl, hp, hK⟩ := hrel
        by_cases hlt : k < 13
        · have k0 : (0 : Int) ≤ k := by omega
          have k1 : (k : Int) < 13 := by omega
          have hz : (⟨#[43, 45, 42, 60, 38, 124, 61, 40, 41, 123, 125, 59, 44]⟩ : ByteArray)[k]'hlt = sgZ.getD k 0 := List.getElem_eq_getD (l := sgZ) (h := hlt) 0
          by_cases he : s[0] = sgZ.getD k 0
          · have hfin : Hid (sgnL s.data.toList = 1) := by
              show _ = _
              rw [hsg, if_pos ((signB_iff _).2 ⟨k, hlt, he.symm⟩)]
            have he2 : s[0] = (⟨#[43, 45, 42, 60, 38, 124, 61, 40, 41, 123, 125, 59, 44]⟩ : ByteArray)[k]'hlt := by rw [hz, he]
            have he' : ((s[0].toNat : Int) == ((⟨#[43, 45, 42, 60, 38, 124, 61, 40, 41, 123, 125, 59, 44]⟩ : ByteArray)[k]'hlt).toNat) = true := by rw [he2]; simp
            clear hsg hp he hz he2
            go_wp2_with fail
            go_quiet (fail)
            have hK2 := drewN_kp hK nq
            go_wp2_with fail
            go_ret
            exact ⟨ret_int (by rw [hfin.out]; rfl), hK2.1⟩
          · have hp2 : Hid (∀ j, j < k + 1 → sgZ.getD j 0 ≠ s[0]) := by
              intro j hj
              by_cases hjk : j = k
              · subst hjk; exact fun e => he e.symm
              · exact hp.out j (by omega)
            have he' : ¬ (s[0].toNat : Int) = ((⟨#[43, 45, 42, 60, 38, 124, 61, 40, 41, 123, 125, 59, 44]⟩ : ByteArray)[k]'hlt).toNat := by
              intro e
              apply he
              rw [← hz]
              exact UInt8.toNat_inj.1 (by omega)
            have he2 : ((s[0].toNat : Int) == ((⟨#[43, 45, 42, 60, 38, 124, 61, 40, 41, 123, 125, 59, 44]⟩ : ByteArray)[k]'hlt).toNat) = false := by simpa using he'
            clear hsg hp he hz
            go_wp2_with fail
            go_quiet (fail)
            have hK2 := drewN_kp hK nq
            go_wp2_with fail
            go_roundw
            case rel => exact ⟨k + 1, by omega, by simp, hp2, hK2⟩
            case measure => simp [intOf]; omega
        · obtain rfl : k = 13 := by omega
          have hfin : Hid (sgnL s.data.toList = 0) := by
            show _ = _
            rw [hsg, if_neg]
            intro h
            obtain ⟨j, hj, e⟩ := (signB_iff _).1 h
            exact hp.out j hj e
          clear hsg hp
          go_wp2_with fail
          go_ret
          exact ⟨ret_int (by rw [hfin.out]; rfl), hK.1⟩
end Go.Proofs.YtogopcejapklgaaGreatDoor
namespace Go.Proofs.YtogopcejapklgaaGreatDoor
open Go.RowKit

theorem keyB_iff (s : ByteArray) : keyB s = true ↔ ∃ j, j < 12 ∧ keyZ.getD j ByteArray.empty = s := by
  unfold keyB
  rw [Lib.containsS_iff, List.mem_iff_getElem]
  constructor
  · rintro ⟨j, hj, e⟩
    exact ⟨j, hj, (List.getElem_eq_getD (h := hj) _).symm.trans e⟩
  · rintro ⟨j, hj, e⟩
    exact ⟨j, hj, (List.getElem_eq_getD (h := hj) _).trans e⟩

theorem str_ne {a b : ByteArray} (h : a ≠ b) : (a.toList == b.toList) = false := by
  rw [Lib.toList_data, Lib.toList_data]
  have : a.data.toList ≠ b.data.toList := fun e => h (by rw [bytes_eq a, bytes_eq b, e])
  simpa using this

theorem size_two {s : ByteArray} (h : s.size = 2) : ∃ a b, s = ⟨#[a, b]⟩ := by
  have := data_len s
  rw [h] at this
  rcases hl : s.data.toList with _ | ⟨a, _ | ⟨b, _ | ⟨c, r⟩⟩⟩
  · rw [hl] at this; simp at this
  · rw [hl] at this; simp at this
  · exact ⟨a, b, by rw [bytes_eq s, hl]⟩
  · rw [hl] at this; simp at this

theorem regI_not {s : ByteArray} (h : s.size ≠ 2) : regI s = -1 := by
  have key : ∀ z : ByteArray, z.size = 2 → ¬ z = s := fun z hz e => h (by rw [← e]; exact hz)
  unfold regI Lib.idxOfS regZ
  simp only [Lib.idxFromS]
  rw [if_neg (key _ rfl), if_neg (key _ rfl), if_neg (key _ rfl), if_neg (key _ rfl)]
theorem regI_two (a b : UInt8) : regI ⟨#[a, b]⟩ = if a = 114 ∧ 48 ≤ b.toNat ∧ b.toNat ≤ 51 then (b.toNat : Int) - 48 else -1 := by
  have key : ∀ x y : UInt8, ((⟨#[x, y]⟩ : ByteArray) = ⟨#[a, b]⟩) ↔ (a = x ∧ b = y) := fun x y => by
    constructor
    · intro e
      have := congrArg (fun z : ByteArray => z.data.toList) e
      simp at this
      exact ⟨this.1.symm, this.2.symm⟩
    · rintro ⟨rfl, rfl⟩; rfl
  unfold regI Lib.idxOfS regZ
  simp only [Lib.idxFromS, key]
  by_cases ha : a = 114
  · by_cases h0 : b = 48
    · subst ha h0; rfl
    · by_cases h1 : b = 49
      · subst ha h1; rfl
      · by_cases h2 : b = 50
        · subst ha h2; rfl
        · by_cases h3 : b = 51
          · subst ha h3; rfl
          · have hb : ¬ (48 ≤ b.toNat ∧ b.toNat ≤ 51) := by
              intro h
              have : b.toNat = 48 ∨ b.toNat = 49 ∨ b.toNat = 50 ∨ b.toNat = 51 := by omega
              rcases this with e | e | e | e
              · exact h0 (UInt8.toNat_inj.1 e)
              · exact h1 (UInt8.toNat_inj.1 e)
              · exact h2 (UInt8.toNat_inj.1 e)
              · exact h3 (UInt8.toNat_inj.1 e)
            rw [if_neg (fun e => h0 e.2), if_neg (fun e => h1 e.2), if_neg (fun e => h2 e.2), if_neg (fun e => h3 e.2), if_neg (fun e => hb e.2)]
  · rw [if_neg (fun e => ha e.1), if_neg (fun e => ha e.1), if_neg (fun e => ha e.1), if_neg (fun e => ha e.1), if_neg (fun e => ha e.1)]

theorem regI_at {s : ByteArray} (h2 : s.size = 2) (n0 : 0 < s.size) (n1 : 1 < s.size) : regI s = if (s[0].toNat : Int) = 114 ∧ (48 : Int) ≤ s[1].toNat ∧ (s[1].toNat : Int) ≤ 51 then (s[1].toNat : Int) - 48 else -1 := by
  obtain ⟨a, b, rfl⟩ := size_two h2
  rw [regI_two]
  show _ = if (a.toNat : Int) = 114 ∧ (48 : Int) ≤ b.toNat ∧ (b.toNat : Int) ≤ 51 then (b.toNat : Int) - 48 else -1
  by_cases h : a = 114 ∧ 48 ≤ b.toNat ∧ b.toNat ≤ 51
  · rw [if_pos h, if_pos ⟨by rw [h.1]; rfl, by omega, by omega⟩]
  · rw [if_neg h, if_neg]
    rintro ⟨h1, h2, h3⟩
    exact h ⟨UInt8.toNat_inj.1 (by show a.toNat = 114; omega), by omega, by omega⟩

end Go.Proofs.YtogopcejapklgaaGreatDoor
namespace Go.Proofs.YtogopcejapklgaaGreatDoor
open Go.RowKit

theorem tko_later {w w' : World} {B : Nat} {v : Value} {L : List Tok} (h : TkO w B v L) (hb : Below w.heap.size w w') : TkO w' B v L := by
  refine World.ownsRow.kept h (grown_of_below hb) ?_
  rcases hv : v.ownBlock with _ | k
  · exact .inl rfl
  · exact .inr (by simp)
theorem tko_app {w : World} {B : Nat} {v : Value} {ts : List Tok} {x : Tok} (h : w.ownsRow B 41 4 v (ts.length + 1) (ts.flatMap tkC ++ tkC x)) : TkO w B v (ts ++ [x]) := by
  unfold TkO
  rw [List.length_append, List.length_singleton, List.flatMap_append]
  simpa using h
theorem tko_nil {w : World} {B : Nat} : TkO w B (.slice none 0 0) [] := World.ownsRow_nil _ _ _ _

theorem kp_app {w w1 w2 : World} {v : Value} {ts : List Tok} (hK : Kp w w1) (hO : TkO w1 w.heap.size v ts) {tmp : Obj} (hg : (w1.alloc tmp).grownBy w2 v.ownBlock) : Kp w w2 :=
  Kp.grown (hK.alloc tmp) hg (fun b hb => (hO.lt b hb).1)

theorem tkC_of (k n : Int) (p : Nat) (b : ByteArray) : [Value.int .i64 k, .string b, .int .i64 n, .int .i64 p] = tkC ⟨k, b.data.toList, n, p⟩ := by simp [tkC]
theorem one_tk (k n p : Int) (b : ByteArray) : ∀ u ∈ [Value.int .i64 k, .string b, .int .i64 n, .int .i64 p], u.oneCell' = true := by
  intro u hu
  simp at hu
  rcases hu with rfl | rfl | rfl | rfl <;> rfl
theorem ext_mid (s : ByteArray) (k n : Nat) : (s.extract k (k + n)).data.toList = (s.data.toList.drop k).take n := by
  rw [Lib.extract_data]
  congr 1
  omega
theorem src_new' {w : World} {T : TypeId} {size m n : Nat} {news : List Value} (hn : n = w.heap.size) (hl : news.length = m * size) : SrcAt (w.alloc (.cells news.toArray T)) size (some ⟨n, 0, none⟩) m news := by subst hn; exact src_new hl

theorem TBox.put2 {w : World} {B : Nat} {v0 v1 v2 v3 : Value} (h : TBox w B v0 v1 v2 v3) (u : Value) : TBox (w.setCell ⟨B, 2, none⟩ u).drew B v0 v1 u v3 := by
  obtain ⟨h1, c0, c1, c2, c3, f0⟩ := h
  exact ⟨by simpa [World.setCell] using h1, by go_simp, by go_simp, by go_simp, by go_simp, fun o => by go_simp⟩
theorem sgnL_head (c : UInt8) (r : List UInt8) (h1 : ¬ letterB c = true) (h2 : ¬ digitB c = true) : (sgnL (c :: r) = 0 → headT (c :: r) = none) ∧ (sgnL (c :: r) ≠ 0 → headT (c :: r) = some (3, sgnL (c :: r), 0)) := by
  unfold sgnL
  simp only [headT]
  rw [if_neg h1, if_neg h2]
  by_cases ht : two (c :: r) = true
  · rw [if_pos ht, if_pos ht]
    exact ⟨fun h => (by cases h), fun _ => rfl⟩
  · rw [if_neg ht, if_neg ht]
    by_cases hs : signB c = true
    · rw [if_pos hs, if_pos hs]
      exact ⟨fun h => (by cases h), fun _ => rfl⟩
    · rw [if_neg hs, if_neg hs]
      exact ⟨fun _ => rfl, fun h => absurd rfl h⟩

set_option maxRecDepth 100000 in
set_option maxHeartbeats 8000000 in
theorem lex_ref (s : ByteArray) (w : World) : Calls Tryz.prog 37 #[.string s] w (LexPost s.data.toList w) := by
  by_cases hlong : 10000 < s.size
  · have hfin : Hid (∀ w', Below w.heap.size w w' → LexPost s.data.toList w (.returned (.tuple #[.slice none 0 0, .int .i64 2, .int .i64 0])) w') := fun w' hB => by
      have : lexR s.data.toList = ([], 2, 0) := by unfold lexR; rw [if_pos (by rw [data_len]; exact hlong)]
      unfold LexPost
      rw [this]
      exact ⟨none, 0, rfl, TkIn.nil_, hB⟩
    have hl' : (10000 : Int) < s.size := by omega
    clear hlong
    go_enter Tryz.func37, Tryz.ntmps37
    go_wp2_with fail
    go_ret3
    exact hfin.out _ (Below.refl _ _)
  · have hs : s.size ≤ 10000 := by omega
    have hs2 : decide ((10000 : Int) < s.size) = false := decide_eq_false (by omega)
    have hs3 : ¬ (10000 : Int) < s.size := by omega
    have hl10 : Hid (¬ 10000 < s.data.toList.length) := hlong
    clear hlong
    go_enter Tryz.func37, Tryz.ntmps37
    go_wp2_with fail
    go_loopw [5, 6] (fun o i wr => ∃ (k : Nat) (ts : List Tok), k ≤ s.size ∧ i = .int .i64 k ∧ Hid (lexA s.data.toList 0 = (ts ++ (lexA s.data.toList k).1, (lexA s.data.toList k).2)) ∧ ts.length ≤ k ∧ Kp w wr ∧ Hid (TkO wr w.heap.size o ts))
      (fun _ i _ => s.size - (intOf i).toNat)
    case atStart => exact ⟨0, [], Nat.zero_le _, rfl, by simp [Hid], by simp, Kp.refl _, tko_nil⟩
    case round =>
      rename World => wo
      obtain ⟨k, ts, hk, rfl, hL, htl, hK, hO⟩ := hrel
      obtain ⟨a1, cp, rfl, _⟩ := TkO.in_ hO.out
      by_cases hlt : k < s.size
      · have k0 : (0 : Int) ≤ k := by omega
        have k1 : (k : Int) < s.size := by omega
        have k2 : (k : Int) ≤ s.size := by omega
        have hlt' : k < s.data.toList.length := hlt
        have hby : s.data.toList[k] = s[k] := rfl
        by_cases hbl : blankB s[k] = true
        · have hL2 := hL.out
          rw [lexA_blank _ k hlt' hbl] at hL2
          have hL2 := hid hL2
          have hor : ((s[k].toNat : Int) == 32) = true ∨ (((s[k].toNat : Int) == 32) = false ∧ ((s[k].toNat : Int) == 10) = true) := by
            have : s[k] = 32 ∨ s[k] = 10 := by simpa [blankB] using hbl
            rcases this with e | e
            · exact .inl (by rw [e]; rfl)
            · exact .inr (by rw [e]; exact ⟨rfl, rfl⟩)
          clear hL hbl
          rcases hor with h1 | ⟨h1, h2⟩
          all_goals
            go_wp2_with fail
            go_roundw
            case rel => exact ⟨k + 1, ts, by omega, by simp, hL2, by omega, hK, hO⟩
            case measure => simp [intOf]; omega
        · have hbl' : blankB s.data.toList[k] = false := by rw [hby]; simpa using hbl
          have hb32 : ((s[k].toNat : Int) == 32) = false := by
            have : ¬ s[k] = 32 := fun e => hbl (by rw [e]; rfl)
            have : ¬ (s[k].toNat : Int) = 32 := fun e => this (UInt8.toNat_inj.1 (by show s[k].toNat = 32; omega))
            simpa using this
          have hb10 : ((s[k].toNat : Int) == 10) = false := by
            have : ¬ s[k] = 10 := fun e => hbl (by rw [e]; rfl)
            have : ¬ (s[k].toNat : Int) = 10 := fun e => this (UInt8.toNat_inj.1 (by show s[k].toNat = 10; omega))
            simpa using this
          have hd := drop_byte s k hlt
          have hsx : (s.extract k s.size).data.toList = s.data.toList.drop k := by
            rw [Lib.extract_data, List.take_of_length_le (by rw [List.length_drop, data_len]; exact Nat.le_refl _)]
          have hx := congrArg List.length hsx
          rw [data_len, List.length_drop, data_len] at hx
          have hx1 : 1 ≤ (s.extract k s.size).size := by omega
          have hx2 : (s.extract k s.size).size ≤ 100000 := by omega
          have hsg := fun w => sign_ref (s.extract k s.size) w hx1 hx2
          rw [hsx] at hsg
          have hle := fun w => letterR_any s[k] w
          have hdi := fun w => digitR_any s[k] w
          have tb0 := TBox.new wo 41 (.int .i64 3) (.string { data := #[] }) (.int .i64 0) (.int .i64 k)
          have hB0 : Below wo.heap.size wo (wo.alloc (.cells #[.int .i64 3, .string { data := #[] }, .int .i64 0, .int .i64 k] 41)) := (Below.refl _ wo).alloc (Nat.le_refl _) _
          by_cases hLt : letterB s[k] = true
          · have hT : headT (s.data.toList.drop k) = some (1, runP partB (s.data.toList.drop k), 0) := by
              rw [hd]
              simp only [headT]
              rw [if_pos hLt]
            have hDf : digitB s[k] = false := by
              have h1 : 97 ≤ s[k].toNat ∧ s[k].toNat ≤ 122 := by simpa [letterB] using hLt
              unfold digitB
              rw [decide_eq_false (show ¬ s[k].toNat ≤ 57 by omega), Bool.and_false]
            simp only [hLt] at hle
            simp only [hDf] at hdi
            have hrun := fun w => refRun_part (s.extract k s.size) w hx2
            rw [hsx] at hrun
            have hst := lexA_some s.data.toList k hlt' hbl' hT
            have hlen := headT_len hT
            rw [List.length_drop, data_len] at hlen
            generalize hn : runP partB (s.data.toList.drop k) = n at hT hrun hst hlen
            have hL2 := hL.out
            rw [hst, ← ext_mid] at hL2
            have hn0 : (1 : Int) ≤ n := by omega
            have hkn : (k : Int) + n ≤ s.size := by omega
            have hnz : ((n : Int) == 0) = false := by
              have : ¬ (n : Int) = 0 := by omega
              simpa using this
            have hn1 : n ≤ s.size := by omega
            have hL2 : Hid (lexA s.data.toList 0 = ((ts ++ [⟨1, (s.extract k (k + n)).data.toList, 0, k⟩]) ++ (lexA s.data.toList (k + n)).1, (lexA s.data.toList (k + n)).2)) := by
              show _ = _
              rw [hL2]; simp
            have hb100 : ts.length + 1 ≤ 100000 := by omega
            have hkn2 : k + n ≤ s.size := by omega
            have hn1' : 1 ≤ n := by omega
            have Hlen := hid hlen
            clear hL hbl hbl' hT hd hsx hst hn hby hlen hx
            go_wp2_with (first
              | (go_at_call 54; refine (hsg _).mono ?_; rintro e w1 ⟨rfl, hb1⟩
                 have tb1 := tb0.below hb1 (by simp)
                 have c0 := tb1.c0
                 have c1 := tb1.c1
                 have c2 := tb1.c2
                 have c3 := tb1.c3
                 have f0 := tb1.f0
                 have hBX := ((hB0.trans (hb1.mono (by simp))).setCell (p := ⟨wo.heap.size, 0, none⟩) (Nat.le_refl _) (.int .i64 1)).setCell (p := ⟨wo.heap.size, 1, none⟩) (Nat.le_refl _) (.string (s.extract k (k + n)))
                 have hTX := tko_later hO.out hBX
                 have hKX := hK.next hBX)
              | (go_at_call 55; refine (hle _).mono ?_; rintro e w2 ⟨rfl, rfl⟩)
              | (go_at_call 57; refine (hdi _).mono ?_; rintro e w2 ⟨rfl, rfl⟩)
              | (go_at_call 56; refine (hrun _).mono ?_; rintro e w2 ⟨rfl, rfl⟩)
              | (at_builtin
                 refine list_tk (base := w.heap.size) (.tmp 96) (.tmp 98) (.slice a1 ts.length cp) ts.length (ts.flatMap tkC) 1 [.int .i64 1, .string (s.extract k (k + n)), .int .i64 0, .int .i64 k] ?_ ?_ ?_ ?_ ?_ ?_ ?_ ?_ ?_
                 (focus rfl); (focus rfl); (focus rfl); (focus exact World.ownsRow.alloc hTX _); (focus exact ⟨_, _, rfl, src_new' (by simp) rfl⟩); (focus exact one_tk _ _ _ _); (focus exact hb100); (focus (have := hKX.1.size; simp at this ⊢; omega))
                 intro v2 w2 hown2 hg2 hat2
                 rw [tkC_of] at hown2
                 have hO2 := hid (tko_app hown2)
                 have hK2 := kp_app hKX hTX hg2
                 obtain ⟨a2, cp2, rfl, _⟩ := TkO.in_ hO2.out)
              | fail)
            go_roundw
            case rel => exact ⟨k + n, _, hkn2, by simp, hL2, by rw [List.length_append, List.length_singleton]; omega, hK2, by rwa [List.length_append, List.length_singleton] at hO2⟩
            case measure => simp [intOf]; omega
          · have hLf : letterB s[k] = false := by simpa using hLt
            simp only [hLf] at hle
            by_cases hDt : digitB s[k] = true
            · simp only [hDt] at hdi
              have hrun := fun w => refRun_digit (s.extract k s.size) w hx2
              rw [hsx] at hrun
              have hT : headT (s.data.toList.drop k) = if 6 < runP digitB (s.data.toList.drop k) ∨ 1 < runP digitB (s.data.toList.drop k) ∧ s[k] = 48 then none else some (2, runP digitB (s.data.toList.drop k), numLx ((s.data.toList.drop k).take (runP digitB (s.data.toList.drop k)))) := by
                rw [hd]
                simp only [headT]
                rw [if_neg hLt, if_pos hDt]
              have hall := run_digits (s.data.toList.drop k)
              have hnle := runP_le digitB (s.data.toList.drop k)
              rw [List.length_drop, data_len] at hnle
              have hnpos : 1 ≤ runP digitB (s.data.toList.drop k) := by rw [hd, runP_cons_pos hDt]; omega
              generalize hn : runP digitB (s.data.toList.drop k) = n at hT hrun hall hnle hnpos
              obtain ⟨dk, hdk⟩ : ∃ dk, s.data.toList.drop k = dk := ⟨_, rfl⟩
              have hst0 := lexA_none s.data.toList k hlt' hbl'
              have hst1 := fun (v : Int) => lexA_some s.data.toList k hlt' hbl' (k := 2) (n := n) (v := v)
              have hbyte : ∀ j, j < n → ∃ h : k + j < s.size, dk[j]? = some s[k + j] ∧ digitB s[k + j] = true := by
                intro j hj
                have h : k + j < s.size := by omega
                have e : dk[j]? = some s[k + j] := by
                  rw [← hdk, List.getElem?_drop, List.getElem?_eq_getElem (by rw [data_len]; exact h)]
                  rfl
                refine ⟨h, e, hall _ ?_⟩
                rw [hdk]
                exact List.mem_of_getElem? (i := j) (by rw [List.getElem?_take_of_lt hj]; exact e)
              have Hall := hid hall
              have HT := hid hT
              have Hst0 := hid hst0
              have Hst1 := hid hst1
              have Hbyte := hid hbyte
              have Hnle := hid hnle
              have HL := hid hL
              have Hdk := hid hdk
              have Hd := hid hd
              clear hall hT hst0 hst1 hbyte hnle hbl hbl' hd hsx hn hby hx hL hdk
              have n1 : (1 : Int) ≤ n := by omega
              go_wp2_with (first
                | (go_at_call 54; refine (hsg _).mono ?_; rintro e w1 ⟨rfl, hb1⟩
                   have tb1 := tb0.below hb1 (by simp)
                   have c0 := tb1.c0
                   have c1 := tb1.c1
                   have c2 := tb1.c2
                   have c3 := tb1.c3
                   have f0 := tb1.f0
                   have hBX := (hB0.trans (hb1.mono (by simp))).setCell (p := ⟨wo.heap.size, 0, none⟩) (Nat.le_refl _) (.int .i64 2))
                | (go_at_call 55; refine (hle _).mono ?_; rintro e w2 ⟨rfl, rfl⟩)
                | (go_at_call 57; refine (hdi _).mono ?_; rintro e w2 ⟨rfl, rfl⟩)
                | (go_at_call 56; refine (hrun _).mono ?_; rintro e w2 ⟨rfl, rfl⟩)
                | fail)
              have tbX : TBox (w1.setCell ⟨wo.heap.size, 0, none⟩ (.int .i64 2)) wo.heap.size (.int .i64 2) (.string { data := #[] }) (.int .i64 0) (.int .i64 k) := ⟨by have := tb1.lt; simpa [World.setCell] using this, by go_simp, by go_simp, by go_simp, by go_simp, fun o => by go_simp⟩
              generalize World.setCell w1 _ _ = WX at hBX tbX ⊢
              clear hb1 tb1 c0 c1 c2 c3 f0 hle hdi hrun hsg tb0 hB0
              go_loopw [9] (fun jv wj => ∃ j : Nat, j ≤ n ∧ (n < 7 ∨ j = 0) ∧ jv = .int .i64 j ∧ Below wo.heap.size wo wj ∧ TBox wj wo.heap.size (.int .i64 2) (.string { data := #[] }) (.int .i64 (numLx (dk.take j))) (.int .i64 k)) (fun jv _ => n - (intOf jv).toNat)
              case atStart => exact ⟨0, Nat.zero_le _, .inr rfl, rfl, hBX, by simpa [numLx] using tbX⟩
              case round =>
                obtain ⟨j, hjn, hj7, rfl, hBj, tbj⟩ := hrel
                have j0 : (0 : Int) ≤ j := by omega
                have c0 := tbj.c0
                have c1 := tbj.c1
                have c2 := tbj.c2
                have c3 := tbj.c3
                have f0 := tbj.f0
                by_cases hgo : j < n ∧ n < 7
                · obtain ⟨hb1, hb2, hb3⟩ := Hbyte.out j hgo.1
                  have d1 : decide ((j : Int) < n) = true := decide_eq_true (by omega)
                  have d2 : decide ((n : Int) < 7) = true := decide_eq_true (by omega)
                  have d1' : (j : Int) < n := by omega
                  have d2' : (n : Int) < 7 := by omega
                  obtain ⟨hlo, hhi⟩ := digit_bounds hb3
                  have hsn : numLx (dk.take (j + 1)) = 10 * numLx (dk.take j) + ((s[k + j].toNat : Int) - 48) := by
                    have : dk.take (j + 1) = dk.take j ++ [s[k + j]] := by
                      rw [List.take_add_one, hb2]
                      rfl
                    rw [this, numL_snoc]
                  have hN := numL_numN (dk.take j) (fun c hc => Hall.out c (by rw [Hdk.out]; exact (List.take_subset_take_left dk (by omega : j ≤ n)) hc))
                  have hNlt := numN_lt (dk.take j) (fun c hc => Hall.out c (by rw [Hdk.out]; exact (List.take_subset_take_left dk (by omega : j ≤ n)) hc))
                  have hlj : (dk.take j).length ≤ 6 := by rw [List.length_take]; omega
                  have hp6 : 10 ^ (dk.take j).length ≤ 10 ^ 6 := Nat.pow_le_pow_right (by omega) hlj
                  generalize numLx (dk.take j) = N at *
                  have N0 : 0 ≤ N := by omega
                  have N1 : N ≤ 1000000 := by omega
                  have Hsn := hid hsn
                  clear hsn hN hNlt hlj hp6
                  have kj : ((k : Int) + (j : Int)).toNat = k + j := by omega
                  have kj0 : (0 : Int) ≤ (k : Int) + j := by omega
                  have kj1 : (k : Int) + j < s.size := by omega
                  have b0 : (48 : Int) ≤ s[k + j].toNat := by omega
                  have b1 : (s[k + j].toNat : Int) ≤ 57 := by omega
                  have hw1 : IntKind.i64.wrap (10 * N) = 10 * N := IntWalk.i64_in _ (by omega)
                  have hw2 : IntKind.u8.wrap ((s[k + j].toNat : Int) - 48) = (s[k + j].toNat : Int) - 48 := by
                    exact IntWalk.u8_in _ ⟨by omega, by omega⟩
                  have hw3 : IntKind.i64.wrap (10 * N + ((s[k + j].toNat : Int) - 48)) = 10 * N + ((s[k + j].toNat : Int) - 48) := IntWalk.i64_in _ (by omega)
                  have hw4 : IntKind.i64.wrap ((k : Int) + j) = (k : Int) + j := IntWalk.i64_in _ (by omega)
                  have h7 := hgo.2
                  have hj1 := hgo.1
                  clear hgo hb2 hb3 hlo hhi
                  go_wp2_with fail
                  go_region
                  go_wp2_with fail
                  exact ⟨⟨j + 1, hj1, .inl h7, by simp, (hBj.setCell (p := ⟨wo.heap.size, 2, none⟩) (Nat.le_refl _) _).drew, by rw [Hsn.out]; exact tbj.put2 _⟩, by simp [intOf]; omega⟩
                · have hKX0 := hK.next hBj
                  have hx48 : s[k] = 48 ↔ ((s[k].toNat : Int) == 48) = true := by
                    constructor
                    · intro e; rw [e]; rfl
                    · intro e
                      have e : (s[k].toNat : Int) = 48 := by simpa using e
                      exact UInt8.toNat_inj.1 (by show s[k].toNat = 48; omega)
                  by_cases h7 : n < 7
                  · obtain rfl : j = n := by omega
                    have e1 : decide ((j : Int) < j) = false := decide_eq_false (by omega)
                    have e2 : decide ((j : Int) < 7) = true := decide_eq_true (by omega)
                    have e4 : decide ((6 : Int) < j) = false := decide_eq_false (by omega)
                    have hnz : ((j : Int) == 0) = false := by
                      have : ¬ (j : Int) = 0 := by omega
                      simpa using this
                    by_cases hbad : 1 < j ∧ s[k] = 48
                    · have hT := HT.out
                      rw [if_pos (.inr hbad)] at hT
                      have hfin : Hid (lexR s.data.toList = ([], 20, (k : Int))) := by
                        show _ = _
                        unfold lexR
                        rw [if_neg hl10.out, HL.out, Hst0.out hT]
                      have e3 : decide ((1 : Int) < j) = true := decide_eq_true (by omega)
                      have e5 := hx48.1 hbad.2
                      clear hx48 hbad hT hgo hjn
                      go_wp2_with fail
                      go_ret3
                      unfold LexPost
                      rw [hfin.out]
                      exact ⟨none, 0, rfl, TkIn.nil_, hKX0.1⟩
                    · have hT := HT.out
                      rw [if_neg (by intro h; rcases h with h | h; omega; exact hbad h)] at hT
                      have hst := Hst1.out _ hT
                      have hlen := headT_len hT
                      rw [List.length_drop, data_len] at hlen
                      have hL2 := HL.out
                      have hNN : numLx ((s.data.toList.drop k).take j) = numLx (dk.take j) := by rw [Hdk.out]
                      rw [hst, hNN, ← ext_mid] at hL2
                      generalize numLx (dk.take j) = N at *
                      have hL2 : Hid (lexA s.data.toList 0 = ((ts ++ [⟨2, (s.extract k (k + j)).data.toList, N, k⟩]) ++ (lexA s.data.toList (k + j)).1, (lexA s.data.toList (k + j)).2)) := by
                        show _ = _
                        rw [hL2]; simp
                      have hkn : (k : Int) + j ≤ s.size := by omega
                      have hb100 : ts.length + 1 ≤ 100000 := by omega
                      have hkn2 : k + j ≤ s.size := by omega
                      have Hlen := hid hlen
                      have hBX2 := hBj.setCell (p := ⟨wo.heap.size, 1, none⟩) (Nat.le_refl _) (.string (s.extract k (k + j)))
                      have hTX := tko_later hO.out hBX2
                      have hKX := hK.next hBX2
                      have hor : decide ((1 : Int) < j) = false ∨ (decide ((1 : Int) < j) = true ∧ ((s[k].toNat : Int) == 48) = false) := by
                        by_cases h1 : 1 < j
                        · refine .inr ⟨decide_eq_true (by omega), ?_⟩
                          cases hc : ((s[k].toNat : Int) == 48) with
                          | false => rfl
                          | true => exact absurd ⟨h1, hx48.2 hc⟩ hbad
                        · exact .inl (decide_eq_false (by omega))
                      clear hx48 hbad hT hgo hst hNN hlen hjn
                      rcases hor with e3 | ⟨e3, e5⟩
                      all_goals
                        go_wp2_with (first
                          | (at_builtin
                             refine list_tk (base := w.heap.size) (.tmp 96) (.tmp 98) (.slice a1 ts.length cp) ts.length (ts.flatMap tkC) 1 [.int .i64 2, .string (s.extract k (k + j)), .int .i64 N, .int .i64 k] ?_ ?_ ?_ ?_ ?_ ?_ ?_ ?_ ?_
                             (focus rfl); (focus rfl); (focus rfl); (focus exact World.ownsRow.alloc hTX _); (focus exact ⟨_, _, rfl, src_new' (by simp) rfl⟩); (focus exact one_tk _ _ _ _); (focus exact hb100); (focus (have := hKX.1.size; simp at this ⊢; omega))
                             intro v2 w2 hown2 hg2 hat2
                             rw [tkC_of] at hown2
                             have hO2 := hid (tko_app hown2)
                             have hK2 := kp_app hKX hTX hg2
                             obtain ⟨a2, cp2, rfl, _⟩ := TkO.in_ hO2.out)
                          | fail)
                        go_roundw
                        case rel => exact ⟨k + j, _, hkn2, by simp, hL2, by rw [List.length_append, List.length_singleton]; omega, hK2, by rwa [List.length_append, List.length_singleton] at hO2⟩
                        case measure => simp [intOf]; omega
                  · obtain rfl : j = 0 := by omega
                    have hT := HT.out
                    rw [if_pos (.inl (by omega))] at hT
                    have hfin : Hid (lexR s.data.toList = ([], 20, (k : Int))) := by
                      show _ = _
                      unfold lexR
                      rw [if_neg hl10.out, HL.out, Hst0.out hT]
                    have e1 : decide ((0 : Int) < n) = true := decide_eq_true (by omega)
                    have e1' : (0 : Int) < n := by omega
                    have e2 : decide ((n : Int) < 7) = false := decide_eq_false (by omega)
                    have e3 : decide ((1 : Int) < n) = true := decide_eq_true (by omega)
                    have e4 : decide ((6 : Int) < n) = true := decide_eq_true (by omega)
                    clear hT hgo hx48
                    cases e5 : ((s[k].toNat : Int) == 48)
                    all_goals
                      go_wp2_with fail
                      go_ret3
                      unfold LexPost
                      rw [hfin.out]
                      exact ⟨none, 0, rfl, TkIn.nil_, hKX0.1⟩
            · have hDf : digitB s[k] = false := by simpa using hDt
              simp only [hDf] at hdi
              obtain ⟨hg0, hg1⟩ := sgnL_head s[k] (s.data.toList.drop (k + 1)) hLt hDt
              rw [← hd] at hg0 hg1
              generalize hn : sgnL (s.data.toList.drop k) = n at hsg hg0 hg1
              by_cases hn0 : n = 0
              · have hT := hg0 hn0
                have hst := lexA_none s.data.toList k hlt' hbl' hT
                have hfin : Hid (lexR s.data.toList = ([], 20, (k : Int))) := by
                  show _ = _
                  unfold lexR
                  rw [if_neg hl10.out, hL.out, hst]
                subst hn0
                clear hL hbl hbl' hT hd hsx hst hn hby hx hg0 hg1
                go_wp2_with (first
                  | (go_at_call 54; refine (hsg _).mono ?_; rintro e w1 ⟨rfl, hb1⟩
                     have tb1 := tb0.below hb1 (by simp)
                     have c0 := tb1.c0
                     have c1 := tb1.c1
                     have c2 := tb1.c2
                     have c3 := tb1.c3
                     have f0 := tb1.f0
                     have hBX := (hB0.trans (hb1.mono (by simp)))
                     have hKX := hK.next hBX)
                  | (go_at_call 55; refine (hle _).mono ?_; rintro e w2 ⟨rfl, rfl⟩)
                  | (go_at_call 57; refine (hdi _).mono ?_; rintro e w2 ⟨rfl, rfl⟩)
                  | fail)
                go_ret3
                unfold LexPost
                rw [hfin.out]
                exact ⟨none, 0, rfl, TkIn.nil_, hKX.1⟩
              · have hT := hg1 hn0
                have hst := lexA_some s.data.toList k hlt' hbl' hT
                have hlen := headT_len hT
                rw [List.length_drop, data_len] at hlen
                have hL2 := hL.out
                rw [hst, ← ext_mid] at hL2
                have hkn : (k : Int) + n ≤ s.size := by omega
                have hn1 : (1 : Int) ≤ n := by omega
                have hnz : ((n : Int) == 0) = false := by
                  have : ¬ (n : Int) = 0 := by omega
                  simpa using this
                have hL2 : Hid (lexA s.data.toList 0 = ((ts ++ [⟨3, (s.extract k (k + n)).data.toList, 0, k⟩]) ++ (lexA s.data.toList (k + n)).1, (lexA s.data.toList (k + n)).2)) := by
                  show _ = _
                  rw [hL2]; simp
                have hb100 : ts.length + 1 ≤ 100000 := by omega
                have hkn2 : k + n ≤ s.size := by omega
                have Hlen := hid hlen
                clear hL hbl hbl' hT hd hsx hst hn hby hlen hx hg0 hg1
                go_wp2_with (first
                  | (go_at_call 54; refine (hsg _).mono ?_; rintro e w1 ⟨rfl, hb1⟩
                     have tb1 := tb0.below hb1 (by simp)
                     have c0 := tb1.c0
                     have c1 := tb1.c1
                     have c2 := tb1.c2
                     have c3 := tb1.c3
                     have f0 := tb1.f0
                     have hBX := (hB0.trans (hb1.mono (by simp))).setCell (p := ⟨wo.heap.size, 1, none⟩) (Nat.le_refl _) (.string (s.extract k (k + n)))
                     have hTX := tko_later hO.out hBX
                     have hKX := hK.next hBX)
                  | (go_at_call 55; refine (hle _).mono ?_; rintro e w2 ⟨rfl, rfl⟩)
                  | (go_at_call 57; refine (hdi _).mono ?_; rintro e w2 ⟨rfl, rfl⟩)
                  | (at_builtin
                     refine list_tk (base := w.heap.size) (.tmp 96) (.tmp 98) (.slice a1 ts.length cp) ts.length (ts.flatMap tkC) 1 [.int .i64 3, .string (s.extract k (k + n)), .int .i64 0, .int .i64 k] ?_ ?_ ?_ ?_ ?_ ?_ ?_ ?_ ?_
                     (focus rfl); (focus rfl); (focus rfl); (focus exact World.ownsRow.alloc hTX _); (focus exact ⟨_, _, rfl, src_new' (by simp) rfl⟩); (focus exact one_tk _ _ _ _); (focus exact hb100); (focus (have := hKX.1.size; simp at this ⊢; omega))
                     intro v2 w2 hown2 hg2 hat2
                     rw [tkC_of] at hown2
                     have hO2 := hid (tko_app hown2)
                     have hK2 := kp_app hKX hTX hg2
                     obtain ⟨a2, cp2, rfl, _⟩ := TkO.in_ hO2.out)
                  | fail)
                go_roundw
                case rel => exact ⟨k + n, _, hkn2, by simp, hL2, by rw [List.length_append, List.length_singleton]; omega, hK2, by rwa [List.length_append, List.length_singleton] at hO2⟩
                case measure => simp [intOf]; omega
      · obtain rfl : k = s.size := by omega
        have hfin : Hid (lexR s.data.toList = (ts ++ [⟨0, [], 0, s.size⟩], 0, 0)) := by
          show _ = _
          unfold lexR
          rw [if_neg hl10.out, hL.out, lexA_end _ _ (Nat.le_of_eq (data_len s))]
        have hb100 : ts.length + 1 ≤ 100000 := by omega
        clear hL
        go_wp2_with (first
          | (at_builtin
             refine list_tk (base := w.heap.size) (.tmp 103) (.tmp 107) (.slice a1 ts.length cp) ts.length (ts.flatMap tkC) 1 [.int .i64 0, .string { data := #[] }, .int .i64 0, .int .i64 s.size] ?_ ?_ ?_ ?_ ?_ ?_ ?_ ?_ ?_
             (focus rfl); (focus rfl); (focus rfl); (focus exact World.ownsRow.alloc hO.out _); (focus exact ⟨_, _, rfl, src_new rfl⟩); (focus exact one_tk _ _ _ _); (focus exact hb100); (focus (have := hK.1.size; simp; omega))
             intro v2 w2 hown2 hg2 hat2
             rw [tkC_of] at hown2
             have hO2 := tko_app hown2
             have hK2 := kp_app hK hO.out hg2
             obtain ⟨a2, c2, rfl, hin2⟩ := hO2.in_)
          | fail)
        go_ret3
        unfold LexPost
        rw [hfin.out]
        exact ⟨a2, c2, by simp, hin2, hK2.1⟩
end Go.Proofs.YtogopcejapklgaaGreatDoor
