/- What a byte is; the run ahead of a text. -/
import Derived.Test.YtphlbbnmligadaaGreatDoorBunM
import Derived.Test.YtphlbbnmligadaaGreatDoorRows
import Derived.BigQuiet
import Derived.Deep.QuietTactic
import Derived.Lib.Strings
import Derived.Test.YtphlbbnmligadaaGreatDoorRShelf
import Derived.Test.YtphlbbnmligadaaGreatDoorBunS
namespace Go.Proofs.YtphlbbnmligadaaGreatDoor
open Go.RowKit

theorem letterB_int (c : UInt8) : letterB c = (decide ((97 : Int) ≤ c.toNat) && decide ((c.toNat : Int) ≤ 122)) := by
  unfold letterB
  congr 1 <;> (apply decide_eq_decide.2; omega)
theorem digitB_int (c : UInt8) : digitB c = (decide ((48 : Int) ≤ c.toNat) && decide ((c.toNat : Int) ≤ 57)) := by
  unfold digitB
  congr 1 <;> (apply decide_eq_decide.2; omega)

set_option maxHeartbeats 1000000 in
theorem letter_any (c : UInt8) (w : World) : Calls Tryz.prog 68 #[.int .u8 c.toNat] w fun e w' => e = .returned (.bool (letterB c)) ∧ w = w' := by
  rw [letterB_int]
  by_cases h : (97 : Int) ≤ c.toNat <;> by_cases h' : (c.toNat : Int) ≤ 122
  all_goals
    first | rw [decide_eq_true h] | rw [decide_eq_false h]
    first | rw [decide_eq_true h'] | rw [decide_eq_false h']
    go_enter Tryz.func68, Tryz.ntmps68
    go_wp2_with fail
    go_ret
    exact ⟨rfl, rfl⟩

set_option maxHeartbeats 1000000 in
theorem digit_any (c : UInt8) (w : World) : Calls Tryz.prog 97 #[.int .u8 c.toNat] w fun e w' => e = .returned (.bool (digitB c)) ∧ w = w' := by
  rw [digitB_int]
  by_cases h : (48 : Int) ≤ c.toNat <;> by_cases h' : (c.toNat : Int) ≤ 57
  all_goals
    first | rw [decide_eq_true h] | rw [decide_eq_false h]
    first | rw [decide_eq_true h'] | rw [decide_eq_false h']
    go_enter Tryz.func97, Tryz.ntmps97
    go_wp2_with fail
    go_ret
    exact ⟨rfl, rfl⟩

set_option maxHeartbeats 1000000 in
theorem letterR_any (c : UInt8) (w : World) : Calls Tryz.prog 104 #[.int .u8 c.toNat] w fun e w' => e = .returned (.bool (letterB c)) ∧ w = w' := by
  rw [letterB_int]
  by_cases h : (97 : Int) ≤ c.toNat <;> by_cases h' : (c.toNat : Int) ≤ 122
  all_goals
    first | rw [decide_eq_true h] | rw [decide_eq_false h]
    first | rw [decide_eq_true h'] | rw [decide_eq_false h']
    go_enter Tryz.func104, Tryz.ntmps104
    go_wp2_with fail
    go_ret
    exact ⟨rfl, rfl⟩

set_option maxHeartbeats 1000000 in
theorem digitR_any (c : UInt8) (w : World) : Calls Tryz.prog 107 #[.int .u8 c.toNat] w fun e w' => e = .returned (.bool (digitB c)) ∧ w = w' := by
  rw [digitB_int]
  by_cases h : (48 : Int) ≤ c.toNat <;> by_cases h' : (c.toNat : Int) ≤ 57
  all_goals
    first | rw [decide_eq_true h] | rw [decide_eq_false h]
    first | rw [decide_eq_true h'] | rw [decide_eq_false h']
    go_enter Tryz.func107, Tryz.ntmps107
    go_wp2_with fail
    go_ret
    exact ⟨rfl, rfl⟩

set_option maxHeartbeats 1000000 in
theorem part_any (c : UInt8) (w : World) : Calls Tryz.prog 70 #[.int .u8 c.toNat] w fun e w' => e = .returned (.bool (partB c)) ∧ w = w' := by
  have hp : Hid (partB c = (letterB c || digitB c)) := rfl
  go_enter Tryz.func70, Tryz.ntmps70
  go_wp2_with (first
    | (go_at_call 68; refine (letter_any c w).mono ?_; rintro e w1 ⟨rfl, rfl⟩)
    | (go_at_call 97; refine (digit_any c w).mono ?_; rintro e w1 ⟨rfl, rfl⟩)
    | fail)
  all_goals go_ret
  all_goals exact ⟨ret_bool (by rw [hp.out]; simp [*]), rfl⟩

theorem data_len (s : ByteArray) : s.data.toList.length = s.size := rfl
theorem drop_byte (s : ByteArray) (k : Nat) (h : k < s.size) : s.data.toList.drop k = s[k] :: s.data.toList.drop (k + 1) := by
  rw [List.drop_eq_getElem_cons (by rw [data_len]; exact h)]
  rfl

set_option maxHeartbeats 2000000 in
theorem run_part (s : ByteArray) (w : World) (hs : s.size ≤ 100000) :
    Calls Tryz.prog 69 #[.string s, .func (.func 70) #[] #[]] w fun e w' => e = .returned (.int .i64 (runP partB s.data.toList)) ∧ w = w' := by
  go_enter Tryz.func69, Tryz.ntmps69
  go_wp2_with fail
  go_loopw [8] (fun i wr => ∃ k : Nat, k ≤ s.size ∧ i = .int .i64 k ∧ Hid (runP partB s.data.toList = k + runP partB (s.data.toList.drop k)) ∧ wr = w) (fun i _ => s.size - (intOf i).toNat)
  case atStart => exact ⟨0, Nat.zero_le _, rfl, by simp [Hid], rfl⟩
  case round =>
    obtain ⟨k, hk, rfl, hp, hw⟩ := hrel
    subst hw
    by_cases hlt : k < s.size
    · have k0 : (0 : Int) ≤ k := by omega
      have k1 : (k : Int) < s.size := by omega
      have hd := hid (drop_byte s k hlt)
      cases hb : partB s[k] with
      | true =>
        have hp2 : Hid (runP partB s.data.toList = (k + 1 : Nat) + runP partB (s.data.toList.drop (k + 1))) := by
          show _ = _
          rw [hp.out, hd.out, runP_cons_pos hb]; omega
        clear hp hd
        go_wp2_with (first
          | (go_at_call 70; refine (part_any s[k] _).mono ?_; rintro e w1 ⟨rfl, rfl⟩)
          | fail)
        go_roundw
        case rel => exact ⟨k + 1, by omega, by simp, hp2, by trivial⟩
        case measure => simp [intOf]; omega
      | false =>
        have hp2 : Hid (runP partB s.data.toList = k) := by
          show _ = _
          rw [hp.out, hd.out, runP_cons_neg hb]; omega
        clear hp hd
        go_wp2_with (first
          | (go_at_call 70; refine (part_any s[k] _).mono ?_; rintro e w1 ⟨rfl, rfl⟩)
          | fail)
        go_ret
        exact ⟨ret_int (by rw [hp2.out]), rfl⟩
    · obtain rfl : k = s.size := by omega
      have hp2 : Hid (runP partB s.data.toList = s.size) := by
        show _ = _
        rw [hp.out, List.drop_eq_nil_of_le (Nat.le_of_eq (data_len s)), runP_nil]; omega
      clear hp
      go_wp2_with fail
      go_ret
      exact ⟨ret_int (by rw [hp2.out]), rfl⟩

set_option maxHeartbeats 2000000 in
theorem run_digit (s : ByteArray) (w : World) (hs : s.size ≤ 100000) :
    Calls Tryz.prog 69 #[.string s, .func (.func 97) #[] #[]] w fun e w' => e = .returned (.int .i64 (runP digitB s.data.toList)) ∧ w = w' := by
  go_enter Tryz.func69, Tryz.ntmps69
  go_wp2_with fail
  go_loopw [8] (fun i wr => ∃ k : Nat, k ≤ s.size ∧ i = .int .i64 k ∧ Hid (runP digitB s.data.toList = k + runP digitB (s.data.toList.drop k)) ∧ wr = w) (fun i _ => s.size - (intOf i).toNat)
  case atStart => exact ⟨0, Nat.zero_le _, rfl, by simp [Hid], rfl⟩
  case round =>
    obtain ⟨k, hk, rfl, hp, hw⟩ := hrel
    subst hw
    by_cases hlt : k < s.size
    · have k0 : (0 : Int) ≤ k := by omega
      have k1 : (k : Int) < s.size := by omega
      have hd := hid (drop_byte s k hlt)
      cases hb : digitB s[k] with
      | true =>
        have hp2 : Hid (runP digitB s.data.toList = (k + 1 : Nat) + runP digitB (s.data.toList.drop (k + 1))) := by
          show _ = _
          rw [hp.out, hd.out, runP_cons_pos hb]; omega
        clear hp hd
        go_wp2_with (first
          | (go_at_call 97; refine (digit_any s[k] _).mono ?_; rintro e w1 ⟨rfl, rfl⟩)
          | fail)
        go_roundw
        case rel => exact ⟨k + 1, by omega, by simp, hp2, by trivial⟩
        case measure => simp [intOf]; omega
      | false =>
        have hp2 : Hid (runP digitB s.data.toList = k) := by
          show _ = _
          rw [hp.out, hd.out, runP_cons_neg hb]; omega
        clear hp hd
        go_wp2_with (first
          | (go_at_call 97; refine (digit_any s[k] _).mono ?_; rintro e w1 ⟨rfl, rfl⟩)
          | fail)
        go_ret
        exact ⟨ret_int (by rw [hp2.out]), rfl⟩
    · obtain rfl : k = s.size := by omega
      have hp2 : Hid (runP digitB s.data.toList = s.size) := by
        show _ = _
        rw [hp.out, List.drop_eq_nil_of_le (Nat.le_of_eq (data_len s)), runP_nil]; omega
      clear hp
      go_wp2_with fail
      go_ret
      exact ⟨ret_int (by rw [hp2.out]), rfl⟩

end Go.Proofs.YtphlbbnmligadaaGreatDoor
namespace Go.Proofs.YtphlbbnmligadaaGreatDoor
open Go.RowKit

def keyZ : List ByteArray := [⟨#[118, 97, 114, 115]⟩, ⟨#[100, 111, 109, 97, 105, 110]⟩, ⟨#[116, 104, 114, 101, 97, 100]⟩, ⟨#[102, 101, 110, 99, 101]⟩, ⟨#[115, 102, 101, 110, 99, 101]⟩, ⟨#[99, 97, 115]⟩, ⟨#[108, 111, 99, 107]⟩, ⟨#[117, 110, 108, 111, 99, 107]⟩, ⟨#[97, 115, 115, 101, 114, 116]⟩, ⟨#[105, 102]⟩, ⟨#[101, 108, 115, 101]⟩, ⟨#[119, 104, 105, 108, 101]⟩]
def regZ : List ByteArray := [⟨#[114, 48]⟩, ⟨#[114, 49]⟩, ⟨#[114, 50]⟩, ⟨#[114, 51]⟩]
def keyB (s : ByteArray) : Bool := Lib.containsS keyZ s
def regI (s : ByteArray) : Int := Lib.idxOfS regZ s

theorem row_cell (w : World) (zs : List ByteArray) (T : TypeId) (j : Nat) (hj : j < zs.length) : (w.alloc (.cells (zs.map Value.string).toArray T)).cell? ⟨w.heap.size, 0 + j, none⟩ = some (.string (zs.getD j ByteArray.empty)) := by
  rw [World.cell?_alloc_at _ _ _ _ (by simp)]
  simp [hj]

set_option maxRecDepth 100000 in
set_option maxHeartbeats 2000000 in
theorem key_any (s : ByteArray) (w : World) : Calls Tryz.prog 71 #[.string s] w fun e w' => e = .returned (.bool (keyB s)) ∧ Below w.heap.size w w' := by
  have hcon := slices_Contains_string w.heap.size 0 12 12 keyZ s (w.alloc (.cells (keyZ.map Value.string).toArray 9)) (by decide) (by decide) (fun j hj => row_cell w keyZ _ j hj)
  have ht : Lib.containsS (keyZ.take 12) s = keyB s := rfl
  rw [ht] at hcon
  generalize keyB s = b at hcon ⊢
  go_enter Tryz.func71, Tryz.ntmps71
  go_wp2_with (first
    | (go_at_call 110; refine hcon.mono ?_; rintro e w1 ⟨rfl, rfl⟩)
    | fail)
  go_ret
  exact ⟨rfl, (Below.refl _ w).alloc (Nat.le_refl _) _⟩

set_option maxRecDepth 100000 in
set_option maxHeartbeats 2000000 in
theorem reg_any (s : ByteArray) (w : World) : Calls Tryz.prog 72 #[.string s] w fun e w' => e = .returned (.int .i64 (regI s)) ∧ Below w.heap.size w w' := by
  have hcon := slices_Index_string w.heap.size 0 4 4 regZ s (w.alloc (.cells (regZ.map Value.string).toArray 9)) (by decide) (by decide) (fun j hj => row_cell w regZ _ j hj)
  have ht : Lib.idxOfS (regZ.take 4) s = regI s := rfl
  rw [ht] at hcon
  generalize regI s = b at hcon ⊢
  go_enter Tryz.func72, Tryz.ntmps72
  go_wp2_with (first
    | (go_at_call 111; refine hcon.mono ?_; rintro e w1 ⟨rfl, rfl⟩)
    | fail)
  go_ret
  exact ⟨rfl, (Below.refl _ w).alloc (Nat.le_refl _) _⟩

def nameB (s : ByteArray) : Bool :=
  match s.data.toList with
  | [] => false
  | c :: _ => decide (s.size ≤ 12) && letterB c && decide (runP partB s.data.toList = s.size) && !keyB s && decide (regI s < 0)

set_option maxRecDepth 100000 in
set_option maxHeartbeats 4000000 in
theorem name_any (s : ByteArray) (w : World) : Calls Tryz.prog 41 #[.string s] w fun e w' => e = .returned (.bool (nameB s)) ∧ Below w.heap.size w w' := by
  cases hl : s.data.toList with
  | nil =>
    have he : s.toList.isEmpty = true := by rw [Lib.toList_data, hl]; rfl
    have hn : Hid (nameB s = false) := by show _ = _; unfold nameB; rw [hl]
    clear hl
    go_enter Tryz.func41, Tryz.ntmps41
    go_wp2_with fail
    go_ret
    exact ⟨ret_bool (by rw [hn.out]), Below.refl _ _⟩
  | cons c r =>
    have hne : s.toList.isEmpty = false := by rw [Lib.toList_data, hl]; rfl
    have h1 : 1 ≤ s.size := by rw [← data_len, hl]; simp
    have hc : s[0] = c := by
      have := drop_byte s 0 h1
      rw [List.drop_zero, hl] at this
      exact (List.cons.inj this).1.symm
    have i0 : (0 : Int) < s.size := by omega
    have hn : Hid (nameB s = (decide (s.size ≤ 12) && letterB s[0] && decide (runP partB s.data.toList = s.size) && !keyB s && decide (regI s < 0))) := by
      show _ = _
      unfold nameB
      rw [hl, hc]
    have hlet := letter_any s[0] w
    have hkey := key_any s w
    obtain ⟨n, hnn⟩ : ∃ n, runP partB s.data.toList = n := ⟨_, rfl⟩
    by_cases h12 : s.size ≤ 12
    · have h12' : (s.size : Int) ≤ 12 := by omega
      have hrun := run_part s w (by omega)
      rw [hnn] at hrun hn
      clear hl hc hnn
      have hx1 : decide (s.size ≤ 12) = true := decide_eq_true h12
      have hlb : ∀ b, letterB s[0] = b → Calls Tryz.prog 68 #[.int .u8 s[0].toNat] w fun e w' => e = .returned (.bool b) ∧ w = w' := fun b h => by rw [← h]; exact hlet
      have hkb : ∀ b, keyB s = b → Calls Tryz.prog 71 #[.string s] w fun e w' => e = .returned (.bool b) ∧ Below w.heap.size w w' := fun b h => by rw [← h]; exact hkey
      clear hlet hkey
      cases hL : letterB s[0] with
      | false =>
        have hlet := hlb _ hL
        have hfin : Hid (nameB s = false) := by show _ = _; rw [hn.out, hL]; simp
        clear hlb hkb hn hL hx1
        go_enter Tryz.func41, Tryz.ntmps41
        go_wp2_with (first
          | (go_at_call 68; refine hlet.mono ?_; rintro e w1 ⟨rfl, rfl⟩)
          | fail)
        go_ret
        exact ⟨ret_bool (by rw [hfin.out]), Below.refl _ _⟩
      | true =>
        have hlet := hlb _ hL
        by_cases hN : n = s.size
        · subst hN
          cases hK : keyB s with
          | true =>
            have hkey := hkb _ hK
            have hfin : Hid (nameB s = false) := by show _ = _; rw [hn.out, hK]; simp
            clear hlb hkb hn hL hx1 hK
            go_enter Tryz.func41, Tryz.ntmps41
            go_wp2_with (first
              | (go_at_call 68; refine hlet.mono ?_; rintro e w1 ⟨rfl, rfl⟩)
              | (go_at_call 69; refine hrun.mono ?_; rintro e w1 ⟨rfl, rfl⟩)
              | (go_at_call 71; refine hkey.mono ?_; rintro e w1 ⟨rfl, hb1⟩)
              | fail)
            go_ret
            exact ⟨ret_bool (by rw [hfin.out]), hb1⟩
          | false =>
            have hkey := hkb _ hK
            have hfin : Hid (nameB s = decide (regI s < 0)) := by show _ = _; rw [hn.out, hK, hL, hx1]; simp
            clear hlb hkb hn hL hx1 hK
            have hreg := fun w => reg_any s w
            generalize regI s = x at hfin hreg
            go_enter Tryz.func41, Tryz.ntmps41
            go_wp2_with (first
              | (go_at_call 68; refine hlet.mono ?_; rintro e w1 ⟨rfl, rfl⟩)
              | (go_at_call 69; refine hrun.mono ?_; rintro e w1 ⟨rfl, rfl⟩)
              | (go_at_call 71; refine hkey.mono ?_; rintro e w1 ⟨rfl, hb1⟩)
              | (go_at_call 72; refine (hreg w1).mono ?_; rintro e w2 ⟨rfl, hb2⟩)
              | fail)
            go_ret
            exact ⟨ret_bool (by rw [hfin.out]), hb1.trans (hb2.mono hb1.size)⟩
        · have hfin : Hid (nameB s = false) := by show _ = _; rw [hn.out, decide_eq_false hN]; simp
          have hN' : ¬ (n : Int) = s.size := by omega
          have hN2 : ((n : Int) == s.size) = false := by simpa using hN'
          clear hlb hkb hn hL hx1 hN
          go_enter Tryz.func41, Tryz.ntmps41
          go_wp2_with (first
            | (go_at_call 68; refine hlet.mono ?_; rintro e w1 ⟨rfl, rfl⟩)
            | (go_at_call 69; refine hrun.mono ?_; rintro e w1 ⟨rfl, rfl⟩)
            | fail)
          go_ret
          exact ⟨ret_bool (by rw [hfin.out]), Below.refl _ _⟩
    · have hfin : Hid (nameB s = false) := by show _ = _; rw [hn.out, decide_eq_false h12]; simp
      have h12' : ¬ (s.size : Int) ≤ 12 := by omega
      have h12'' : decide ((s.size : Int) ≤ 12) = false := decide_eq_false h12'
      clear hl hc hnn hn hlet hkey h12
      go_enter Tryz.func41, Tryz.ntmps41
      go_wp2_with fail
      go_ret
      exact ⟨ret_bool (by rw [hfin.out]), Below.refl _ _⟩
end Go.Proofs.YtphlbbnmligadaaGreatDoor
namespace Go.Proofs.YtphlbbnmligadaaGreatDoor
open Go.RowKit

/-- A program. -/
structure Pg where
  vars : List ByteArray
  dom : Int
  ths : List (List St)

/-- Names. -/
def VrIn (w : World) (S : Nat → Prop) (a : Option Addr) (n cap : Nat) (l : List ByteArray) : Prop :=
  n = l.length ∧ Sl w S 1 a l.length cap (fun i => [.string (l[i]?.getD ByteArray.empty)])
namespace VrIn
variable {w w' : World} {S S' : Nat → Prop} {a : Option Addr} {n cap : Nat} {l : List ByteArray}
theorem keep (h : VrIn w S a n cap l) (hk : ∀ b o, S b → w'.cell? ⟨b, o, none⟩ = w.cell? ⟨b, o, none⟩) : VrIn w' S a n cap l := ⟨h.1, h.2.keep hk⟩
theorem widen (h : VrIn w S a n cap l) (hS : ∀ b, S b → S' b) : VrIn w S' a n cap l := ⟨h.1, h.2.widen hS⟩
theorem le (h : VrIn w S a n cap l) : l.length ≤ cap := h.2.le
theorem mx (h : VrIn w S a n cap l) : cap ≤ maxLen := h.2.mx
theorem at_ (h : VrIn w S a n cap l) (i : Nat) (hi : i < l.length) : ∃ b off, a = some ⟨b, off, none⟩ ∧ S b ∧ w.cell? ⟨b, off + i, none⟩ = some (.string l[i]) := by
  obtain ⟨b, off, rfl, hb, hc⟩ := h.2.at_ (by omega)
  refine ⟨b, off, rfl, hb, ?_⟩
  have := hc i hi 0 (by omega)
  simpa [hi] using this
theorem nil_ : VrIn w S none 0 0 [] := ⟨rfl, Sl.nil⟩
end VrIn
theorem Kp.vr {W0 w : World} (h : Kp W0 w) {a : Option Addr} {n cap : Nat} {l : List ByteArray} (hx : VrIn W0 (In_ W0) a n cap l) : VrIn w (In_ w) a n cap l := (hx.keep fun b o hb => h.2 b o hb).widen (In_.mono h.1.size)

/-- Threads of statements. -/
def TsIn (w : World) (S : Nat → Prop) (a : Option Addr) (n cap : Nat) (t : List (List St)) : Prop :=
  n = t.length ∧ ∃ (A : Nat → Option Addr) (K : Nat → Nat), Sl w S 1 a t.length cap (fun i => [.slice (A i) (t[i]?.getD []).length (K i)]) ∧ ∀ i (h : i < t.length), StRow w S (A i) t[i].length (K i) t[i]
namespace TsIn
variable {w w' : World} {S S' : Nat → Prop} {a : Option Addr} {n cap : Nat} {t : List (List St)}
theorem keep (h : TsIn w S a n cap t) (hk : ∀ b o, S b → w'.cell? ⟨b, o, none⟩ = w.cell? ⟨b, o, none⟩) : TsIn w' S a n cap t := by
  obtain ⟨hn, A, K, h1, h2⟩ := h
  exact ⟨hn, A, K, h1.keep hk, fun i hi => (h2 i hi).keep hk⟩
theorem widen (h : TsIn w S a n cap t) (hS : ∀ b, S b → S' b) : TsIn w S' a n cap t := by
  obtain ⟨hn, A, K, h1, h2⟩ := h
  exact ⟨hn, A, K, h1.widen hS, fun i hi => (h2 i hi).widen hS⟩
theorem le (h : TsIn w S a n cap t) : t.length ≤ cap := by obtain ⟨_, _, _, h1, _⟩ := h; exact h1.le
theorem mx (h : TsIn w S a n cap t) : cap ≤ maxLen := by obtain ⟨_, _, _, h1, _⟩ := h; exact h1.mx
theorem at_ (h : TsIn w S a n cap t) (i : Nat) (hi : i < t.length) : ∃ b off ar kr, a = some ⟨b, off, none⟩ ∧ S b ∧ w.cell? ⟨b, off + i, none⟩ = some (.slice ar t[i].length kr) ∧ StRow w S ar t[i].length kr t[i] := by
  obtain ⟨hn, A, K, h1, h2⟩ := h
  obtain ⟨b, off, rfl, hb, hc⟩ := h1.at_ (by omega)
  refine ⟨b, off, A i, K i, rfl, hb, ?_, h2 i hi⟩
  have := hc i hi 0 (by omega)
  simpa [hi] using this
theorem nil_ : TsIn w S none 0 0 [] := ⟨rfl, fun _ => none, fun _ => 0, Sl.nil, fun i hi => absurd hi (by simp)⟩
end TsIn
theorem Kp.ts {W0 w : World} (h : Kp W0 w) {a : Option Addr} {n cap : Nat} {t : List (List St)} (hx : TsIn W0 (In_ W0) a n cap t) : TsIn w (In_ w) a n cap t := (hx.keep fun b o hb => h.2 b o hb).widen (In_.mono h.1.size)

/-- A program lies in 'w': its three cells. -/
def PgIn (w : World) (S : Nat → Prop) (cs : List Value) (p : Pg) : Prop :=
  ∃ va cv ta ct, cs = [.slice va p.vars.length cv, .int .i64 p.dom, .slice ta p.ths.length ct] ∧ VrIn w S va p.vars.length cv p.vars ∧ TsIn w S ta p.ths.length ct p.ths ∧ (Lit.int .i64 p.dom).wf = true
theorem PgIn.keep {w w' : World} {S : Nat → Prop} {cs : List Value} {p : Pg} (h : PgIn w S cs p) (hk : ∀ b o, S b → w'.cell? ⟨b, o, none⟩ = w.cell? ⟨b, o, none⟩) : PgIn w' S cs p := by
  obtain ⟨va, cv, ta, ct, he, h1, h2, h3⟩ := h
  exact ⟨va, cv, ta, ct, he, h1.keep hk, h2.keep hk, h3⟩
theorem PgIn.widen {w : World} {S S' : Nat → Prop} {cs : List Value} {p : Pg} (h : PgIn w S cs p) (hS : ∀ b, S b → S' b) : PgIn w S' cs p := by
  obtain ⟨va, cv, ta, ct, he, h1, h2, h3⟩ := h
  exact ⟨va, cv, ta, ct, he, h1.widen hS, h2.widen hS, h3⟩
theorem Kp.pg {W0 w : World} (h : Kp W0 w) {cs : List Value} {p : Pg} (hx : PgIn W0 (In_ W0) cs p) : PgIn w (In_ w) cs p := (hx.keep fun b o hb => h.2 b o hb).widen (In_.mono h.1.size)

/-- How many statements there are, of all threads. -/
def cntT (t : List (List St)) : Nat := (t.map cntL).sum
/-- Are all threads right, some statements having been counted? -/
def okT (vars dom : Int) (t : List (List St)) : Bool := t.all (okL vars dom 20)
def sumT (vars dom : Int) (t : List (List St)) : Bool := okT vars dom t && decide (cntT t ≤ 200)
/-- May a program be? -/
def rightP (p : Pg) : Bool :=
  decide (1 ≤ p.vars.length) && decide (p.vars.length ≤ 4) && p.vars.all nameB && decide (p.vars.Nodup) && decide (2 ≤ p.dom) && decide (p.dom ≤ 16) && decide (1 ≤ p.ths.length) && decide (p.ths.length ≤ 4) && sumT p.vars.length p.dom p.ths

theorem cntT_take (t : List (List St)) (i : Nat) (hi : i < t.length) : cntT (t.take (i + 1)) = cntT (t.take i) + cntL t[i] := by
  unfold cntT
  rw [List.take_succ_eq_append_getElem hi, List.map_append, List.sum_append]
  simp
theorem cntT_le (t : List (List St)) (i : Nat) : cntT (t.take i) ≤ cntT t := by
  unfold cntT
  conv => rhs; rw [← List.take_append_drop i t, List.map_append, List.sum_append]
  omega
theorem okT_step {vars dom : Int} {t : List (List St)} {i : Nat} (hi : i < t.length) (h : okT vars dom (t.take i) = true) (hx : okL vars dom 20 t[i] = true) : okT vars dom (t.take (i + 1)) = true := by
  unfold okT at *
  rw [List.take_succ_eq_append_getElem hi, List.all_append, h]
  simp [hx]
theorem okT_bad {vars dom : Int} {t : List (List St)} {i : Nat} (hi : i < t.length) (h : okL vars dom 20 t[i] = false) : sumT vars dom t = false := by
  unfold sumT okT
  have : t.all (okL vars dom 20) = false := by
    rw [List.all_eq_false]
    exact ⟨t[i], List.getElem_mem hi, by simp [h]⟩
  rw [this]; rfl
theorem sumT_many {vars dom : Int} {t : List (List St)} {i : Nat} (hi : i < t.length) (h : 200 < cntT (t.take i) + cntL t[i]) : sumT vars dom t = false := by
  unfold sumT
  have h1 := cntT_take t i hi
  have h2 := cntT_le t (i + 1)
  rw [decide_eq_false (by omega)]
  simp
end Go.Proofs.YtphlbbnmligadaaGreatDoor
namespace Go.Proofs.YtphlbbnmligadaaGreatDoor
open Go.RowKit

theorem tssl_info : ∃ i, Tryz.prog.info? 53 = some i ∧ i.zero = some (.slice none 0 0) ∧ i.size = 1 ∧ i.bytes = 24 := by
  have h : (Tryz.prog.info? 53).map (fun i => (i.zero, i.size, i.bytes)) = some (some (.slice none 0 0), 1, 24) := by kernel_rfl
  cases hi : Tryz.prog.info? 53 with
  | none => rw [hi] at h; cases h
  | some i =>
    rw [hi] at h
    simp only [Option.map_some, Option.some.injEq, Prod.mk.injEq] at h
    exact ⟨i, rfl, h.1, h.2.1, h.2.2⟩

/-- Rows of statements that have been collected. -/
def TsO (w : World) (B : Nat) (S : Nat → Prop) (v : Value) (T : List (List St)) : Prop :=
  ∃ LL : List (List St × Value), T = LL.map (·.1) ∧ w.ownsRow B 53 1 v LL.length (LL.map (·.2)) ∧ ∀ y ∈ LL, ∃ a c, y.2 = .slice a y.1.length c ∧ StRow w S a y.1.length c y.1
namespace TsO
variable {w w' : World} {B : Nat} {S S' : Nat → Prop} {v v' : Value} {T : List (List St)}
theorem nil_ : TsO w B S (.slice none 0 0) [] := ⟨[], rfl, World.ownsRow_nil _ _ _ _, fun _ h => (by simp at h)⟩
theorem own (h : TsO w B S v T) : ∀ k, v.ownBlock = some k → B ≤ k ∧ k < w.heap.size := by
  obtain ⟨LL, _, h1, _⟩ := h
  exact h1.lt
theorem sl (h : TsO w B S v T) : ∃ a c, v = .slice a T.length c := by
  obtain ⟨LL, rfl, h1, _⟩ := h
  obtain ⟨a, c, e⟩ := own_at h1
  exact ⟨a, c, by rw [e, List.length_map]⟩
/-- Kept while other blocks are written. -/
theorem kept {r : Option Nat} (h : TsO w B S v T) (hg : w.grownBy w' r) (hr : v.ownBlock = none ∨ v.ownBlock ≠ r) (hS : ∀ b, S b → b < w.heap.size ∧ some b ≠ r) : TsO w' B S v T := by
  obtain ⟨LL, h0, h1, h2⟩ := h
  have hk : ∀ b o, S b → w'.cell? ⟨b, o, none⟩ = w.cell? ⟨b, o, none⟩ := fun b o hb => World.cell?_of_block (hg.block b (hS b hb).1 (hS b hb).2)
  refine ⟨LL, h0, h1.kept hg (by rcases hr with h | h; exact .inl h; exact .inr h), fun y hy => ?_⟩
  obtain ⟨a, c, e, hr⟩ := h2 y hy
  exact ⟨a, c, e, hr.keep hk⟩
theorem widen (h : TsO w B S v T) (hS : ∀ b, S b → S' b) : TsO w B S' v T := by
  obtain ⟨LL, h0, h1, h2⟩ := h
  refine ⟨LL, h0, h1, fun y hy => ?_⟩
  obtain ⟨a, c, e, hr⟩ := h2 y hy
  exact ⟨a, c, e, hr.widen hS⟩
/-- As threads. -/
theorem ts (h : TsO w B S v T) : ∃ a cap, v = .slice a T.length cap ∧ TsIn w (fun b => S b ∨ (B ≤ b ∧ b < w.heap.size)) a T.length cap T := by
  obtain ⟨LL, rfl, h1, h2⟩ := h
  obtain ⟨a, cap, rfl⟩ := own_at h1
  classical
  refine ⟨a, cap, by simp, by simp, fun i => if h : i < LL.length then (h2 LL[i] (List.getElem_mem h)).choose else none, fun i => if h : i < LL.length then (h2 LL[i] (List.getElem_mem h)).choose_spec.choose else 0, ?_, fun i hi => ?_⟩
  · have h' := h1
    obtain ⟨_, h⟩ := h1
    rw [List.length_map]
    rcases h with ⟨e, h0⟩ | ⟨g, cap', cur, e, hb, hg, hle, hcm, hsz, htk⟩
    · have h0' : LL.length = 0 := h0
      simp only [Value.slice.injEq] at e
      obtain ⟨rfl, -, rfl⟩ := e
      exact ⟨by omega, Nat.zero_le _, fun hp => absurd hp (by omega)⟩
    · simp only [Value.slice.injEq, true_and] at e
      obtain ⟨rfl, rfl⟩ := e
      refine ⟨hle, hcm, fun _ => ⟨g, 0, rfl, .inr ⟨hb, (Array.getElem?_eq_some_iff.1 hg).1⟩, fun i hi j hj => ?_⟩⟩
      obtain rfl : j = 0 := by omega
      have hc := h'.cells (g := g) rfl i LL[i].2 (by simp [hi])
      rw [Addr.add_lit] at hc
      have e2 := (h2 LL[i] (List.getElem_mem hi)).choose_spec.choose_spec.1
      simp only [dif_pos hi, List.getElem?_map, List.getElem?_eq_getElem hi, Option.map_some, Option.getD_some]
      rw [Nat.mul_one, Nat.add_zero, hc]
      exact congrArg some e2
  · have hi' : i < LL.length := by simpa using hi
    simp only [dif_pos hi', List.getElem_map]
    exact (h2 LL[i] (List.getElem_mem hi')).choose_spec.choose_spec.2.widen fun b hb => .inl hb
end TsO

/-- append of a thread. -/
theorem step_tsO {ops : Array Oper} {o : Oper} {a : Act} {w : World} {B : Nat} {S : Nat → Prop} {K : Act → World → Prop} {Q : Exit → Act → World → Prop} {E : Prop} (s x : Operand) (v : Value) (T : List (List St)) (y : List St) (au : Option Addr) (cu : Nat)
    (hgd : o.guard = none) (ho : o.op = .call { callee := .builtin .append, args := #[s, x], argTypes := #[25, 25] })
    (hsv : a.eval s = v) (h0 : TsO w B S v T) (hu : StRow w S au y.length cu y) (hBle : B ≤ w.heap.size) (hS : ∀ b, S b → b < w.heap.size ∧ some b ≠ v.ownBlock) (hsrc : ∃ A c, a.eval x = .slice A 1 c ∧ SrcAt w 1 A 1 [.slice au y.length cu]) (hb : T.length ≤ 1000)
    (h : ∀ A c w', TsO w' B S (.slice A (T.length + 1) c) (T ++ [y]) → w.grownBy w' v.ownBlock → ((Value.slice A (T.length + 1) c).ownBlock = v.ownBlock ∨ (Value.slice A (T.length + 1) c).ownBlock = some w.heap.size) → K (a.put o.dst (.slice A (T.length + 1) c)) w') :
    if Region.wanted o (yielded ops a.tmps) = true then Oper.wp Tryz.prog o a w K Q else E := by
  obtain ⟨LL, rfl, h1, h2⟩ := h0
  obtain ⟨i0, hi, hz0, hz1, hz2⟩ := tssl_info
  rw [List.length_map] at hb h
  refine step_app hgd s x ho Tryz.underlying25 hi hz0 hz1 hz2 rfl (by decide) v LL.length (LL.map (·.2)) hsv h1 1 [.slice au y.length cu] hsrc (by intro q hq; simp at hq; subst hq; rfl) (by simp only [maxLen]; omega) (by omega) hBle fun v' w' g1 g2 g3 => ?_
  obtain ⟨A', c', rfl⟩ := own_at g1
  have hk : ∀ b o, S b → w'.cell? ⟨b, o, none⟩ = w.cell? ⟨b, o, none⟩ := fun b o hb => World.cell?_of_block (g2.block b (hS b hb).1 (hS b hb).2)
  refine h A' c' w' ⟨LL ++ [(y, .slice au y.length cu)], by simp, by simpa using g1, fun z hz => ?_⟩ g2 g3
  rcases List.mem_append.1 hz with hz | hz
  · obtain ⟨az, cz, e, hr⟩ := h2 z hz
    exact ⟨az, cz, e, hr.keep hk⟩
  · simp only [List.mem_singleton] at hz
    subst hz
    exact ⟨au, cu, rfl, hu.keep hk⟩
end Go.Proofs.YtphlbbnmligadaaGreatDoor
namespace Go.Proofs.YtphlbbnmligadaaGreatDoor
open Go.RowKit

/-- Blocks of an interval. -/
def Iv (lo hi b : Nat) : Prop := lo ≤ b ∧ b < hi
theorem ownsRow_blk {w w' : World} {B : Nat} {T : TypeId} {sz n : Nat} {v : Value} {xs : List Value} (h : w.ownsRow B T sz v n xs) (hk : ∀ g, v.ownBlock = some g → w'.heap[g]? = w.heap[g]?) : w'.ownsRow B T sz v n xs := by
  obtain ⟨h0, h⟩ := h
  refine ⟨h0, ?_⟩
  rcases h with h | ⟨g, cap, cur, rfl, hb, hg, h⟩
  · exact .inl h
  · exact .inr ⟨g, cap, cur, rfl, hb, (hk g rfl).trans hg, h⟩
/-- As a row, in some blocks. -/
theorem StO.rowS {w : World} {B : Nat} {S S' : Nat → Prop} {v : Value} {L : List St} (h : StO w B S v L) (hS : ∀ b, S b → S' b) (hv : ∀ g, v.ownBlock = some g → S' g) : ∃ a cap, v = .slice a L.length cap ∧ StRow w S' a L.length cap L := by
  obtain ⟨LL, rfl, h1, h2⟩ := h
  have h' := h1
  obtain ⟨_, h⟩ := h1
  rcases h with ⟨rfl, h0⟩ | ⟨g, cap, cur, rfl, hb, hg, hle, hcm, hsz, htk⟩
  · have : LL = [] := List.eq_nil_of_length_eq_zero h0
    subst this
    exact ⟨none, 0, rfl, StRow.nil_⟩
  · refine ⟨some ⟨g, 0, none⟩, cap, by simp, rfl, fun i => (LL[i]?.map stC).getD [], ?_, fun i hi => ?_⟩
    · rw [List.length_map]
      refine ⟨hle, hcm, fun _ => ⟨g, 0, rfl, hv g rfl, fun i hi j hj => ?_⟩⟩
      have hfl := flat_at stC 13 stC_len LL i j hi hj
      simp only [List.getElem?_eq_getElem hi, Option.map_some, Option.getD_some]
      have hlt : j < (stC LL[i]).length := by rw [stC_len]; exact hj
      rw [List.getElem?_eq_getElem hlt] at hfl ⊢
      have := h'.cells (g := g) rfl _ _ hfl
      rw [Addr.add_lit] at this
      exact this
    · have hi' : i < LL.length := by simpa using hi
      simp only [List.getElem?_eq_getElem hi', Option.map_some, Option.getD_some, List.getElem_map]
      exact (h2 LL[i] (List.getElem_mem hi')).widen hS

/-- A row in a block of its own, all in an interval of blocks. -/
def Rw (w : World) (lo hi : Nat) (v : Value) (L : List St) : Prop :=
  StO w lo (fun b => lo ≤ b ∧ b < hi ∧ some b ≠ v.ownBlock) v L ∧ ∀ g, v.ownBlock = some g → g < hi
namespace Rw
variable {w w' : World} {lo hi hi' : Nat} {v : Value} {L : List St}
theorem nil_ : Rw w lo hi (.slice none 0 0) [] := ⟨StO.nil_, fun g h => by cases h⟩
theorem kept (h : Rw w lo hi v L) (hk : ∀ b, lo ≤ b → b < hi → w'.heap[b]? = w.heap[b]?) : Rw w' lo hi v L := by
  obtain ⟨⟨LL, h0, h1, h2⟩, h3⟩ := h
  exact ⟨⟨LL, h0, ownsRow_blk h1 fun g hg => hk g (h1.lt g hg).1 (h3 g hg), fun y hy => (h2 y hy).keep fun b o hb => World.cell?_of_block (hk b hb.1 hb.2.1)⟩, h3⟩
theorem widen (h : Rw w lo hi v L) (hz : hi ≤ hi') : Rw w lo hi' v L :=
  ⟨h.1.widen fun _b hb => ⟨hb.1, Nat.lt_of_lt_of_le hb.2.1 hz, hb.2.2⟩, fun g hg => Nat.lt_of_lt_of_le (h.2 g hg) hz⟩
theorem row (h : Rw w lo hi v L) : ∃ a cap, v = .slice a L.length cap ∧ StRow w (Iv lo hi) a L.length cap L :=
  h.1.rowS (fun _b hb => ⟨hb.1, hb.2.1⟩) fun g hg => ⟨(h.1.own g hg).1, h.2 g hg⟩
theorem row' {a : Option Addr} {n c : Nat} (h : Rw w lo hi (.slice a n c) L) : n = L.length ∧ StRow w (Iv lo hi) a L.length c L := by
  obtain ⟨a', c', e, hr⟩ := h.row
  simp only [Value.slice.injEq] at e
  obtain ⟨rfl, hn, rfl⟩ := e
  exact ⟨hn, hr⟩
end Rw

/-- What lies in an interval of blocks, its rows apart. -/
def Sep (w : World) (lo hi : Nat) (us vs : List Value) (xa xb : Ex) (vT vE : Value) (T E : List St) : Prop :=
  ∃ h1 h2, (lo ≤ h1 ∧ h1 ≤ h2 ∧ h2 ≤ hi) ∧ ExIn w (Iv lo h1) us xa ∧ ExIn w (Iv lo h1) vs xb ∧ Rw w h1 h2 vT T ∧ Rw w h2 hi vE E
namespace Sep
variable {w w' : World} {lo lo' hi hi' : Nat} {us vs ns : List Value} {xa xb x : Ex} {vT vE v : Value} {T E L : List St}
theorem kept (h : Sep w lo hi us vs xa xb vT vE T E) (hk : ∀ b, lo ≤ b → b < hi → w'.heap[b]? = w.heap[b]?) : Sep w' lo hi us vs xa xb vT vE T E := by
  obtain ⟨h1, h2, ⟨p1, p2, p3⟩, ha, hb, hT, hE⟩ := h
  have h3 : ∀ b o, Iv lo h1 b → w'.cell? ⟨b, o, none⟩ = w.cell? ⟨b, o, none⟩ := fun b o hb => World.cell?_of_block (hk b hb.1 (by have := hb.2; omega))
  exact ⟨h1, h2, ⟨p1, p2, p3⟩, ha.keep h3, hb.keep h3, hT.kept fun b _ _ => hk b (by omega) (by omega), hE.kept fun b _ _ => hk b (by omega) (by omega)⟩
theorem widen (h : Sep w lo hi us vs xa xb vT vE T E) (hl : lo' ≤ lo) (hz : hi ≤ hi') : Sep w lo' hi' us vs xa xb vT vE T E := by
  obtain ⟨h1, h2, ⟨p1, p2, p3⟩, ha, hb, hT, hE⟩ := h
  have h3 : ∀ b, Iv lo h1 b → Iv lo' h1 b := fun b hb => ⟨Nat.le_trans hl hb.1, hb.2⟩
  exact ⟨h1, h2, ⟨by omega, p2, by omega⟩, ha.widen h3, hb.widen h3, hT, hE.widen hz⟩
theorem newA (h : Sep w lo hi us vs xa xb (.slice none 0 0) (.slice none 0 0) [] []) (hx : ExIn w (Iv lo hi) ns x) : Sep w lo hi ns vs x xb (.slice none 0 0) (.slice none 0 0) [] [] := by
  obtain ⟨h1, h2, ⟨p1, p2, p3⟩, -, hb, -, -⟩ := h
  exact ⟨hi, hi, ⟨by omega, by omega, by omega⟩, hx, hb.widen fun b hb => ⟨hb.1, by have := hb.2; omega⟩, Rw.nil_, Rw.nil_⟩
theorem newB (h : Sep w lo hi us vs xa xb (.slice none 0 0) (.slice none 0 0) [] []) (hx : ExIn w (Iv lo hi) ns x) : Sep w lo hi us ns xa x (.slice none 0 0) (.slice none 0 0) [] [] := by
  obtain ⟨h1, h2, ⟨p1, p2, p3⟩, ha, -, -, -⟩ := h
  exact ⟨hi, hi, ⟨by omega, by omega, by omega⟩, ha.widen fun b hb => ⟨hb.1, by have := hb.2; omega⟩, hx, Rw.nil_, Rw.nil_⟩
theorem newT (h : Sep w lo hi us vs xa xb (.slice none 0 0) (.slice none 0 0) [] []) (hL : Rw w hi hi' v L) (hz : hi ≤ hi') : Sep w lo hi' us vs xa xb v (.slice none 0 0) L [] := by
  obtain ⟨h1, h2, ⟨p1, p2, p3⟩, ha, hb, -, -⟩ := h
  have h3 : ∀ b, Iv lo h1 b → Iv lo hi b := fun b hb => ⟨hb.1, by have := hb.2; omega⟩
  exact ⟨hi, hi', ⟨by omega, hz, by omega⟩, ha.widen h3, hb.widen h3, hL, Rw.nil_⟩
theorem newE (h : Sep w lo hi us vs xa xb vT (.slice none 0 0) T []) (hL : Rw w hi hi' v L) (hz : hi ≤ hi') : Sep w lo hi' us vs xa xb vT v T L := by
  obtain ⟨h1, h2, ⟨p1, p2, p3⟩, ha, hb, hT, -⟩ := h
  exact ⟨h1, hi, ⟨by omega, by omega, hz⟩, ha, hb, hT.widen p3, hL⟩
end Sep

/-- A statement, its rows apart, in an interval of blocks. -/
def StX (w : World) (lo hi : Nat) (cs : List Value) (x : St) : Prop :=
  ∃ (u0 u1 u2 u3 v0 v1 v2 v3 : Value) (ta ea : Option Addr) (tc ec : Nat),
    cs = [.int .i64 x.kind, .int .i64 x.reg, .int .i64 x.var, u0, u1, u2, u3, v0, v1, v2, v3, .slice ta x.t.length tc, .slice ea x.e.length ec] ∧
    ((Lit.int .i64 x.kind).wf = true ∧ (Lit.int .i64 x.reg).wf = true ∧ (Lit.int .i64 x.var).wf = true) ∧
    Sep w lo hi [u0, u1, u2, u3] [v0, v1, v2, v3] x.a x.b (.slice ta x.t.length tc) (.slice ea x.e.length ec) x.t x.e
namespace StX
variable {w w' : World} {lo lo' hi hi' : Nat} {cs : List Value} {x : St}
theorem kept (h : StX w lo hi cs x) (hk : ∀ b, lo ≤ b → b < hi → w'.heap[b]? = w.heap[b]?) : StX w' lo hi cs x := by
  obtain ⟨u0, u1, u2, u3, v0, v1, v2, v3, ta, ea, tc, ec, e, hw, hs⟩ := h
  exact ⟨u0, u1, u2, u3, v0, v1, v2, v3, ta, ea, tc, ec, e, hw, hs.kept hk⟩
theorem widen (h : StX w lo hi cs x) (hl : lo' ≤ lo) (hz : hi ≤ hi') : StX w lo' hi' cs x := by
  obtain ⟨u0, u1, u2, u3, v0, v1, v2, v3, ta, ea, tc, ec, e, hw, hs⟩ := h
  exact ⟨u0, u1, u2, u3, v0, v1, v2, v3, ta, ea, tc, ec, e, hw, hs.widen hl hz⟩
theorem in_ (h : StX w lo hi cs x) : StIn w (Iv lo hi) cs x := by
  obtain ⟨u0, u1, u2, u3, v0, v1, v2, v3, ta, ea, tc, ec, e, ⟨wk, wr, wv⟩, h1, h2, ⟨p1, p2, p3⟩, ha, hb, hT, hE⟩ := h
  subst e
  obtain ⟨k, r, v, a, b, t, e⟩ := x
  have h3 : ∀ b, Iv lo h1 b → Iv lo hi b := fun b hb => ⟨hb.1, by have := hb.2; omega⟩
  obtain ⟨-, C, hT1, hT2⟩ := hT.row'.2.widen (S' := Iv lo hi) fun b hb => ⟨by have := hb.1; omega, by have := hb.2; omega⟩
  obtain ⟨-, D, hE1, hE2⟩ := hE.row'.2.widen (S' := Iv lo hi) fun b hb => ⟨by have := hb.1; omega, hb.2⟩
  exact .mk k r v u0 u1 u2 u3 v0 v1 v2 v3 a b ta ea tc ec t e C D wk wr wv (ha.widen h3) (hb.widen h3) hT1 hE1 hT2 hE2
theorem len (h : StX w lo hi cs x) : cs.length = 13 := h.in_.len
end StX

/-- What a row holds, each in an interval of its own; the row's own block in none. -/
def Apx {α : Type} (P : World → Nat → Nat → α → Prop) (w : World) (lo hi : Nat) (v : Value) (l : List α) : Prop :=
  (∀ k, v.ownBlock = some k → k < hi) ∧ ∃ F G : Nat → Nat, (∀ i (h : i < l.length), (lo ≤ F i ∧ G i ≤ hi) ∧ P w (F i) (G i) l[i] ∧ ∀ k, v.ownBlock = some k → k < F i ∨ G i ≤ k) ∧ ∀ i j, i < j → j < l.length → G i ≤ F j
namespace Apx
variable {α : Type} {P : World → Nat → Nat → α → Prop} {w w' : World} {lo hi hi' p q : Nat} {v v' : Value} {l : List α} {y : α}
theorem nil_ : Apx P w lo hi (.slice none 0 0) [] := ⟨(fun k h => by cases h), fun _ => 0, fun _ => 0, fun i h => absurd h (by simp), fun i j _ h => absurd h (by simp)⟩
theorem kept (h : Apx P w lo hi v l) (hP : ∀ f g y, lo ≤ f → g ≤ hi → P w f g y → P w' f g y) : Apx P w' lo hi v l := by
  obtain ⟨h1, F, G, h2, h3⟩ := h
  refine ⟨h1, F, G, fun i hi => ?_, h3⟩
  obtain ⟨⟨a, b⟩, c, d⟩ := h2 i hi
  exact ⟨⟨a, b⟩, hP _ _ _ a b c, d⟩
theorem widen (h : Apx P w lo hi v l) (hz : hi ≤ hi') : Apx P w lo hi' v l := by
  obtain ⟨h1, F, G, h2, h3⟩ := h
  refine ⟨fun k hk => Nat.lt_of_lt_of_le (h1 k hk) hz, F, G, fun i hi => ?_, h3⟩
  obtain ⟨⟨a, b⟩, c, d⟩ := h2 i hi
  exact ⟨⟨a, Nat.le_trans b hz⟩, c, d⟩
/-- One more. -/
theorem snoc (h : Apx P w lo p v l) (hP : ∀ f g y, lo ≤ f → g ≤ p → (∀ k, v.ownBlock = some k → k < f ∨ g ≤ k) → P w f g y → P w' f g y) (hy : P w' p q y) (hp : lo ≤ p) (hq : p ≤ q) (hz : q ≤ hi')
    (hv : v'.ownBlock = v.ownBlock ∨ ∃ k, v'.ownBlock = some k ∧ q ≤ k) (hv' : ∀ k, v'.ownBlock = some k → k < hi') : Apx P w' lo hi' v' (l ++ [y]) := by
  obtain ⟨h1, F, G, h2, h3⟩ := h
  refine ⟨hv', fun i => if i < l.length then F i else p, fun i => if i < l.length then G i else q, fun i hi => ?_, fun i j hij hj => ?_⟩
  · by_cases hlt : i < l.length
    · obtain ⟨⟨a, b⟩, c, d⟩ := h2 i hlt
      simp only [if_pos hlt, List.getElem_append_left hlt]
      refine ⟨⟨a, by omega⟩, hP _ _ _ a b d c, fun k hk => ?_⟩
      rcases hv with e | ⟨k', e, hk'⟩
      · exact d k (e ▸ hk)
      · rw [e] at hk
        cases hk
        exact .inr (by omega)
    · have hil : i = l.length := by simp at hi; omega
      subst hil
      simp only [if_neg hlt, List.getElem_append_right (Nat.le_refl _), Nat.sub_self, List.getElem_cons_zero]
      refine ⟨⟨hp, hz⟩, hy, fun k hk => ?_⟩
      rcases hv with e | ⟨k', e, hk'⟩
      · exact .inl (h1 k (e ▸ hk))
      · rw [e] at hk
        cases hk
        exact .inr hk'
  · have hil : i < l.length := by simp at hj; omega
    by_cases hjl : j < l.length
    · simp only [if_pos hil, if_pos hjl]
      exact h3 i j hij hjl
    · simp only [if_pos hil, if_neg hjl]
      exact (h2 i hil).1.2
end Apx

/-- A row of statements, each apart. -/
def StsX (w : World) (lo hi : Nat) (v : Value) (L : List St) : Prop :=
  ∃ LL : List (St × (Nat → Value)), L = LL.map (·.1) ∧ w.ownsRow lo 56 13 v LL.length (LL.flatMap stC) ∧ Apx (fun w f g y => StX w f g (stC y) y.1) w lo hi v LL
namespace StsX
variable {w w' : World} {lo hi hi' : Nat} {v : Value} {L : List St}
theorem nil_ : StsX w lo hi (.slice none 0 0) [] := ⟨[], rfl, World.ownsRow_nil _ _ _ _, Apx.nil_⟩
theorem own (h : StsX w lo hi v L) : ∀ k, v.ownBlock = some k → lo ≤ k ∧ k < hi := by
  obtain ⟨LL, _, h1, h2⟩ := h
  exact fun k hk => ⟨(h1.lt k hk).1, h2.1 k hk⟩
theorem kept (h : StsX w lo hi v L) (hk : ∀ b, lo ≤ b → b < hi → w'.heap[b]? = w.heap[b]?) : StsX w' lo hi v L := by
  obtain ⟨LL, h0, h1, h2⟩ := h
  exact ⟨LL, h0, ownsRow_blk h1 fun g hg => hk g (h1.lt g hg).1 (h2.1 g hg), h2.kept fun f g y hf hg hx => hx.kept fun b hb hb' => hk b (by omega) (by omega)⟩
theorem widen (h : StsX w lo hi v L) (hz : hi ≤ hi') : StsX w lo hi' v L := by
  obtain ⟨LL, h0, h1, h2⟩ := h
  exact ⟨LL, h0, h1, h2.widen hz⟩
theorem rw_ (h : StsX w lo hi v L) : Rw w lo hi v L := by
  obtain ⟨LL, h0, h1, h2, F, G, h3, h4⟩ := h
  refine ⟨⟨LL, h0, h1, fun y hy => ?_⟩, h2⟩
  obtain ⟨i, hi, rfl⟩ := List.getElem_of_mem hy
  obtain ⟨⟨a, b⟩, c, d⟩ := h3 i hi
  refine c.in_.widen fun k hk => ⟨Nat.le_trans a hk.1, Nat.lt_of_lt_of_le hk.2 b, fun e => ?_⟩
  have h5 := hk.1
  have h6 := hk.2
  rcases d k e.symm with h | h <;> omega
theorem sl (h : StsX w lo hi v L) : ∃ a c, v = .slice a L.length c := h.rw_.1.sl
end StsX

/-- One more statement, out of a new block. -/
theorem list_stX {ops : Array Oper} {rest : List Oper} {o : Oper} {a : Act} {w : World} {lo p : Nat} {Q : Exit → Act → World → Prop} (s x : Operand) (v : Value) (L : List St) (y : St) (cs : List Value) {T : TypeId}
    (hgd : o.guard = none) (ho : o.op = .call { callee := .builtin .append, args := #[s, x], argTypes := #[53, 53] })
    (hsv : a.eval s = v) (hx : a.eval x = .slice (some ⟨w.heap.size, 0, none⟩) 1 1) (hown : StsX w lo p v L) (hy : StX w p w.heap.size cs y) (hb : L.length + 1 ≤ 100000) (hlo : lo ≤ p) (hp : p ≤ w.heap.size)
    (h : ∀ A c w', StsX w' lo w'.heap.size (.slice A (L.length + 1) c) (L ++ [y]) → (w.alloc (.cells cs.toArray T)).grownBy w' v.ownBlock → ((Value.slice A (L.length + 1) c).ownBlock = v.ownBlock ∨ (Value.slice A (L.length + 1) c).ownBlock = some (w.heap.size + 1)) → wpList Tryz.prog ops Q rest (a.put o.dst (.slice A (L.length + 1) c)) w') :
    wpList Tryz.prog ops Q (o :: rest) a (w.alloc (.cells cs.toArray T)) := by
  have hlen := hy.len
  have hones := hy.in_.ones
  obtain ⟨LL, rfl, h1, h2⟩ := hown
  rw [List.length_map] at hb h
  have hal : ∀ b, b < w.heap.size → (w.alloc (.cells cs.toArray T)).heap[b]? = w.heap[b]? := fun b hb => (World.grownBy_alloc w _ none).block b hb (by simp)
  have h1' : (w.alloc (.cells cs.toArray T)).ownsRow lo 56 13 v LL.length (LL.flatMap stC) := ownsRow_blk h1 fun g hg => hal g (by have := h2.1 g hg; omega)
  refine list_st s x v LL.length (LL.flatMap stC) 1 cs hgd ho hsv h1' ⟨_, _, hx, src_new (by rw [hlen])⟩ hones hb (by simp; omega) fun v' w' g1 g2 g3 => ?_
  obtain ⟨A', c', rfl⟩ := own_at g1
  have hk : ∀ b, b < w.heap.size → some b ≠ v.ownBlock → w'.heap[b]? = w.heap[b]? := fun b hb hne => (g2.block b (by simp; omega) hne).trans (hal b hb)
  have hz := g2.size
  simp at hz
  refine h A' c' w' ⟨LL ++ [(y, fun i => cs[i]?.getD default)], by simp, ?_, ?_⟩ g2 (by simpa using g3)
  · rw [List.length_append, List.flatMap_append]
    have : [(y, fun i => cs[i]?.getD default)].flatMap stC = cs := by simp [stC_of hlen]
    rw [this]
    exact g1
  · refine h2.snoc (q := w.heap.size) (fun f g z hf hg hd hz => hz.kept fun b hb hb' => hk b (by omega) fun e => ?_) ?_ hlo hp (by omega) ?_ fun k hk => (g1.lt k hk).2
    · rcases hd b e.symm with h | h <;> omega
    · simp only [stC_of hlen]
      exact hy.kept fun b hb hb' => hk b hb' fun e => by have := h2.1 b e.symm; omega
    · rcases g3 with e | e
      · exact .inl e
      · exact .inr ⟨_, e, by simp⟩

/-- Rows of statements, each apart. -/
def TsX (w : World) (lo hi : Nat) (v : Value) (T : List (List St)) : Prop :=
  ∃ LL : List (List St × Value), T = LL.map (·.1) ∧ w.ownsRow lo 53 1 v LL.length (LL.map (·.2)) ∧ Apx (fun w f g y => StsX w f g y.2 y.1) w lo hi v LL
namespace TsX
variable {w w' : World} {lo hi hi' : Nat} {v : Value} {T : List (List St)}
theorem nil_ : TsX w lo hi (.slice none 0 0) [] := ⟨[], rfl, World.ownsRow_nil _ _ _ _, Apx.nil_⟩
theorem own (h : TsX w lo hi v T) : ∀ k, v.ownBlock = some k → lo ≤ k ∧ k < hi := by
  obtain ⟨LL, _, h1, h2⟩ := h
  exact fun k hk => ⟨(h1.lt k hk).1, h2.1 k hk⟩
theorem kept (h : TsX w lo hi v T) (hk : ∀ b, lo ≤ b → b < hi → w'.heap[b]? = w.heap[b]?) : TsX w' lo hi v T := by
  obtain ⟨LL, h0, h1, h2⟩ := h
  exact ⟨LL, h0, ownsRow_blk h1 fun g hg => hk g (h1.lt g hg).1 (h2.1 g hg), h2.kept fun f g y hf hg hx => hx.kept fun b hb hb' => hk b (by omega) (by omega)⟩
theorem widen (h : TsX w lo hi v T) (hz : hi ≤ hi') : TsX w lo hi' v T := by
  obtain ⟨LL, h0, h1, h2⟩ := h
  exact ⟨LL, h0, h1, h2.widen hz⟩
/-- As rows that a call collects. -/
theorem tsO (h : TsX w lo hi v T) : TsO w lo (fun b => lo ≤ b ∧ b < hi ∧ some b ≠ v.ownBlock) v T := by
  obtain ⟨LL, h0, h1, h2, F, G, h3, h4⟩ := h
  refine ⟨LL, h0, h1, fun y hy => ?_⟩
  obtain ⟨i, hi, rfl⟩ := List.getElem_of_mem hy
  obtain ⟨⟨a, b⟩, c, d⟩ := h3 i hi
  obtain ⟨A, C, e, hr⟩ := c.rw_.row
  refine ⟨A, C, e, hr.widen fun k hk => ⟨Nat.le_trans a hk.1, Nat.lt_of_lt_of_le hk.2 b, fun e => ?_⟩⟩
  have h5 := hk.1
  have h6 := hk.2
  rcases d k e.symm with h | h <;> omega
theorem sl (h : TsX w lo hi v T) : ∃ a c, v = .slice a T.length c := h.tsO.sl
end TsX

/-- append of a thread. -/
theorem step_tsX {ops : Array Oper} {o : Oper} {a : Act} {w : World} {lo p : Nat} {K : Act → World → Prop} {Q : Exit → Act → World → Prop} {E : Prop} (s x : Operand) (v : Value) (T : List (List St)) (y : List St) (au : Option Addr) (cu : Nat)
    (hgd : o.guard = none) (ho : o.op = .call { callee := .builtin .append, args := #[s, x], argTypes := #[25, 25] })
    (hsv : a.eval s = v) (h0 : TsX w lo p v T) (hu : StsX w p w.heap.size (.slice au y.length cu) y) (hlo : lo ≤ p) (hp : p ≤ w.heap.size) (hsrc : ∃ A c, a.eval x = .slice A 1 c ∧ SrcAt w 1 A 1 [.slice au y.length cu]) (hb : T.length ≤ 1000)
    (h : ∀ A c w', TsX w' lo w'.heap.size (.slice A (T.length + 1) c) (T ++ [y]) → w.grownBy w' v.ownBlock → ((Value.slice A (T.length + 1) c).ownBlock = v.ownBlock ∨ (Value.slice A (T.length + 1) c).ownBlock = some w.heap.size) → K (a.put o.dst (.slice A (T.length + 1) c)) w') :
    if Region.wanted o (yielded ops a.tmps) = true then Oper.wp Tryz.prog o a w K Q else E := by
  obtain ⟨LL, rfl, h1, h2⟩ := h0
  obtain ⟨i0, hi, hz0, hz1, hz2⟩ := tssl_info
  rw [List.length_map] at hb h
  refine step_app hgd s x ho Tryz.underlying25 hi hz0 hz1 hz2 rfl (by decide) v LL.length (LL.map (·.2)) hsv h1 1 [.slice au y.length cu] hsrc (by intro q hq; simp at hq; subst hq; rfl) (by simp only [maxLen]; omega) (by omega) (Nat.le_trans hlo hp) fun v' w' g1 g2 g3 => ?_
  obtain ⟨A', c', rfl⟩ := own_at g1
  have hk : ∀ b, b < w.heap.size → some b ≠ v.ownBlock → w'.heap[b]? = w.heap[b]? := fun b hb hne => g2.block b hb hne
  have hz := g2.size
  refine h A' c' w' ⟨LL ++ [(y, .slice au y.length cu)], by simp, by simpa using g1, ?_⟩ g2 g3
  refine h2.snoc (q := w.heap.size) (fun f g z hf hg hd hz => hz.kept fun b hb hb' => hk b (by omega) fun e => ?_) ?_ hlo hp hz ?_ fun k hk => (g1.lt k hk).2
  · rcases hd b e.symm with h | h <;> omega
  · exact hu.kept fun b hb hb' => hk b hb' fun e => by have := h2.1 b e.symm; omega
  · rcases g3 with e | e
    · exact .inl e
    · exact .inr ⟨_, e, Nat.le_refl _⟩
end Go.Proofs.YtphlbbnmligadaaGreatDoor
