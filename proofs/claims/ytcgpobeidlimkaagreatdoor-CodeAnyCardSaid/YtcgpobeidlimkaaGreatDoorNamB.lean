/- Own words, registers, names: the program's word. -/
import Derived.Test.YtcgpobeidlimkaaGreatDoorNamA
import Derived.Test.YtcgpobeidlimkaaGreatDoorRShelf
namespace Go.Proofs.YtcgpobeidlimkaaGreatDoor
open Go.RowKit

def keyZ : List ByteArray := [⟨#[118, 97, 114, 115]⟩, ⟨#[100, 111, 109, 97, 105, 110]⟩, ⟨#[116, 104, 114, 101, 97, 100]⟩, ⟨#[102, 101, 110, 99, 101]⟩, ⟨#[115, 102, 101, 110, 99, 101]⟩, ⟨#[99, 97, 115]⟩, ⟨#[108, 111, 99, 107]⟩, ⟨#[117, 110, 108, 111, 99, 107]⟩, ⟨#[97, 115, 115, 101, 114, 116]⟩, ⟨#[105, 102]⟩, ⟨#[101, 108, 115, 101]⟩, ⟨#[119, 104, 105, 108, 101]⟩]
def regZ : List ByteArray := [⟨#[114, 48]⟩, ⟨#[114, 49]⟩, ⟨#[114, 50]⟩, ⟨#[114, 51]⟩]
def keyB (s : ByteArray) : Bool := Lib.containsS keyZ s
def regI (s : ByteArray) : Int := Lib.idxOfS regZ s

theorem row_cell (w : World) (zs : List ByteArray) (T : TypeId) (j : Nat) (hj : j < zs.length) : (w.alloc (.cells (zs.map Value.string).toArray T)).cell? ⟨w.heap.size, 0 + j, none⟩ = some (.string (zs.getD j ByteArray.empty)) := by
  rw [World.cell?_alloc_at _ _ _ _ (by simp)]
  simp [hj]

set_option maxRecDepth 100000 in
set_option maxHeartbeats 2000000 in
theorem key_any (s : ByteArray) (w : World) : Calls Tryz.prog 66 #[.string s] w fun e w' => e = .returned (.bool (keyB s)) ∧ Below w.heap.size w w' := by
  have hcon := slices_Contains_string w.heap.size 0 12 12 keyZ s (w.alloc (.cells (keyZ.map Value.string).toArray 9)) (by decide) (by decide) (fun j hj => row_cell w keyZ _ j hj)
  have ht : Lib.containsS (keyZ.take 12) s = keyB s := rfl
  rw [ht] at hcon
  generalize keyB s = b at hcon ⊢
  go_enter Tryz.func66, Tryz.ntmps66
  go_wp2_with (first
    | (go_at_call 94; refine hcon.mono ?_; rintro e w1 ⟨rfl, rfl⟩)
    | fail)
  go_ret
  exact ⟨rfl, (Below.refl _ w).alloc (Nat.le_refl _) _⟩

set_option maxRecDepth 100000 in
set_option maxHeartbeats 2000000 in
theorem reg_any (s : ByteArray) (w : World) : Calls Tryz.prog 67 #[.string s] w fun e w' => e = .returned (.int .i64 (regI s)) ∧ Below w.heap.size w w' := by
  have hcon := slices_Index_string w.heap.size 0 4 4 regZ s (w.alloc (.cells (regZ.map Value.string).toArray 9)) (by decide) (by decide) (fun j hj => row_cell w regZ _ j hj)
  have ht : Lib.idxOfS (regZ.take 4) s = regI s := rfl
  rw [ht] at hcon
  generalize regI s = b at hcon ⊢
  go_enter Tryz.func67, Tryz.ntmps67
  go_wp2_with (first
    | (go_at_call 95; refine hcon.mono ?_; rintro e w1 ⟨rfl, rfl⟩)
    | fail)
  go_ret
  exact ⟨rfl, (Below.refl _ w).alloc (Nat.le_refl _) _⟩

def nameB (s : ByteArray) : Bool :=
  match s.data.toList with
  | [] => false
  | c :: _ => decide (s.size ≤ 12) && letterB c && decide (runP partB s.data.toList = s.size) && !keyB s && decide (regI s < 0)

set_option maxRecDepth 100000 in
set_option maxHeartbeats 4000000 in
theorem name_any (s : ByteArray) (w : World) : Calls Tryz.prog 43 #[.string s] w fun e w' => e = .returned (.bool (nameB s)) ∧ Below w.heap.size w w' := by
  cases hl : s.data.toList with
  | nil =>
    have he : s.toList.isEmpty = true := by rw [Lib.toList_data, hl]; rfl
    have hn : Hid (nameB s = false) := by show _ = _; unfold nameB; rw [hl]
    clear hl
    go_enter Tryz.func43, Tryz.ntmps43
    go_wp2_with fail
    go_ret
    exact ⟨ret_bool (by rw [hn.out]), Below.refl _ _⟩
  | cons c r =>
    have hne : s.toList.isEmpty = false := by rw [Lib.toList_data, hl]; rfl
    have h1 : 1 ≤ s.size := by rw [← data_len, hl]; simp
    have hc : s[0] = c := by
      have := drop_byte s 0 h1
      rw [List.drop_zero, hl] at this
      exact (List.cons.inj this).1.symm
    have i0 : (0 : Int) < s.size := by omega
    have hn : Hid (nameB s = (decide (s.size ≤ 12) && letterB s[0] && decide (runP partB s.data.toList = s.size) && !keyB s && decide (regI s < 0))) := by
      show _ = _
      unfold nameB
      rw [hl, hc]
    have hlet := letter_any s[0] w
    have hkey := key_any s w
    obtain ⟨n, hnn⟩ : ∃ n, runP partB s.data.toList = n := ⟨_, rfl⟩
    by_cases h12 : s.size ≤ 12
    · have h12' : (s.size : Int) ≤ 12 := by omega
      have hrun := run_part s w (by omega)
      rw [hnn] at hrun hn
      clear hl hc hnn
      have hx1 : decide (s.size ≤ 12) = true := decide_eq_true h12
      have hlb : ∀ b, letterB s[0] = b → Calls Tryz.prog 63 #[.int .u8 s[0].toNat] w fun e w' => e = .returned (.bool b) ∧ w = w' := fun b h => by rw [← h]; exact hlet
      have hkb : ∀ b, keyB s = b → Calls Tryz.prog 66 #[.string s] w fun e w' => e = .returned (.bool b) ∧ Below w.heap.size w w' := fun b h => by rw [← h]; exact hkey
      clear hlet hkey
      cases hL : letterB s[0] with
      | false =>
        have hlet := hlb _ hL
        have hfin : Hid (nameB s = false) := by show _ = _; rw [hn.out, hL]; simp
        clear hlb hkb hn hL hx1
        go_enter Tryz.func43, Tryz.ntmps43
        go_wp2_with (first
          | (go_at_call 63; refine hlet.mono ?_; rintro e w1 ⟨rfl, rfl⟩)
          | fail)
        go_ret
        exact ⟨ret_bool (by rw [hfin.out]), Below.refl _ _⟩
      | true =>
        have hlet := hlb _ hL
        by_cases hN : n = s.size
        · subst hN
          cases hK : keyB s with
          | true =>
            have hkey := hkb _ hK
            have hfin : Hid (nameB s = false) := by show _ = _; rw [hn.out, hK]; simp
            clear hlb hkb hn hL hx1 hK
            go_enter Tryz.func43, Tryz.ntmps43
            go_wp2_with (first
              | (go_at_call 63; refine hlet.mono ?_; rintro e w1 ⟨rfl, rfl⟩)
              | (go_at_call 64; refine hrun.mono ?_; rintro e w1 ⟨rfl, rfl⟩)
              | (go_at_call 66; refine hkey.mono ?_; rintro e w1 ⟨rfl, hb1⟩)
              | fail)
            go_ret
            exact ⟨ret_bool (by rw [hfin.out]), hb1⟩
          | false =>
            have hkey := hkb _ hK
            have hfin : Hid (nameB s = decide (regI s < 0)) := by show _ = _; rw [hn.out, hK, hL, hx1]; simp
            clear hlb hkb hn hL hx1 hK
            have hreg := fun w => reg_any s w
            generalize regI s = x at hfin hreg
            go_enter Tryz.func43, Tryz.ntmps43
            go_wp2_with (first
              | (go_at_call 63; refine hlet.mono ?_; rintro e w1 ⟨rfl, rfl⟩)
              | (go_at_call 64; refine hrun.mono ?_; rintro e w1 ⟨rfl, rfl⟩)
              | (go_at_call 66; refine hkey.mono ?_; rintro e w1 ⟨rfl, hb1⟩)
              | (go_at_call 67; refine (hreg w1).mono ?_; rintro e w2 ⟨rfl, hb2⟩)
              | fail)
            go_ret
            exact ⟨ret_bool (by rw [hfin.out]), hb1.trans (hb2.mono hb1.size)⟩
        · have hfin : Hid (nameB s = false) := by show _ = _; rw [hn.out, decide_eq_false hN]; simp
          have hN' : ¬ (n : Int) = s.size := by omega
          have hN2 : ((n : Int) == s.size) = false := by simpa using hN'
          clear hlb hkb hn hL hx1 hN
          go_enter Tryz.func43, Tryz.ntmps43
          go_wp2_with (first
            | (go_at_call 63; refine hlet.mono ?_; rintro e w1 ⟨rfl, rfl⟩)
            | (go_at_call 64; refine hrun.mono ?_; rintro e w1 ⟨rfl, rfl⟩)
            | fail)
          go_ret
          exact ⟨ret_bool (by rw [hfin.out]), Below.refl _ _⟩
    · have hfin : Hid (nameB s = false) := by show _ = _; rw [hn.out, decide_eq_false h12]; simp
      have h12' : ¬ (s.size : Int) ≤ 12 := by omega
      have h12'' : decide ((s.size : Int) ≤ 12) = false := decide_eq_false h12'
      clear hl hc hnn hn hlet hkey h12
      go_enter Tryz.func43, Tryz.ntmps43
      go_wp2_with fail
      go_ret
      exact ⟨ret_bool (by rw [hfin.out]), Below.refl _ _⟩
end Go.Proofs.YtcgpobeidlimkaaGreatDoor
