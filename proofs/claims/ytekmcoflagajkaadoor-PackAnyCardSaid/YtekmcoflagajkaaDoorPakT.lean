/- Bytes as numbers: the document's take. -/
import Derived.Test.YtekmcoflagajkaaDoorIntO
import Derived.Test.YtekmcoflagajkaaDoorKp
import Derived.BigQuiet
import Derived.Deep.QuietTactic
import Derived.Lib.Strings
namespace Go.Proofs.YtekmcoflagajkaaDoor
open Go.RowKit

/-- A text's bytes as numbers. -/
def bytL (s : ByteArray) : List Int := s.data.toList.map fun c => (c.toNat : Int)
theorem bytL_len (s : ByteArray) : (bytL s).length = s.size := by unfold bytL; rw [List.length_map]; rfl
theorem bytL_get (s : ByteArray) (k : Nat) (h : k < s.size) : (bytL s)[k]'(by rw [bytL_len]; exact h) = (s[k].toNat : Int) := by
  unfold bytL
  simp
  rfl
theorem bytL_snoc (s : ByteArray) (k : Nat) (h : k < s.size) : (bytL s).take (k + 1) = (bytL s).take k ++ [(s[k].toNat : Int)] := by
  rw [List.take_succ_eq_append_getElem (by rw [bytL_len]; exact h), bytL_get s k h]
theorem bytL_byte (s : ByteArray) (k : Nat) : ∃ n : Nat, n ≤ 255 ∧ (bytL s).getD k 0 = (n : Int) := by
  by_cases h : k < s.size
  · refine ⟨s[k].toNat, by have := s[k].toNat_lt; omega, ?_⟩
    rw [← bytL_get s k h]
    exact (List.getElem_eq_getD (fallback := 0)).symm
  · refine ⟨0, by omega, ?_⟩
    rw [List.getD_eq_getElem?_getD, List.getElem?_eq_none (by rw [bytL_len]; omega)]
    rfl
theorem bytL_drop (s : ByteArray) (k : Nat) : bytL (s.extract k s.size) = (bytL s).drop k := by
  unfold bytL
  rw [Lib.extract_data, List.map_take, List.map_drop, List.take_of_length_le]
  rw [List.length_drop, List.length_map]
  exact Nat.le_refl _

/-- So many bytes and what is behind, or there are too few. -/
def BytPost (w : World) (L : List Int) (n : Nat) (e : Ending) (w' : World) : Prop :=
  ∃ a cap s', e = .returned (.tuple #[.slice a n cap, .string s', .bool true]) ∧ IntIn w' (fun b => w.heap.size ≤ b ∧ b < w'.heap.size) a n cap (L.take n) ∧ bytL s' = L.drop n ∧ Below w.heap.size w w'

set_option maxHeartbeats 2000000 in
theorem take_no (s : ByteArray) (n : Int) (w : World) (h : (s.size : Int) < n) :
    Calls Tryd.prog 25 #[.string s, .int .i64 n] w fun e w' => e = .returned (.tuple #[.slice none 0 0, .string { data := #[] }, .bool false]) ∧ w = w' := by
  go_enter Tryd.func25, Tryd.ntmps25
  go_wp2_with fail
  go_ret3
  exact ⟨rfl, rfl⟩

set_option maxHeartbeats 2000000 in
theorem take_ok (s : ByteArray) (n : Nat) (w : World) (h : n ≤ s.size) (hn : n ≤ 10000) (hs : s.size ≤ 100000) :
    Calls Tryd.prog 25 #[.string s, .int .i64 n] w (BytPost w (bytL s) n) := by
  have h0 : (0 : Int) ≤ n := by omega
  have h1 : ¬ (s.size : Int) < n := by omega
  go_enter Tryd.func25, Tryd.ntmps25
  go_wp2_with fail
  go_loopw [7, 8] (fun o i wr => ∃ k : Nat, k ≤ n ∧ i = .int .i64 k ∧ Kp w wr ∧ Hid (NumIs wr w.heap.size o ((bytL s).take k))) (fun _ i _ => n - (intOf i).toNat)
  case atStart => exact ⟨0, Nat.zero_le _, rfl, Kp.refl _, NumIs.nil⟩
  case round =>
    obtain ⟨k, hk, rfl, hK, hO⟩ := hrel
    obtain ⟨⟨a1, n1, c1, rfl⟩, hown⟩ := hO.out
    have hown := hid hown
    clear hO
    by_cases hlt : k < n
    · have hks : k < s.size := by omega
      have hts := hid (bytL_snoc s k hks)
      have hle : Hid (((bytL s).take k).length ≤ 10000) := by show _ ≤ _; rw [List.length_take]; omega
      have k0 : (0 : Int) ≤ k := by omega
      have k1 : (k : Int) < n := by omega
      have k2 : (k : Int) < s.size := by omega
      generalize (bytL s).take k = C at *
      have b0 : (0 : Int) ≤ s[k].toNat := by omega
      have b1 : (s[k].toNat : Int) < 256 := by have := s[k].toNat_lt; omega
      have g0 := hK.1.size
      go_wp2_with (first
        | (at_builtin
           refine list_i6 (base := w.heap.size) (.tmp 18) (.tmp 23) (.slice a1 n1 c1) C.length (C.map (Value.int .i64)) 1 [.int .i64 s[k].toNat] ?_ ?_ ?_ ?_ ?_ ?_ ?_ ?_ ?_
           (focus rfl); (focus rfl); (focus rfl); (focus exact hown.out.alloc _); (focus exact ⟨_, _, rfl, src_new rfl⟩); (focus exact one_i6); (focus (have := hle.out; omega)); (focus (simp; omega))
           intro v2 w2 hown2 hg2 hat2
           have hk1 : Kp w w2 := Kp.grown (hK.alloc _) hg2 (fun k hk => (hown.out.lt k hk).1))
        | fail)
      have hO2 := hid (NumIs.app (L := C) (news := [(s[k].toNat : Int)]) hown2)
      clear hown2 hg2 hat2 hown
      obtain ⟨⟨a2, n2, c2, rfl⟩, _⟩ := hO2.out
      go_roundw
      case rel => exact ⟨k + 1, by omega, by simp, hk1, by rw [hts.out]; exact hO2⟩
      case measure => simp [intOf]; omega
    · obtain rfl : k = n := by omega
      have hlen : ((bytL s).take k).length = k := by rw [List.length_take, bytL_len]; omega
      obtain ⟨a9, c9, e9, hin⟩ := IntIn.of_own hown.out
      rw [hlen] at e9 hin
      obtain ⟨rfl, rfl, rfl⟩ : a1 = a9 ∧ n1 = k ∧ c1 = c9 := by simpa using e9
      have hin := hid hin
      clear hlen e9 hown
      go_wp2_with fail
      go_quiet (fail)
      go_wp2
      go_ret3
      exact ⟨_, _, _, rfl, IntIn.keep (w' := wr.drewN nq) hin.out (fun _ _ _ => rfl), bytL_drop s n1, (drewN_kp hK nq).1⟩
end Go.Proofs.YtekmcoflagajkaaDoor
