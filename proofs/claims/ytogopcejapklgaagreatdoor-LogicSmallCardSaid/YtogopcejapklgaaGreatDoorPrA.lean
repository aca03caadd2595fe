/- The parser's want and need. -/
import Derived.Test.YtogopcejapklgaaGreatDoorPrB
namespace Go.Proofs.YtogopcejapklgaaGreatDoor
open Go.RowKit

theorem want_yes (P : Nat) (er : Int) (w : World) : Calls Tryz.prog 27 #[.pointer (some ⟨P, 0, none⟩), .bool true, .int .i64 er] w fun e w' => e = .returned (.tuple #[]) ∧ w = w' := by
  go_enter Tryz.func27, Tryz.ntmps27
  go_wp2_with fail
  go_end0
  exact ⟨rfl, rfl⟩
def WantPost (w : World) (er : Int) (i : Nat) (e : Ending) (w' : World) : Prop := e = wrongP er i ∧ w = w'
set_option maxHeartbeats 1000000 in
theorem want_no (P : Nat) (L : List Tok) (c : Int) (er : Int) (w : World) (hP : PBox w P L c) (hE : Ends L) :
    Calls Tryz.prog 27 #[.pointer (some ⟨P, 0, none⟩), .bool false, .int .i64 er] w (WantPost w er (hdT L).place) := by
  obtain ⟨b, off, cap, h0, hb, hl1, hl2, hl3, g0, g1, g2, g3, -⟩ := hP.hd hE
  have hlt := hP.lt
  have hpost : Hid (WantPost w er (hdT L).place (wrongP er (hdT L).place) w) := ⟨rfl, rfl⟩
  generalize (hdT L).place = pl at *
  generalize (hdT L).kind = kd at *
  generalize (hdT L).n = nn at *
  generalize (hdT L).text = tx at *
  have i0 : (0 : Int) < L.length := by omega
  go_enter Tryz.func27, Tryz.ntmps27
  go_wp2_with fail
  exact ⟨rfl, hpost.out⟩

def NeedPost (w : World) (P : Nat) (L : List Tok) (c : Int) (s : List UInt8) (e : Ending) (w' : World) : Prop :=
  match needP s L with
  | .ok L1 => e = .returned (.tuple #[]) ∧ PBox w' P L1 c ∧ w.grownBy w' (some P)
  | .bad er i => e = wrongP er i ∧ w.grownBy w' (some P)
set_option maxHeartbeats 4000000 in
theorem need_any (P : Nat) (L : List Tok) (c : Int) (ch : UInt8) (w : World) (hP : PBox w P L c) (hE : Ends L) :
    Calls Tryz.prog 80 #[.pointer (some ⟨P, 0, none⟩), .string ⟨#[ch]⟩] w (NeedPost w P L c [ch]) := by
  obtain ⟨b, off, cap, h0, hb, hl1, hl2, hl3, g0, g1, g2, g3, hT⟩ := hP.hd hE
  have hlt := hP.lt
  have hno := hid (want_no P L c 21 w hP hE)
  have hf := hP.f0 0
  have i0 : (0 : Int) < L.length := by omega
  unfold maxLen at hl3
  by_cases hk : (hdT L).kind = 0
  · have hn : needP [ch] L = .bad 21 (hdT L).place := by unfold needP; rw [if_neg (fun h => h.1 hk)]
    have hfin : Hid (NeedPost w P L c [ch] (wrongP 21 (hdT L).place) w) := by unfold NeedPost; rw [hn]; exact ⟨rfl, grown_refl _ _⟩
    clear hn
    rw [hk] at g0
    go_enter Tryz.func80, Tryz.ntmps80
    go_wp2_with (first
      | (go_at_call 27
         with_reducible refine hno.out.mono ?_
         rintro e w1 ⟨rfl, rfl⟩)
      | fail)
    exact ⟨rfl, hfin.out⟩
  · by_cases ht : (hdT L).text = [ch]
    · have hn : needP [ch] L = .ok L.tail := by unfold needP; rw [if_pos ⟨hk, ht⟩]
      have hkb : ((hdT L).kind != 0) = true := by simpa using hk
      rw [ht] at g1
      have hL1 : 1 < L.length := by
        obtain ⟨t, M, rfl⟩ := hE.cons_
        have := (hE.tail (.inl hk)).cons_
        obtain ⟨t2, M2, rfl⟩ := this
        simp
      have hfin : Hid (NeedPost w P L c [ch] (.returned (.tuple #[])) (w.setCell ⟨P, 0, none⟩ (.slice (some ⟨b, off + 4, none⟩) L.tail.length (cap - 1)))) := by
        unfold NeedPost; rw [hn]
        exact ⟨rfl, hP.take (by intro h; rw [h] at hL1; simp at hL1) hT, grown_set _ _ _ _⟩
      rw [List.length_tail] at hfin
      have hyes := want_yes P 21
      clear hn
      generalize L.length = n at *
      go_enter Tryz.func80, Tryz.ntmps80
      go_wp2_with (first
        | (go_at_call 27
           with_reducible refine (hyes _).mono ?_
           rintro e w1 ⟨rfl, rfl⟩)
        | fail)
      go_end0
      exact hfin.out
    · have hn : needP [ch] L = .bad 21 (hdT L).place := by unfold needP; rw [if_neg (fun h => ht h.2)]
      have hfin : Hid (NeedPost w P L c [ch] (wrongP 21 (hdT L).place) w) := by unfold NeedPost; rw [hn]; exact ⟨rfl, grown_refl _ _⟩
      have hkb : ((hdT L).kind != 0) = true := by simpa using hk
      have htb : ((hdT L).text == [ch]) = false := by simpa using ht
      clear hn
      go_enter Tryz.func80, Tryz.ntmps80
      go_wp2_with (first
        | (go_at_call 27
           with_reducible refine hno.out.mono ?_
           rintro e w1 ⟨rfl, rfl⟩)
        | fail)
      exact ⟨rfl, hfin.out⟩
end Go.Proofs.YtogopcejapklgaaGreatDoor
