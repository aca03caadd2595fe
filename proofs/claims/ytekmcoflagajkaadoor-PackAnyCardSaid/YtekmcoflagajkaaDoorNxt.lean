/- The program's way to take bytes: next, left, taker. -/
import Derived.Test.YtekmcoflagajkaaDoorPakT
import Derived.Test.YtekmcoflagajkaaDoorThO
namespace Go.Proofs.YtekmcoflagajkaaDoor
open Go.RowKit

/-- The text that is left, in its box. -/
structure StB (w : World) (B : Nat) (L : List Int) : Prop where
  lt : B < w.heap.size
  fz : w.frozen? ⟨B, 0, none⟩ = false
  at_ : ∃ s : ByteArray, w.cell? ⟨B, 0, none⟩ = some (.string s) ∧ bytL s = L ∧ s.size ≤ 100000
theorem frozen_put {w : World} {tb o : Nat} {a : Addr} {u : Value} (h : w.frozen? ⟨tb, o, none⟩ = false) : (w.setCell a u).frozen? ⟨tb, o, none⟩ = false := by go_simp
theorem StB.block {w w' : World} {B : Nat} {L : List Int} (h : StB w B L) (hs : w.heap.size ≤ w'.heap.size) (hb : w'.heap[B]? = w.heap[B]?) : StB w' B L := by
  obtain ⟨s, h1, h2⟩ := h.at_
  exact ⟨Nat.lt_of_lt_of_le h.lt hs, (World.frozen?_of_block (w := w) (a := ⟨B, 0, none⟩) hb).trans h.fz, s, (World.cell?_of_block (w := w) (a := ⟨B, 0, none⟩) hb).trans h1, h2⟩
theorem StB.alloc {w : World} {B : Nat} {L : List Int} (h : StB w B L) (o : Obj) : StB (w.alloc o) B L := h.block (by simp) (Below.heap_alloc _ _ _ h.lt)
theorem StB.drew {w : World} {B : Nat} {L : List Int} (h : StB w B L) : StB w.drew B L := ⟨h.lt, h.fz, h.at_⟩
theorem StB.grown {w w' : World} {B : Nat} {L : List Int} {r : Option Nat} (h : StB w B L) (hg : w.grownBy w' r) (hr : r ≠ some B) : StB w' B L := h.block hg.size (hg.block B h.lt fun e => hr e.symm)
theorem StB.set {w : World} {B b o : Nat} {L : List Int} {u : Value} (h : StB w B L) (hb : B ≠ b) : StB (w.setCell ⟨b, o, none⟩ u) B L := h.block (by simp [World.setCell]) (Below.heap_setCell _ _ _ _ hb)

/-- Too few bytes. -/
abbrev shortP : Ending := .panicked [{ v := .iface 58 (.agg #[]), recovered := false }]
def NextPost (w : World) (B : Nat) (L : List Int) (e : Ending) (w' : World) : Prop :=
  match L with
  | [] => e = shortP ∧ w = w'
  | x :: r => e = .returned (.int .i64 x) ∧ StB w' B r ∧ w.grownBy w' (some B) ∧ w'.heap.size = w.heap.size

set_option maxHeartbeats 2000000 in
theorem next_any (B : Nat) (L : List Int) (w : World) (h : StB w B L) :
    Calls Tryd.prog 32 #[.pointer (some ⟨B, 0, none⟩)] w (NextPost w B L) := by
  obtain ⟨hlt, hf, s, hc, hL, hs⟩ := h
  have hb : bytL s = s.toList.map fun c => (c.toNat : Int) := by unfold bytL; rw [Lib.toList_data]
  have hlen := bytL_len s
  cases L with
  | nil =>
    have he : s.toList.isEmpty = true := by
      rw [hb] at hL
      rw [List.map_eq_nil_iff.1 hL]
      rfl
    have hpost : Hid (NextPost w B [] shortP w) := ⟨rfl, rfl⟩
    clear hL hb hlen
    go_enter Tryd.func32, Tryd.ntmps32
    go_wp2_with fail
    exact ⟨rfl, hpost.out⟩
  | cons x r =>
    have h0 : 0 < s.size := by rw [← hlen, hL]; simp
    have he : s.toList.isEmpty = false := by
      cases hx : s.toList with
      | nil => rw [hb, hx] at hL; cases hL
      | cons => rfl
    have hx : x = s[0].toNat := by
      have := bytL_get s 0 h0
      simp only [hL, List.getElem_cons_zero] at this
      exact this
    have hr : bytL (s.extract 1 s.size) = r := by rw [bytL_drop, hL]; rfl
    have hsz : (s.extract 1 s.size).size ≤ 100000 := by
      have := bytL_len (s.extract 1 s.size)
      rw [hr] at this
      rw [hL] at hlen
      simp at hlen
      omega
    have hpost : Hid (NextPost w B (x :: r) (.returned (.int .i64 s[0].toNat)) (w.setCell ⟨B, 0, none⟩ (.string (s.extract 1 s.size)))) := by
      refine ⟨by rw [hx], ⟨by simpa [World.setCell] using hlt, frozen_put hf, _, by go_simp, hr, hsz⟩, grown_set _ _ _ _, by simp [World.setCell]⟩
    have b1 : (s[0].toNat : Int) < 256 := by have := s[0].toNat_lt; omega
    have b0 : (0 : Int) ≤ s[0].toNat := by omega
    have i0 : (0 : Int) < s.size := by omega
    have i1 : (1 : Int) ≤ s.size := by omega
    clear hL hb hlen hx hr hsz
    go_enter Tryd.func32, Tryd.ntmps32
    go_wp2_with fail
    go_ret
    exact hpost.out

set_option maxHeartbeats 2000000 in
theorem left_any (B : Nat) (L : List Int) (w : World) (h : StB w B L) :
    Calls Tryd.prog 33 #[.pointer (some ⟨B, 0, none⟩)] w fun e w' => e = .returned (.int .i64 L.length) ∧ w = w' := by
  obtain ⟨hlt, hf, s, hc, hL, hs⟩ := h
  have hlen := hid (bytL_len s)
  have hL := hid hL
  go_enter Tryd.func33, Tryd.ntmps33
  go_wp2_with fail
  go_ret
  exact ⟨ret_int (by rw [← hL.out, hlen.out]), rfl⟩

/-- The function value that takes the next byte. -/
def nxV (B : Nat) : Value := .func (.func 32) #[] #[.pointer (some ⟨B, 0, none⟩)]
def lfV (B : Nat) : Value := .func (.func 33) #[] #[.pointer (some ⟨B, 0, none⟩)]

set_option maxHeartbeats 2000000 in
theorem taker_any (s : ByteArray) (w : World) :
    Calls Tryd.prog 20 #[.string s] w fun e w' => e = .returned (.tuple #[.func (.func 32) #[] #[.pointer (some ⟨w.heap.size, 0, none⟩)], .func (.func 33) #[] #[.pointer (some ⟨w.heap.size, 0, none⟩)]]) ∧ w' = w.alloc (.cells #[.string s] 9) := by
  have hmf : ∀ (fn : Fn) (first cap : Array Value) (w : World), (Instr.makeFunc fn first cap).run Tryd.prog w = .ok (.func fn first cap) w := fun _ _ _ _ => rfl
  go_enter Tryd.func20, Tryd.ntmps20
  go_wp2_with fail
  go_ret2
  exact ⟨rfl, rfl⟩
end Go.Proofs.YtekmcoflagajkaaDoor
