/- The language's own words, registers, names: the program's words. -/
import Derived.Test.YteomcjfnghbikaaDoorLexF
namespace Go.Proofs.YteomcjfnghbikaaDoor
open Go.RowKit

def keyZ : List ByteArray := [⟨#[118, 97, 114, 115]⟩, ⟨#[100, 111, 109, 97, 105, 110]⟩, ⟨#[116, 104, 114, 101, 97, 100]⟩, ⟨#[102, 101, 110, 99, 101]⟩, ⟨#[115, 102, 101, 110, 99, 101]⟩, ⟨#[99, 97, 115]⟩, ⟨#[108, 111, 99, 107]⟩, ⟨#[117, 110, 108, 111, 99, 107]⟩, ⟨#[97, 115, 115, 101, 114, 116]⟩, ⟨#[105, 102]⟩, ⟨#[101, 108, 115, 101]⟩, ⟨#[119, 104, 105, 108, 101]⟩]
def regZ : List ByteArray := [⟨#[114, 48]⟩, ⟨#[114, 49]⟩, ⟨#[114, 50]⟩, ⟨#[114, 51]⟩]
def keyB (s : ByteArray) : Bool := Lib.containsS keyZ s
def regI (s : ByteArray) : Int := Lib.idxOfS regZ s

theorem row_cell (w : World) (zs : List ByteArray) (T : TypeId) (j : Nat) (hj : j < zs.length) : (w.alloc (.cells (zs.map Value.string).toArray T)).cell? ⟨w.heap.size, 0 + j, none⟩ = some (.string (zs.getD j ByteArray.empty)) := by
  rw [World.cell?_alloc_at _ _ _ _ (by simp)]
  simp [hj]

set_option maxRecDepth 100000 in
set_option maxHeartbeats 2000000 in
theorem key_any (s : ByteArray) (w : World) : Calls Tryd.prog 12 #[.string s] w fun e w' => e = .returned (.bool (keyB s)) ∧ Below w.heap.size w w' := by
  have hcon := slices_Contains_string w.heap.size 0 12 12 keyZ s (w.alloc (.cells (keyZ.map Value.string).toArray 9)) (by decide) (by decide) (fun j hj => row_cell w keyZ _ j hj)
  have ht : Lib.containsS (keyZ.take 12) s = keyB s := rfl
  rw [ht] at hcon
  generalize keyB s = b at hcon ⊢
  go_enter Tryd.func12, Tryd.ntmps12
  go_wp2_with (first
    | (go_at_call 21; refine hcon.mono ?_; rintro e w1 ⟨rfl, rfl⟩)
    | fail)
  go_ret
  exact ⟨rfl, (Below.refl _ w).alloc (Nat.le_refl _) _⟩

set_option maxRecDepth 100000 in
set_option maxHeartbeats 2000000 in
theorem reg_any (s : ByteArray) (w : World) : Calls Tryd.prog 13 #[.string s] w fun e w' => e = .returned (.int .i64 (regI s)) ∧ Below w.heap.size w w' := by
  have hcon := slices_Index_string w.heap.size 0 4 4 regZ s (w.alloc (.cells (regZ.map Value.string).toArray 9)) (by decide) (by decide) (fun j hj => row_cell w regZ _ j hj)
  have ht : Lib.idxOfS (regZ.take 4) s = regI s := rfl
  rw [ht] at hcon
  generalize regI s = b at hcon ⊢
  go_enter Tryd.func13, Tryd.ntmps13
  go_wp2_with (first
    | (go_at_call 22; refine hcon.mono ?_; rintro e w1 ⟨rfl, rfl⟩)
    | fail)
  go_ret
  exact ⟨rfl, (Below.refl _ w).alloc (Nat.le_refl _) _⟩
end Go.Proofs.YteomcjfnghbikaaDoor
