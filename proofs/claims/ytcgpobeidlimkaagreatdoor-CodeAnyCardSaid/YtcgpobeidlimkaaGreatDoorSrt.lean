/- Names, sorted, each once: how many there are. -/
import Derived.Test.YtcgpobeidlimkaaGreatDoorPgM
import Derived.Test.YtcgpobeidlimkaaGreatDoorSeqB
import Derived.Test.YtcgpobeidlimkaaGreatDoorRShelf
import Derived.Shelf.RegionOpen
import Derived.WalkKit
import Derived.OwnWalkIn
import Derived.TacticsInMore
import Derived.LoopNIn
import Derived.LoopIn
import Derived.ControlIn
namespace Go.Proofs.YtcgpobeidlimkaaGreatDoor
open Go.RowKit Go.Sort

def bl (s : ByteArray) : List UInt8 := s.data.toList
theorem encStr_bl (s : ByteArray) : encStr (bl s) = .string s := by
  show Value.string _ = _
  unfold bl
  cases s; rfl

set_option maxRecDepth 100000 in
set_option maxHeartbeats 2000000 in
/-- slices.Values's closure. -/
theorem values1_in (n : Nat) (hn : 1 ≤ n) (l Bs n0 : Nat) (a : Option Addr) (cap : Nat) (zs : List ByteArray) (J : List (List UInt8) → World → Prop) (w W : World) (hBw : Below n0 w W)
    (hz : VrIn w (fun b => b < n0) a zs.length cap zs) (hBs : w.cell? ⟨Bs, 0, none⟩ = some (.slice a zs.length cap)) (hB0 : Bs < n0)
    (hJB : ∀ pre W1, J pre W1 → Below n0 w W1)
    (hY : ∀ pre x W1, J pre W1 → pre.length < zs.length → YieldAt Fence.wide (n - 1) Tryz.prog l #[encStr x] W1 fun e W' => e = .returned (.bool true) ∧ J (pre ++ [x]) W' ∧ KeepsWalks W1 W')
    (h0 : J [] W) :
    CallsIn Fence.wide n Tryz.prog 71 #[.func (.yield l) #[] #[], .pointer (some ⟨Bs, 0, none⟩)] W fun e W' => (∃ v, e = .returned v) ∧ ∃ xs, xs = zs.map bl ∧ J xs W' := by
  have hcap := hz.le
  have hmx := hz.mx
  unfold maxLen at hmx
  have hBs' : W.cell? ⟨Bs, 0, none⟩ = some (.slice a zs.length cap) := (hBw.cell (p := ⟨_, _, none⟩) hB0).trans hBs
  refine callsIn_of_wp Tryz.func71 rfl trivial ?_ rfl
  simp only [Tryz.ntmps71, List.size_toArray, List.length_cons, List.length_nil, Nat.reduceAdd, Nat.reduceSub, Array.replicate_succ, Array.replicate_zero, List.push_toArray, List.append_toArray, List.nil_append, List.cons_append]
  gi_wp2
  gi_loopw [7] (fun i wr => ∃ k : Nat, k ≤ zs.length ∧ i = .int .i64 k ∧ J ((zs.take k).map bl) wr) (fun i _ => zs.length - (intOf i).toNat)
  case atStart => exact ⟨0, Nat.zero_le _, rfl, h0⟩
  case round =>
    obtain ⟨k, hk, rfl, hJs⟩ := hrel
    by_cases hlt : k < zs.length
    · obtain ⟨b, off, rfl, hb, hc⟩ := hz.at_ k hlt
      have hcx : wr.cell? ⟨b, off + k, none⟩ = some (.string zs[k]) := ((hJB _ _ hJs).cell (p := ⟨_, _, none⟩) hb).trans hc
      obtain ⟨fn, tmps, assign, body, hy, hR⟩ := hY _ (bl zs[k]) wr hJs (by simp; omega)
      rw [encStr_bl] at hy
      gi_wp2
      refine hR.mono ?_
      rintro e W3 ⟨rfl, hJ3, hk3⟩
      gi_wp2
      go_roundw
      case rel => exact ⟨k + 1, by omega, by simp, by rw [List.take_succ_eq_append_getElem hlt, List.map_append]; exact hJ3⟩
      case measure => simp [intOf]; omega
    · obtain rfl : k = zs.length := by omega
      rw [List.take_length] at hJs
      gi_wp2
      go_end0
      exact ⟨⟨_, rfl⟩, _, rfl, hJs⟩

/-- slices.Values. -/
def VlPost (a : Option Addr) (n cap : Nat) (w : World) (e : Ending) (w' : World) : Prop :=
  ∃ Bs, e = .returned (.func (.func 71) #[] #[.pointer (some ⟨Bs, 0, none⟩)]) ∧ Bs < w'.heap.size ∧ w'.cell? ⟨Bs, 0, none⟩ = some (.slice a n cap) ∧ Below w.heap.size w w'
theorem values_any (a : Option Addr) (n cap : Nat) (w : World) : Calls Tryz.prog 47 #[.slice a n cap] w (VlPost a n cap w) := by
  go_enter Tryz.func47, Tryz.ntmps47
  go_wp2_with fail
  go_ret
  exact ⟨w.heap.size, rfl, by simp, by go_simp, (Below.refl _ w).alloc (Nat.le_refl _) _⟩

theorem sortsB (m : Nat) : AnyZ.SortsIn Tryz.prog laysZ6_ren Fence.wide m :=
  ⟨fun blk off cap ss W hH hblk hsz => callsIn_wide.2 (slices_Sort_string blk off cap ss W hH hblk hsz), fun p cap W => callsIn_wide.2 (slices_Sort_string_none p cap W)⟩

/-- slices.Sorted, of what slices.Values gives. -/
def SoPost (l : List ByteArray) (w : World) (e : Ending) (w' : World) : Prop :=
  ∃ g cap, e = .returned (.slice (some ⟨g, 0, none⟩) l.length cap) ∧ w.heap.size ≤ g ∧ l.length ≤ cap ∧ Holds encStr w' g 0 ((l.map bl).mergeSort fun x y => decide (x ≤ y)).toArray ∧ Below w.heap.size w w'
set_option maxHeartbeats 1000000 in
theorem sorted_any (Bs : Nat) (a : Option Addr) (cap : Nat) (l : List ByteArray) (w : World) (h1 : 1 ≤ l.length) (h4 : l.length ≤ 4) (hz : VrIn w (In_ w) a l.length cap l) (hB : Bs < w.heap.size) (hBs : w.cell? ⟨Bs, 0, none⟩ = some (.slice a l.length cap)) :
    Calls Tryz.prog 46 #[.func (.func 71) #[] #[.pointer (some ⟨Bs, 0, none⟩)]] w (SoPost l w) := by
  have hseq : SeqGivesB Fence.wide (6 - 1 - 1 - 1) Tryz.prog 71 #[.pointer (some ⟨Bs, 0, none⟩)] encStr (fun xs => xs = l.map bl) l.length w := fun y J W hW _ hJB hY h0 =>
    values1_in 3 (by omega) y Bs w.heap.size a cap l J w W hW hz hBs hB hJB hY h0
  have h := callsIn_wide.1 (sortedB_in (P := Tryz.prog) (ρ := laysZ6_ren) laysZ6 Fence.wide 6 trivial trivial trivial trivial rfl (by omega) (sortsB _) (enters_of Tryz.func70 (by kernel_rfl) rfl) 71 #[.pointer (some ⟨Bs, 0, none⟩)] trivial
    (enters_of Tryz.func71 (by kernel_rfl) rfl) (fun xs => xs = l.map bl) l.length (by unfold maxLen; omega) (by omega) w hseq)
  refine Calls.mono h ?_
  rintro e w' ⟨v, ss, rfl, rfl, hrow, hnil, hb⟩
  rcases hrow.2 with ⟨rfl, hz0⟩ | ⟨g, cap2, cur, rfl, hbase, hgb, r1, r2, r3, r4⟩
  · simp at hz0
    rw [hz0] at h1
    simp at h1
  · rw [List.length_map] at r1 ⊢
    refine ⟨g, cap2, rfl, hbase, r1, holds_of_block hgb ?_, hb⟩
    simpa using r4
end Go.Proofs.YtcgpobeidlimkaaGreatDoor
