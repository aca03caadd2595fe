/- Dekker's code. -/
import Derived.Test.YtekmcoflagajkaaDoorUnpR
import Derived.Test.YtekmcoflagajkaaDoorCodM
import Derived.Test.YtekmcoflagajkaaDoorRows
namespace Go.Proofs.YtekmcoflagajkaaDoor
open Go.RowKit

set_option maxHeartbeats 1000000 in
theorem num_any (n : Int) (w : World) :
    Calls Tryd.prog 14 #[.int .i64 n] w fun e w' => e = .returned (.agg #[.int .i64 1, .int .i64 n, .int .u8 0, .slice none 0 0]) ∧ Below w.heap.size w w' := by
  go_enter Tryd.func14, Tryd.ntmps14
  go_wp2
  exact bodyPost_ret (v := .agg #[.int .i64 1, .int .i64 n, .int .u8 0, .slice none 0 0]) (by simp [results, Tryd.results14, go_sem]) rfl ⟨rfl, (Below.refl _ _).alloc (Nat.le_refl _) _⟩

/-- An instruction without parts, and its cells. -/
def dk (op v k n : Int) : Ins := ⟨op, 0, v, .mk k n 0 [], .mk 0 0 0 [], 0⟩
def dkC (op v k n : Int) : List Value := [.int .i64 op, .int .i64 0, .int .i64 v, .int .i64 k, .int .i64 n, .int .u8 0, .slice none 0 0, .int .i64 0, .int .i64 0, .int .u8 0, .slice none 0 0, .int .i64 0]
def dekL : List (List Ins) := [[dk 2 0 1 1, dk 1 1 0 0], [dk 2 1 1 1, dk 1 0 0 0]]
theorem dk_in (w : World) (S : Nat → Prop) {op v k n : Int} (wk : (Lit.int .i64 k).wf = true) (wn : (Lit.int .i64 n).wf = true) : InsIn w S (dkC op v k n) (dk op v k n) :=
  ⟨_, _, _, _, _, _, _, _, rfl, ExIn.leaf w S k n 0 wk wn (by decide), ExIn.leaf w S 0 0 0 (by decide) (by decide) (by decide)⟩
theorem dk_row {w : World} {S : Nat → Prop} {b : Nat} {op v k n op' v' k' n' : Int} (wk : (Lit.int .i64 k).wf = true) (wn : (Lit.int .i64 n).wf = true) (wk' : (Lit.int .i64 k').wf = true) (wn' : (Lit.int .i64 n').wf = true) (hb : S b)
    (hc : ∀ j, w.cell? ⟨b, j, none⟩ = (dkC op v k n ++ dkC op' v' k' n').toArray[j]?) : InsRow w S (some ⟨b, 0, none⟩) 2 2 [dk op v k n, dk op' v' k' n'] := by
  refine ⟨rfl, fun i => match i with | 0 => dkC op v k n | _ => dkC op' v' k' n', ⟨Nat.le_refl _, by decide, fun _ => ⟨b, 0, rfl, hb, fun i hi j hj => ?_⟩⟩, fun i hi => ?_⟩
  · rw [hc, Nat.zero_add]
    have hi2 : i < 2 := hi
    match i, hi2 with
    | 0, _ =>
      rw [Nat.zero_mul, Nat.zero_add, List.getElem?_toArray, List.getElem?_append_left (by exact hj)]
      rfl
    | 1, _ =>
      rw [List.getElem?_toArray, List.getElem?_append_right (by show 12 ≤ _; omega)]
      show (dkC op' v' k' n')[1 * 12 + j - 12]? = _
      rw [show 1 * 12 + j - 12 = j by omega]
      rfl
  · have hi2 : i < 2 := hi
    match i, hi2 with
    | 0, _ => exact dk_in w S wk wn
    | 1, _ => exact dk_in w S wk' wn'

def DekPost (w : World) (e : Ending) (w' : World) : Prop := ∃ a, e = .returned (.agg #[.int .i64 2, .int .i64 2, .slice a 2 2]) ∧ ThsIn w' (In_ w') a 2 2 dekL ∧ Below w.heap.size w w'

theorem cells_alloc {w : World} {l : List Value} {T : TypeId} (j : Nat) : (w.alloc (.cells l.toArray T)).cell? ⟨w.heap.size, j, none⟩ = l.toArray[j]? := by simp

theorem cell_old {w : World} {o : Obj} {k j : Nat} (h : k < w.heap.size) : (w.alloc o).cell? ⟨k, j, none⟩ = w.cell? ⟨k, j, none⟩ := World.cell?_of_block (w := w) (a := ⟨k, j, none⟩) (Below.heap_alloc _ _ _ h)

set_option maxRecDepth 100000 in
set_option maxHeartbeats 4000000 in
theorem dekker_any (w : World) : Calls Tryd.prog 7 #[] w (DekPost w) := by
  go_enter Tryd.func7, Tryd.ntmps7
  go_wp2_with fail
  generalize hV : World.alloc w _ = V
  have hz : V.heap.size = w.heap.size + 1 := by subst hV; simp
  have b0 : V.cell? ⟨w.heap.size, 0, none⟩ = some (.int .i64 0) := by subst hV; go_simp
  have b1 : V.cell? ⟨w.heap.size, 1, none⟩ = some (.int .i64 0) := by subst hV; go_simp
  have b2 : V.cell? ⟨w.heap.size, 2, none⟩ = some (.slice none 0 0) := by subst hV; go_simp
  have bf : ∀ o, V.frozen? ⟨w.heap.size, o, none⟩ = false := by subst hV; intro o; go_simp
  have hB := hid ((Below.refl w.heap.size w).alloc (Nat.le_refl _) (.cells #[.int .i64 0, .int .i64 0, .slice none 0 0] 24))
  rw [hV] at hB
  clear hV
  refine (num_any _ _).mono ?_
  rintro e w1 ⟨rfl, hb1⟩
  have hz1 := hb1.size
  have hlt : w.heap.size < V.heap.size := by omega
  have HB1 := hid hb1
  clear hb1
  go_wp2_with fail
  generalize hV1 : World.alloc w1 _ = V1
  have hrow1 : Hid (∀ j, V1.cell? ⟨w1.heap.size, j, none⟩ = (dkC 2 0 1 1 ++ dkC 1 1 0 0).toArray[j]?) := by
    subst hV1
    exact fun j => cells_alloc j
  have hz2 : V1.heap.size = w1.heap.size + 1 := by subst hV1; simp
  have HB1' : Hid (Below V.heap.size V V1) := by subst hV1; exact HB1.out.alloc hz1 _
  clear hV1
  refine (num_any _ _).mono ?_
  rintro e w2 ⟨rfl, hb2⟩
  have hz3 := hb2.size
  have HB2 := hid hb2
  have hBV2 : Below V.heap.size V w2 := HB1'.out.trans (hb2.mono (by omega))
  have d0 : w2.cell? ⟨w.heap.size, 0, none⟩ = some (.int .i64 0) := (hBV2.cell (p := ⟨w.heap.size, 0, none⟩) hlt).trans b0
  have d1 : w2.cell? ⟨w.heap.size, 1, none⟩ = some (.int .i64 0) := (hBV2.cell (p := ⟨w.heap.size, 1, none⟩) hlt).trans b1
  have d2 : w2.cell? ⟨w.heap.size, 2, none⟩ = some (.slice none 0 0) := (hBV2.cell (p := ⟨w.heap.size, 2, none⟩) hlt).trans b2
  have f0 : w2.frozen? ⟨w.heap.size, 0, none⟩ = false := (hBV2.frozen (p := ⟨w.heap.size, 0, none⟩) hlt).trans (bf 0)
  have f1 : w2.frozen? ⟨w.heap.size, 1, none⟩ = false := (hBV2.frozen (p := ⟨w.heap.size, 1, none⟩) hlt).trans (bf 1)
  have f2 : w2.frozen? ⟨w.heap.size, 2, none⟩ = false := (hBV2.frozen (p := ⟨w.heap.size, 2, none⟩) hlt).trans (bf 2)
  have hw2 : w.heap.size < w2.heap.size := by omega
  have HBV2 := hid hBV2
  clear b0 b1 b2 bf hb2 hBV2
  obtain ⟨W3, e3, x0, x1, x2⟩ := three (W := w2) (B := w.heap.size) (a := .int .i64 2) (b := .int .i64 2) (c := .slice (some ⟨w2.heap.size + 1, 0, none⟩) 2 2) d0 d1 d2
  have z3 : W3.heap.size = w2.heap.size := by rw [e3, three_size]
  have k3 : ∀ k o, k ≠ w.heap.size → W3.cell? ⟨k, o, none⟩ = w2.cell? ⟨k, o, none⟩ := fun k o hk => by rw [e3]; exact three_cell k o hk
  have hB3 : Below w.heap.size w W3 := by rw [e3]; exact three_below (hB.out.trans (HBV2.out.mono (by omega))) (Nat.le_refl _)
  have E3 := hid e3
  clear e3
  obtain ⟨W4, e4⟩ : ∃ W4, W4 = W3.alloc (.cells (dkC 2 1 1 1 ++ dkC 1 0 0 0).toArray 47) := ⟨_, rfl⟩
  have z4 : W4.heap.size = w2.heap.size + 1 := by subst e4; simp [z3]
  obtain ⟨W5, e5⟩ : ∃ W5, W5 = W4.alloc (.cells #[.slice (some ⟨w1.heap.size, 0, none⟩) 2 2, .slice (some ⟨w2.heap.size, 0, none⟩) 2 2] 42) := ⟨_, rfl⟩
  have z5 : W5.heap.size = w2.heap.size + 1 + 1 := by subst e5; simp [z4]
  have old : ∀ k o, k < w2.heap.size → W5.cell? ⟨k, o, none⟩ = W3.cell? ⟨k, o, none⟩ := fun k o hk => by
    have h4 : k < W4.heap.size := by omega
    have h3 : k < W3.heap.size := by omega
    rw [e5, cell_old h4, e4, cell_old h3]
  have y0 : W5.cell? ⟨w.heap.size, 0, none⟩ = some (.int .i64 2) := (old _ _ hw2).trans x0
  have y1 : W5.cell? ⟨w.heap.size, 1, none⟩ = some (.int .i64 2) := (old _ _ hw2).trans x1
  have y2 : W5.cell? ⟨w.heap.size, 2, none⟩ = some (.slice (some ⟨w2.heap.size + 1, 0, none⟩) 2 2) := (old _ _ hw2).trans x2
  have ra : ∀ j, W5.cell? ⟨w1.heap.size, j, none⟩ = (dkC 2 0 1 1 ++ dkC 1 1 0 0).toArray[j]? := fun j => by
    rw [old _ _ (by omega), k3 _ _ (by omega), HB2.out.cell (p := ⟨w1.heap.size, j, none⟩) (by show w1.heap.size < _; omega)]
    exact hrow1.out j
  have rb : ∀ j, W5.cell? ⟨w2.heap.size, j, none⟩ = (dkC 2 1 1 1 ++ dkC 1 0 0 0).toArray[j]? := fun j => by
    have h4 : w2.heap.size < W4.heap.size := by omega
    rw [e5, cell_old h4, e4, ← z3]
    exact cells_alloc j
  have ro : ∀ j, W5.cell? ⟨w2.heap.size + 1, j, none⟩ = (#[.slice (some ⟨w1.heap.size, 0, none⟩) 2 2, .slice (some ⟨w2.heap.size, 0, none⟩) 2 2] : Array Value)[j]? := fun j => by
    subst e5
    rw [← z4]
    exact cells_alloc (l := [.slice (some ⟨w1.heap.size, 0, none⟩) 2 2, .slice (some ⟨w2.heap.size, 0, none⟩) 2 2]) j
  have hfin : Hid (DekPost w (.returned (.agg #[.int .i64 2, .int .i64 2, .slice (some ⟨w2.heap.size + 1, 0, none⟩) 2 2])) W5) := by
    refine ⟨_, rfl, ⟨rfl, fun i => match i with | 0 => some ⟨w1.heap.size, 0, none⟩ | _ => some ⟨w2.heap.size, 0, none⟩, fun _ => 2, ⟨Nat.le_refl _, by decide, fun _ => ⟨w2.heap.size + 1, 0, rfl, by show _ < _; omega, fun i hi j hj => ?_⟩⟩, fun i hi => ?_⟩, ?_⟩
    · have hi2 : i < 2 := hi
      obtain rfl : j = 0 := by omega
      rw [ro]
      match i, hi2 with
      | 0, _ => rfl
      | 1, _ => rfl
    · have hi2 : i < 2 := hi
      match i, hi2 with
      | 0, _ => exact dk_row (by decide) (by decide) (by decide) (by decide) (by show _ < _; omega) ra
      | 1, _ => exact dk_row (by decide) (by decide) (by decide) (by decide) (by show _ < _; omega) rb
    · subst e5
      refine (Below.alloc ?_ (by omega) _)
      subst e4
      exact hB3.alloc (by omega) _
  have E4 := hid e4
  have E5 := hid e5
  clear e4 e5 ra rb ro old k3 x0 x1 x2 hrow1
  go_wp2_with fail
  have hw : World.alloc (World.alloc W3 (.cells (dkC 2 1 1 1 ++ dkC 1 0 0 0).toArray 47)) (.cells #[.slice (some ⟨w1.heap.size, 0, none⟩) 2 2, .slice (some ⟨w2.heap.size, 0, none⟩) 2 2] 42) = W5 := by rw [E5.out, E4.out]
  rw [← E3.out]
  change bodyPost _ _ _ _ _ (World.alloc (World.alloc W3 (.cells (dkC 2 1 1 1 ++ dkC 1 0 0 0).toArray 47)) (.cells #[.slice (some ⟨w1.heap.size, 0, none⟩) 2 2, .slice (some ⟨w2.heap.size, 0, none⟩) 2 2] 42))
  rw [hw]
  refine bodyPost_ret ?_ rfl hfin.out
  simp [results, Tryd.results7, go_sem, y0, y1, y2]
end Go.Proofs.YtekmcoflagajkaaDoor
