/- Dekker's code. -/
import Derived.Test.YtekmcoflagajkaaGreatDoorUnpR
import Derived.Test.YtekmcoflagajkaaGreatDoorBunS
import Derived.Test.YtekmcoflagajkaaGreatDoorRows
import Derived.Test.YtekmcoflagajkaaGreatDoorCodD
import Derived.Test.YtekmcoflagajkaaGreatDoorBunV
import Derived.Test.YtekmcoflagajkaaGreatDoorBunU
import Derived.Test.YtekmcoflagajkaaGreatDoorBunM
import Derived.Test.YtekmcoflagajkaaGreatDoorArrEq
import Derived.BigQuiet
import Derived.Deep.QuietTactic
import Derived.Deep.RegionHeld3
namespace Go.Proofs.YtekmcoflagajkaaGreatDoor
open Go.RowKit

set_option maxHeartbeats 1000000 in
theorem num7_any (n : Int) (w : World) :
    Calls Tryz.prog 43 #[.int .i64 n] w fun e w' => e = .returned (.agg #[.int .i64 1, .int .i64 n, .int .u8 0, .slice none 0 0]) ∧ Below w.heap.size w w' := by
  go_enter Tryz.func43, Tryz.ntmps43
  go_wp2
  exact bodyPost_ret (v := .agg #[.int .i64 1, .int .i64 n, .int .u8 0, .slice none 0 0]) (by simp [results, Tryz.results43, go_sem]) rfl ⟨rfl, (Below.refl _ _).alloc (Nat.le_refl _) _⟩

/-- An instruction without parts, and its cells. -/
def dk (op v k n : Int) : Ins := ⟨op, 0, v, .mk k n 0 [], .mk 0 0 0 [], 0⟩
def dkC (op v k n : Int) : List Value := [.int .i64 op, .int .i64 0, .int .i64 v, .int .i64 k, .int .i64 n, .int .u8 0, .slice none 0 0, .int .i64 0, .int .i64 0, .int .u8 0, .slice none 0 0, .int .i64 0]
def dekL : List (List Ins) := [[dk 2 0 1 1, dk 1 1 0 0], [dk 2 1 1 1, dk 1 0 0 0]]
theorem dk_in (w : World) (S : Nat → Prop) {op v k n : Int} (wk : (Lit.int .i64 k).wf = true) (wn : (Lit.int .i64 n).wf = true) : InsIn w S (dkC op v k n) (dk op v k n) :=
  ⟨_, _, _, _, _, _, _, _, rfl, ExIn.leaf w S k n 0 wk wn (by decide), ExIn.leaf w S 0 0 0 (by decide) (by decide) (by decide)⟩
theorem dk_row {w : World} {S : Nat → Prop} {b : Nat} {op v k n op' v' k' n' : Int} (wk : (Lit.int .i64 k).wf = true) (wn : (Lit.int .i64 n).wf = true) (wk' : (Lit.int .i64 k').wf = true) (wn' : (Lit.int .i64 n').wf = true) (hb : S b)
    (hc : ∀ j, w.cell? ⟨b, j, none⟩ = (dkC op v k n ++ dkC op' v' k' n').toArray[j]?) : InsRow w S (some ⟨b, 0, none⟩) 2 2 [dk op v k n, dk op' v' k' n'] := by
  refine ⟨rfl, fun i => match i with | 0 => dkC op v k n | _ => dkC op' v' k' n', ⟨Nat.le_refl _, by decide, fun _ => ⟨b, 0, rfl, hb, fun i hi j hj => ?_⟩⟩, fun i hi => ?_⟩
  · rw [hc, Nat.zero_add]
    have hi2 : i < 2 := hi
    match i, hi2 with
    | 0, _ =>
      rw [Nat.zero_mul, Nat.zero_add, List.getElem?_toArray, List.getElem?_append_left (by exact hj)]
      rfl
    | 1, _ =>
      rw [List.getElem?_toArray, List.getElem?_append_right (by show 12 ≤ _; omega)]
      show (dkC op' v' k' n')[1 * 12 + j - 12]? = _
      rw [show 1 * 12 + j - 12 = j by omega]
      rfl
  · have hi2 : i < 2 := hi
    match i, hi2 with
    | 0, _ => exact dk_in w S wk wn
    | 1, _ => exact dk_in w S wk' wn'

def DekPost (w : World) (e : Ending) (w' : World) : Prop := ∃ a, e = .returned (.agg #[.int .i64 2, .int .i64 2, .slice a 2 2]) ∧ ThsIn w' (In_ w') a 2 2 dekL ∧ Below w.heap.size w w'

theorem cells_alloc {w : World} {l : List Value} {T : TypeId} (j : Nat) : (w.alloc (.cells l.toArray T)).cell? ⟨w.heap.size, j, none⟩ = l.toArray[j]? := by simp

theorem cell_old {w : World} {o : Obj} {k j : Nat} (h : k < w.heap.size) : (w.alloc o).cell? ⟨k, j, none⟩ = w.cell? ⟨k, j, none⟩ := World.cell?_of_block (w := w) (a := ⟨k, j, none⟩) (Below.heap_alloc _ _ _ h)

set_option maxRecDepth 100000 in
set_option maxHeartbeats 4000000 in
theorem dekker_any (w : World) : Calls Tryz.prog 23 #[] w (DekPost w) := by
  go_enter Tryz.func23, Tryz.ntmps23
  go_wp2_with fail
  generalize hV : World.alloc w _ = V
  have hz : V.heap.size = w.heap.size + 1 := by subst hV; simp
  have b0 : V.cell? ⟨w.heap.size, 0, none⟩ = some (.int .i64 0) := by subst hV; go_simp
  have b1 : V.cell? ⟨w.heap.size, 1, none⟩ = some (.int .i64 0) := by subst hV; go_simp
  have b2 : V.cell? ⟨w.heap.size, 2, none⟩ = some (.slice none 0 0) := by subst hV; go_simp
  have bf : ∀ o, V.frozen? ⟨w.heap.size, o, none⟩ = false := by subst hV; intro o; go_simp
  have hB := hid ((Below.refl w.heap.size w).alloc (Nat.le_refl _) (.cells #[.int .i64 0, .int .i64 0, .slice none 0 0] 25))
  rw [hV] at hB
  clear hV
  refine (num7_any _ _).mono ?_
  rintro e w1 ⟨rfl, hb1⟩
  have hz1 := hb1.size
  have hlt : w.heap.size < V.heap.size := by omega
  have HB1 := hid hb1
  clear hb1
  go_wp2_with fail
  generalize hV1 : World.alloc w1 _ = V1
  have hrow1 : Hid (∀ j, V1.cell? ⟨w1.heap.size, j, none⟩ = (dkC 2 0 1 1 ++ dkC 1 1 0 0).toArray[j]?) := by
    subst hV1
    exact fun j => cells_alloc j
  have hz2 : V1.heap.size = w1.heap.size + 1 := by subst hV1; simp
  have HB1' : Hid (Below V.heap.size V V1) := by subst hV1; exact HB1.out.alloc hz1 _
  clear hV1
  refine (num7_any _ _).mono ?_
  rintro e w2 ⟨rfl, hb2⟩
  have hz3 := hb2.size
  have HB2 := hid hb2
  have hBV2 : Below V.heap.size V w2 := HB1'.out.trans (hb2.mono (by omega))
  have d0 : w2.cell? ⟨w.heap.size, 0, none⟩ = some (.int .i64 0) := (hBV2.cell (p := ⟨w.heap.size, 0, none⟩) hlt).trans b0
  have d1 : w2.cell? ⟨w.heap.size, 1, none⟩ = some (.int .i64 0) := (hBV2.cell (p := ⟨w.heap.size, 1, none⟩) hlt).trans b1
  have d2 : w2.cell? ⟨w.heap.size, 2, none⟩ = some (.slice none 0 0) := (hBV2.cell (p := ⟨w.heap.size, 2, none⟩) hlt).trans b2
  have f0 : w2.frozen? ⟨w.heap.size, 0, none⟩ = false := (hBV2.frozen (p := ⟨w.heap.size, 0, none⟩) hlt).trans (bf 0)
  have f1 : w2.frozen? ⟨w.heap.size, 1, none⟩ = false := (hBV2.frozen (p := ⟨w.heap.size, 1, none⟩) hlt).trans (bf 1)
  have f2 : w2.frozen? ⟨w.heap.size, 2, none⟩ = false := (hBV2.frozen (p := ⟨w.heap.size, 2, none⟩) hlt).trans (bf 2)
  have hw2 : w.heap.size < w2.heap.size := by omega
  have HBV2 := hid hBV2
  clear b0 b1 b2 bf hb2 hBV2
  obtain ⟨W3, e3, x0, x1, x2⟩ := three (W := w2) (B := w.heap.size) (a := .int .i64 2) (b := .int .i64 2) (c := .slice (some ⟨w2.heap.size + 1, 0, none⟩) 2 2) d0 d1 d2
  have z3 : W3.heap.size = w2.heap.size := by rw [e3, three_size]
  have k3 : ∀ k o, k ≠ w.heap.size → W3.cell? ⟨k, o, none⟩ = w2.cell? ⟨k, o, none⟩ := fun k o hk => by rw [e3]; exact three_cell k o hk
  have hB3 : Below w.heap.size w W3 := by rw [e3]; exact three_below (hB.out.trans (HBV2.out.mono (by omega))) (Nat.le_refl _)
  have E3 := hid e3
  clear e3
  obtain ⟨W4, e4⟩ : ∃ W4, W4 = W3.alloc (.cells (dkC 2 1 1 1 ++ dkC 1 0 0 0).toArray 103) := ⟨_, rfl⟩
  have z4 : W4.heap.size = w2.heap.size + 1 := by subst e4; simp [z3]
  obtain ⟨W5, e5⟩ : ∃ W5, W5 = W4.alloc (.cells #[.slice (some ⟨w1.heap.size, 0, none⟩) 2 2, .slice (some ⟨w2.heap.size, 0, none⟩) 2 2] 79) := ⟨_, rfl⟩
  have z5 : W5.heap.size = w2.heap.size + 1 + 1 := by subst e5; simp [z4]
  have old : ∀ k o, k < w2.heap.size → W5.cell? ⟨k, o, none⟩ = W3.cell? ⟨k, o, none⟩ := fun k o hk => by
    have h4 : k < W4.heap.size := by omega
    have h3 : k < W3.heap.size := by omega
    rw [e5, cell_old h4, e4, cell_old h3]
  have y0 : W5.cell? ⟨w.heap.size, 0, none⟩ = some (.int .i64 2) := (old _ _ hw2).trans x0
  have y1 : W5.cell? ⟨w.heap.size, 1, none⟩ = some (.int .i64 2) := (old _ _ hw2).trans x1
  have y2 : W5.cell? ⟨w.heap.size, 2, none⟩ = some (.slice (some ⟨w2.heap.size + 1, 0, none⟩) 2 2) := (old _ _ hw2).trans x2
  have ra : ∀ j, W5.cell? ⟨w1.heap.size, j, none⟩ = (dkC 2 0 1 1 ++ dkC 1 1 0 0).toArray[j]? := fun j => by
    rw [old _ _ (by omega), k3 _ _ (by omega), HB2.out.cell (p := ⟨w1.heap.size, j, none⟩) (by show w1.heap.size < _; omega)]
    exact hrow1.out j
  have rb : ∀ j, W5.cell? ⟨w2.heap.size, j, none⟩ = (dkC 2 1 1 1 ++ dkC 1 0 0 0).toArray[j]? := fun j => by
    have h4 : w2.heap.size < W4.heap.size := by omega
    rw [e5, cell_old h4, e4, ← z3]
    exact cells_alloc j
  have ro : ∀ j, W5.cell? ⟨w2.heap.size + 1, j, none⟩ = (#[.slice (some ⟨w1.heap.size, 0, none⟩) 2 2, .slice (some ⟨w2.heap.size, 0, none⟩) 2 2] : Array Value)[j]? := fun j => by
    subst e5
    rw [← z4]
    exact cells_alloc (l := [.slice (some ⟨w1.heap.size, 0, none⟩) 2 2, .slice (some ⟨w2.heap.size, 0, none⟩) 2 2]) j
  have hfin : Hid (DekPost w (.returned (.agg #[.int .i64 2, .int .i64 2, .slice (some ⟨w2.heap.size + 1, 0, none⟩) 2 2])) W5) := by
    refine ⟨_, rfl, ⟨rfl, fun i => match i with | 0 => some ⟨w1.heap.size, 0, none⟩ | _ => some ⟨w2.heap.size, 0, none⟩, fun _ => 2, ⟨Nat.le_refl _, by decide, fun _ => ⟨w2.heap.size + 1, 0, rfl, by show _ < _; omega, fun i hi j hj => ?_⟩⟩, fun i hi => ?_⟩, ?_⟩
    · have hi2 : i < 2 := hi
      obtain rfl : j = 0 := by omega
      rw [ro]
      match i, hi2 with
      | 0, _ => rfl
      | 1, _ => rfl
    · have hi2 : i < 2 := hi
      match i, hi2 with
      | 0, _ => exact dk_row (by decide) (by decide) (by decide) (by decide) (by show _ < _; omega) ra
      | 1, _ => exact dk_row (by decide) (by decide) (by decide) (by decide) (by show _ < _; omega) rb
    · subst e5
      refine (Below.alloc ?_ (by omega) _)
      subst e4
      exact hB3.alloc (by omega) _
  have E4 := hid e4
  have E5 := hid e5
  clear e4 e5 ra rb ro old k3 x0 x1 x2 hrow1
  go_wp2_with fail
  have hw : World.alloc (World.alloc W3 (.cells (dkC 2 1 1 1 ++ dkC 1 0 0 0).toArray 103)) (.cells #[.slice (some ⟨w1.heap.size, 0, none⟩) 2 2, .slice (some ⟨w2.heap.size, 0, none⟩) 2 2] 79) = W5 := by rw [E5.out, E4.out]
  rw [← E3.out]
  change bodyPost _ _ _ _ _ (World.alloc (World.alloc W3 (.cells (dkC 2 1 1 1 ++ dkC 1 0 0 0).toArray 103)) (.cells #[.slice (some ⟨w1.heap.size, 0, none⟩) 2 2, .slice (some ⟨w2.heap.size, 0, none⟩) 2 2] 79))
  rw [hw]
  refine bodyPost_ret ?_ rfl hfin.out
  simp [results, Tryz.results23, go_sem, y0, y1, y2]
end Go.Proofs.YtekmcoflagajkaaGreatDoor
namespace Go.Proofs.YtekmcoflagajkaaGreatDoor
open Go.RowKit

def StartPost (w : World) (th : List Thr) (mem : List Int) (e : Ending) (w' : World) : Prop :=
  ∃ ah caph am capm, e = .returned (.agg #[.slice ah th.length caph, .slice am mem.length capm, .bool false]) ∧ ThrIn w' (fun b => w.heap.size ≤ b ∧ b < w'.heap.size) ah th.length caph th ∧ IntIn w' (fun b => w.heap.size ≤ b ∧ b < w'.heap.size) am mem.length capm mem ∧ Below w.heap.size w w'
def startT (r : Bool) (n : Nat) : List Thr := if r then List.replicate n .zero else []
def startM (r : Bool) (vars : Int) : List Int := if r then List.replicate vars.toNat 0 else []

set_option maxRecDepth 100000 in
set_option maxHeartbeats 8000000 in
theorem start_any (vars dom : Int) (ac : Option Addr) (nc capc : Nat) (t : List (List Ins)) (w : World) (hc : ThsIn w (In_ w) ac nc capc t) :
    Calls Tryz.prog 18 #[.agg #[.int .i64 vars, .int .i64 dom, .slice ac nc capc]] w (StartPost w (startT (rightL vars dom t) t.length) (startM (rightL vars dom t) vars)) := by
  have hn1 := hc.1
  subst hn1
  have hmx := hc.le
  have hmx2 := hc.mx
  unfold maxLen at hmx2
  obtain ⟨W0, hW⟩ : ∃ W0, W0 = ((w.alloc (.cells #[.int .i64 vars, .int .i64 dom, .slice ac t.length capc] 25)).alloc (.cells #[.slice none 0 0, .slice none 0 0, .bool false] 34)).alloc (.cells #[.slice none 0 0, .slice none 0 0, .bool false] 34) := ⟨_, rfl⟩
  have hB : Below w.heap.size w W0 := by subst hW; exact (((Below.refl _ _).alloc (Nat.le_refl _) _).alloc (by simp) _).alloc (by simp; omega) _
  have z2 : w.heap.size + 1 + 1 < W0.heap.size := by subst hW; simp
  have z1 : w.heap.size + 1 < W0.heap.size := by omega
  have z0 : w.heap.size < W0.heap.size := by omega
  have c0 : W0.cell? ⟨w.heap.size, 0, none⟩ = some (.int .i64 vars) := by subst hW; go_simp
  have c2 : W0.cell? ⟨w.heap.size, 2, none⟩ = some (.slice ac t.length capc) := by subst hW; go_simp
  have r0 : W0.cell? ⟨w.heap.size + 1, 0, none⟩ = some (.slice none 0 0) := by subst hW; go_simp
  have r1 : W0.cell? ⟨w.heap.size + 1, 1, none⟩ = some (.slice none 0 0) := by subst hW; go_simp
  have r2 : W0.cell? ⟨w.heap.size + 1, 2, none⟩ = some (.bool false) := by subst hW; go_simp
  have rf : ∀ o, W0.frozen? ⟨w.heap.size + 1, o, none⟩ = false := by subst hW; intro o; go_simp
  have hX0 : SBox W0 (w.heap.size + 1 + 1) (.slice none 0 0) (.slice none 0 0) false := by
    subst hW
    refine ⟨by simp, ?_, ?_, ?_, fun o => ?_⟩ <;> go_simp
  have s0 := hX0.c0
  have s1 := hX0.c1
  have s2 := hX0.c2
  have hright := hid (refRight_any vars dom ac t.length capc t W0 ((Kp.of hB).ths hc))
  have hvs : Hid (rightL vars dom t = true → 1 ≤ vars ∧ vars ≤ 4 ∧ 1 ≤ t.length ∧ t.length ≤ 4) := fun h => by
    unfold rightL at h
    simp only [Bool.and_eq_true, decide_eq_true_eq] at h
    omega
  generalize rightL vars dom t = y at *
  have HB := hid hB
  have hWx := hid hW
  clear hW hB hc
  go_enter Tryz.func18, Tryz.ntmps18
  go_wp2_with fail
  rw [← hWx.out]
  refine hright.out.mono ?_
  rintro e w1 ⟨rfl, hb1⟩
  have hK1 : Kp W0 w1 := Kp.of hb1
  have HK1 := hid hK1
  have hX1 := hid (SBox.block hX0 hb1.size (hb1.block _ hX0.lt))
  have hf1 : ∀ o, w1.frozen? ⟨w.heap.size + 1, o, none⟩ = false := fun o => (hb1.frozen (p := ⟨w.heap.size + 1, o, none⟩) z1).trans (rf o)
  have g1 := hK1.1.size
  clear hright hWx hb1 hX0 rf
  cases y
  · obtain ⟨W3, e3, x0, x1, x2⟩ := three (W := w1) (B := w.heap.size + 1) (a := .slice none 0 0) (b := .slice none 0 0) (c := .bool false) ((hK1.2 _ _ z1).trans r0) ((hK1.2 _ _ z1).trans r1) ((hK1.2 _ _ z1).trans r2)
    have hfin := hid (three_below (a := .slice none 0 0) (b := .slice none 0 0) (c := .bool false) (Kp.fin HB.out HK1.out) (show w.heap.size ≤ w.heap.size + 1 by omega))
    rw [← e3] at hfin
    have E3 := hid e3
    clear e3
    go_wp2_with fail
    rw [← E3.out]
    refine bodyPost_ret (v := .agg #[.slice none 0 0, .slice none 0 0, .bool false]) ?_ rfl ⟨none, 0, none, 0, rfl, ThrIn.nil_, IntIn.nil_, hfin.out⟩
    simp [results, Tryz.results18, go_sem, x0, x1, x2]
  obtain ⟨v1, v4, t1, t4⟩ := hvs.out rfl
  obtain ⟨vn, hvn⟩ : ∃ vn : Nat, vars = vn := ⟨vars.toNat, by omega⟩
  subst hvn
  have z12 : w.heap.size + 1 + 1 < w1.heap.size := by omega
  have z11 : w.heap.size < w1.heap.size := by omega
  have HX := hX1
  have hth0 : Hid (ThO w1 w1.heap.size (.slice none 0 0) (List.replicate 0 Thr.zero)) := ThO.nil
  have n0 : w1.cell? ⟨w.heap.size, 0, none⟩ = some (.int .i64 vn) := (hK1.2 _ _ z0).trans c0
  have n2 : w1.cell? ⟨w.heap.size, 2, none⟩ = some (.slice ac t.length capc) := (hK1.2 _ _ z0).trans c2
  have hbel : Hid (Below w.heap.size w w1) := Kp.fin HB.out HK1.out
  have q0 := (hK1.2 _ 0 z1).trans r0
  have q1 := (hK1.2 _ 1 z1).trans r1
  have q2 := (hK1.2 _ 2 z1).trans r2
  clear hK1 HK1 s0 s1 s2 r0 r1 r2 c0 c2 z0 z1 z2 g1
  go_wp2_with fail
  go_loopw [4] (fun i wr => ∃ (k : Nat) (v : Value), k ≤ t.length ∧ i = .int .i64 k ∧ Hid (w1.grownBy wr (some (w.heap.size + 1 + 1))) ∧ Hid (SBox wr (w.heap.size + 1 + 1) v (.slice none 0 0) false) ∧ Hid (ThO wr w1.heap.size v (List.replicate k Thr.zero))) (fun i _ => t.length - (intOf i).toNat)
  case atStart => exact ⟨0, _, Nat.zero_le _, rfl, ⟨rfl, rfl, rfl, Nat.le_refl _, fun _ _ _ => rfl⟩, HX.out, hth0.out⟩
  case round =>
    obtain ⟨k, v, hk, rfl, hG, hS, hO⟩ := hrel
    have ncode : wr.cell? ⟨w.heap.size, 2, none⟩ = some (.slice ac t.length capc) := (World.cell?_of_block (w := w1) (a := ⟨w.heap.size, 2, none⟩) (hG.out.block _ z11 (by simp; omega))).trans n2
    have ncode0 : wr.cell? ⟨w.heap.size, 0, none⟩ = some (.int .i64 vn) := (World.cell?_of_block (w := w1) (a := ⟨w.heap.size, 0, none⟩) (hG.out.block _ z11 (by simp; omega))).trans n0
    have gz := hG.out.size
    by_cases hlt : k < t.length
    · obtain ⟨LL, hLL, hown, hen⟩ := hO.out
      obtain ⟨av, cv, rfl⟩ := own_at3 hown
      have hLLn : LL.length = k := by have h := congrArg List.length hLL; rw [List.length_map, List.length_replicate] at h; exact h.symm
      have HLL := hid hLL
      have Hown := hid hown
      have Hen := hid hen
      have hLn := hid hLLn
      have hLb : LL.length ≤ 4 := by omega
      obtain ⟨p9, p0, p1, p2, pf⟩ := hS.out
      have pf0 := pf 0
      have k0 : (0 : Int) ≤ k := by omega
      clear hLL hown hen pf hO hLLn
      go_wp2_with (first
        | (at_builtin
           refine list_th (base := w1.heap.size) (.tmp 18) (.tmp 20) (.slice av LL.length cv) LL.length (LL.flatMap thC) 1 (thC (Thr.zero, none, 0)) ?_ ?_ ?_ ?_ ?_ ?_ ?_ ?_ ?_
           (focus rfl); (focus rfl); (focus rfl); (focus exact Hown.out.alloc _); (focus exact ⟨_, _, rfl, src_at rfl rfl⟩); (focus exact thC_one [(Thr.zero, none, 0)]); (focus omega); (focus (simp; omega))
           intro v8 w8 hown8 hg8 hat8
           have hgp := hid (grown_pre' hg8)
           have hap := hid (at_pre hat8)
           have hr8 : Hid ((Value.slice av LL.length cv).ownBlock ≠ some (w.heap.size + 1 + 1)) := fun e => by have := (Hown.out.lt _ e).1; omega
           have HS8 := hid (hS.out.grown hgp.out hr8.out)
           have hG8 : Hid (w1.grownBy w8 (some (w.heap.size + 1 + 1))) := grown_new hG.out hgp.out (fun n hn => (Hown.out.lt n hn).1)
           have HO8 : Hid (ThO w8 w1.heap.size v8 (LL.map (·.1) ++ [Thr.zero])) := ThO.app (ar := none) (kr := 0) hown8 hgp.out hap.out Hen.out EnIn.nil_
           obtain ⟨x9, x0, x1, x2, xf⟩ := HS8.out
           have xf0 := xf 0
           obtain ⟨a9, c9, rfl⟩ := own_at3 hown8
           clear hown8 hg8 hat8 hgp hap hr8 xf)
        | fail)
      have hGn : Hid (w1.grownBy (w8.setCell ⟨w.heap.size + 1 + 1, 0, none⟩ (.slice a9 (LL.length + 1) c9)) (some (w.heap.size + 1 + 1))) := grown_trans hG8.out (grown_set _ _ _ _)
      have hSn : Hid (SBox (w8.setCell ⟨w.heap.size + 1 + 1, 0, none⟩ (.slice a9 (LL.length + 1) c9)) (w.heap.size + 1 + 1) (.slice a9 (LL.length + 1) c9) (.slice none 0 0) false) := by
        have hpf := HS8.out.f0
        refine ⟨by simpa [World.setCell] using x9, ?_, ?_, ?_, fun o => frozen_set (hpf o)⟩ <;> go_simp
      have hOn : Hid (ThO (w8.setCell ⟨w.heap.size + 1 + 1, 0, none⟩ (.slice a9 (LL.length + 1) c9)) w1.heap.size (.slice a9 (LL.length + 1) c9) (List.replicate (k + 1) Thr.zero)) := by
        have h := ThO.grown HO8.out (grown_set w8 (w.heap.size + 1 + 1) 0 (.slice a9 (LL.length + 1) c9)) (fun n hn => by simp at hn; omega)
        rw [← HLL.out, ← List.replicate_succ'] at h
        exact h
      clear HS8 HO8 hG8 x9 x0 x1 x2 xf0 p9 p0 p1 p2 pf0
      go_roundw
      case rel => exact ⟨k + 1, _, by omega, by simp, hGn, hSn, hOn⟩
      case measure => simp [intOf]; omega
    · obtain rfl : k = t.length := by omega
      obtain ⟨W5, rfl⟩ : ∃ W5 : World, W5 = wr := ⟨_, rfl⟩
      go_wp2_with fail
      go_loopw [5] (fun i wr => ∃ (k : Nat) (mv : Value), k ≤ vn ∧ i = .int .i64 k ∧ Hid (W5.grownBy wr (some (w.heap.size + 1 + 1))) ∧ Hid (SBox wr (w.heap.size + 1 + 1) v mv false) ∧ Hid (NumIs wr W5.heap.size mv (List.replicate k 0))) (fun i _ => vn - (intOf i).toNat)
      case atStart => exact ⟨0, _, Nat.zero_le _, rfl, ⟨rfl, rfl, rfl, Nat.le_refl _, fun _ _ _ => rfl⟩, hS.out, NumIs.nil⟩
      case round =>
        clear ncode ncode0
        obtain ⟨k, mv, hk, rfl, hG6, hS6, hN6⟩ := hrel
        have z15 : w.heap.size < W5.heap.size := by omega
        have ncode0 : wr.cell? ⟨w.heap.size, 0, none⟩ = some (.int .i64 vn) := (World.cell?_of_block (w := W5) (a := ⟨w.heap.size, 0, none⟩) (hG6.out.block _ z15 (by simp; omega))).trans ((World.cell?_of_block (w := w1) (a := ⟨w.heap.size, 0, none⟩) (hG.out.block _ z11 (by simp; omega))).trans n0)
        have gz6 := hG6.out.size
        by_cases hlt : k < vn
        · obtain ⟨⟨a1, n1, c1', rfl⟩, hown⟩ := hN6.out
          have hown := hid hown
          obtain ⟨p9, p0, p1, p2, pf⟩ := hS6.out
          have pf1 := pf 1
          have hle : Hid ((List.replicate k (0 : Int)).length ≤ 4) := by show _ ≤ _; rw [List.length_replicate]; omega
          have hsucc : Hid (List.replicate (k + 1) (0 : Int) = List.replicate k 0 ++ [0]) := List.replicate_succ'
          have k0 : (0 : Int) ≤ k := by omega
          have k1 : (k : Int) < vn := by omega
          generalize List.replicate k (0 : Int) = C at *
          clear pf hN6
          go_wp2_with (first
            | (at_builtin
               refine list_i6 (base := W5.heap.size) (.tmp 30) (.tmp 31) (.slice a1 n1 c1') C.length (C.map (Value.int .i64)) 1 [.int .i64 0] ?_ ?_ ?_ ?_ ?_ ?_ ?_ ?_ ?_
               (focus rfl); (focus rfl); (focus rfl); (focus exact hown.out.alloc _); (focus exact ⟨_, _, rfl, src_at rfl rfl⟩); (focus exact one_i6); (focus (have := hle.out; omega)); (focus (simp; omega))
               intro v8 w8 hown8 hg8 hat8
               have hgp := hid (grown_pre' hg8)
               have hr8 : Hid ((Value.slice a1 n1 c1').ownBlock ≠ some (w.heap.size + 1 + 1)) := fun e => by have := (hown.out.lt _ e).1; omega
               have HS8 := hid (hS6.out.grown hgp.out hr8.out)
               have hG8 : Hid (W5.grownBy w8 (some (w.heap.size + 1 + 1))) := grown_new hG6.out hgp.out (fun n hn => (hown.out.lt n hn).1)
               have HO8 := hid (NumIs.app (L := C) (news := [0]) hown8)
               obtain ⟨x9, x0, x1, x2, xf⟩ := HS8.out
               have xf1 := xf 1
               clear hown8 hg8 hat8 hgp hr8 xf
               obtain ⟨⟨a6, n6, c6, rfl⟩, _⟩ := HO8.out)
            | fail)
          have hGn : Hid (W5.grownBy (w8.setCell ⟨w.heap.size + 1 + 1, 1, none⟩ (.slice a6 n6 c6)) (some (w.heap.size + 1 + 1))) := grown_trans hG8.out (grown_set _ _ _ _)
          have hSn : Hid (SBox (w8.setCell ⟨w.heap.size + 1 + 1, 1, none⟩ (.slice a6 n6 c6)) (w.heap.size + 1 + 1) v (.slice a6 n6 c6) false) := by
            have hpf := HS8.out.f0
            refine ⟨by simpa [World.setCell] using x9, ?_, ?_, ?_, fun o => frozen_set (hpf o)⟩ <;> go_simp
          have hNn : Hid (NumIs (w8.setCell ⟨w.heap.size + 1 + 1, 1, none⟩ (.slice a6 n6 c6)) W5.heap.size (.slice a6 n6 c6) (List.replicate (k + 1) 0)) := by
            show NumIs _ _ _ _
            rw [hsucc.out]
            exact ⟨HO8.out.1, ownsRow_setCell_below HO8.out.2 (a := ⟨w.heap.size + 1 + 1, 1, none⟩) (by show w.heap.size + 1 + 1 < _; omega) _⟩
          clear HS8 HO8 hG8 x9 x0 x1 x2 xf1 p9 p0 p1 p2 pf1
          go_roundw
          case rel => exact ⟨k + 1, _, by omega, by simp, hGn, hSn, hNn⟩
          case measure => simp [intOf]; omega
        · obtain rfl : k = vn := by omega
          obtain ⟨p9, p0, p1, p2, pf⟩ := hS6.out
          have hO6 := ThO.in_ hO.out
          obtain ⟨ah, caph, rfl, hthr⟩ := hO6
          obtain ⟨am, capm, hmv, hmi⟩ := IntIn.of_own hN6.out.2
          subst hmv
          have HTH := hid hthr
          have HMI := hid hmi
          have hqb := hG6.out.block (w.heap.size + 1) (by omega) (by simp)
          have hqb2 := hG.out.block (w.heap.size + 1) (by omega) (by simp)
          have q3 : wr.cell? ⟨w.heap.size + 1, 0, none⟩ = some (.slice none 0 0) := (World.cell?_of_block (w := W5) (a := ⟨w.heap.size + 1, 0, none⟩) hqb).trans ((World.cell?_of_block (w := w1) (a := ⟨w.heap.size + 1, 0, none⟩) hqb2).trans q0)
          have q4 : wr.cell? ⟨w.heap.size + 1, 1, none⟩ = some (.slice none 0 0) := (World.cell?_of_block (w := W5) (a := ⟨w.heap.size + 1, 1, none⟩) hqb).trans ((World.cell?_of_block (w := w1) (a := ⟨w.heap.size + 1, 1, none⟩) hqb2).trans q1)
          have q5 : wr.cell? ⟨w.heap.size + 1, 2, none⟩ = some (.bool false) := (World.cell?_of_block (w := W5) (a := ⟨w.heap.size + 1, 2, none⟩) hqb).trans ((World.cell?_of_block (w := w1) (a := ⟨w.heap.size + 1, 2, none⟩) hqb2).trans q2)
          have q6 : ∀ o, wr.frozen? ⟨w.heap.size + 1, o, none⟩ = false := fun o => (World.frozen?_of_block (w := W5) (a := ⟨w.heap.size + 1, o, none⟩) hqb).trans ((World.frozen?_of_block (w := w1) (a := ⟨w.heap.size + 1, o, none⟩) hqb2).trans (hf1 o))
          obtain ⟨W3, e3, x0, x1, x2⟩ := three (W := wr) (B := w.heap.size + 1) (a := .slice ah t.length caph) (b := .slice am k capm) (c := .bool false) q3 q4 q5
          have hz3 : W3.heap.size = wr.heap.size := by rw [e3, three_size]
          have hpost : Hid (StartPost w (startT true t.length) (startM true k) (.returned (.agg #[.slice ah t.length caph, .slice am k capm, .bool false])) W3) := by
            refine ⟨ah, caph, am, capm, ?_, ?_, ?_, ?_⟩
            · show _ = Ending.returned (.agg #[.slice ah (List.replicate t.length Thr.zero).length caph, .slice am (List.replicate k (0 : Int)).length capm, .bool false])
              rw [List.length_replicate, List.length_replicate]
            · refine (HTH.out.keep fun n o hn => ?_).widen fun n hn => ?_
              · have h1 : w1.heap.size ≤ n := hn.1
                have h2 : n < W5.heap.size := hn.2
                have hkx : n ≠ w.heap.size + 1 := by omega
                rw [e3, three_cell n o hkx]
                exact World.cell?_of_block (w := W5) (a := ⟨n, o, none⟩) (hG6.out.block n h2 (by simp; omega))
              · have h1 : w1.heap.size ≤ n := hn.1
                have h2 : n < W5.heap.size := hn.2
                exact ⟨by omega, by show n < _; omega⟩
            · refine (HMI.out.keep fun n o hn => ?_).widen fun n hn => ?_
              · have h1 : W5.heap.size ≤ n := hn.1
                have hkx : n ≠ w.heap.size + 1 := by omega
                rw [e3, three_cell n o hkx]
              · have h1 : W5.heap.size ≤ n := hn.1
                have h2 : n < wr.heap.size := hn.2
                exact ⟨by omega, by show n < _; omega⟩
            · rw [e3]
              refine three_below ?_ (by omega)
              exact (hbel.out.trans (grown_below hG.out (by omega) (fun n hn => by simp at hn; omega))).trans (grown_below hG6.out (by omega) (fun n hn => by simp at hn; omega))
          have E3 := hid e3
          clear e3 hthr hmi hqb hqb2 hN6
          go_wp2_with fail
          rw [← E3.out]
          refine bodyPost_ret ?_ rfl hpost.out
          simp [results, Tryz.results18, go_sem, x0, x1, x2]
end Go.Proofs.YtekmcoflagajkaaGreatDoor
namespace Go.Proofs.YtekmcoflagajkaaGreatDoor
open Go.RowKit

set_option maxRecDepth 100000 in
set_option maxHeartbeats 8000000 in
theorem stSame_eq (ah ah' : Option Addr) (caph caph' : Nat) (th : List Thr) (am am' : Option Addr) (capm capm' : Nat) (mem : List Int) (bad : Bool) (w : World)
    (hh : ThrIn w (In_ w) ah th.length caph th) (hm : IntIn w (In_ w) am mem.length capm mem) (hh' : ThrIn w (In_ w) ah' th.length caph' th) (hm' : IntIn w (In_ w) am' mem.length capm' mem) :
    Calls Tryz.prog 15 #[.agg #[.slice ah th.length caph, .slice am mem.length capm, .bool bad], .agg #[.slice ah' th.length caph', .slice am' mem.length capm', .bool bad]] w
      fun e w' => e = .returned (.bool true) ∧ Below w.heap.size w w' := by
  have l3 := hh.le
  have l4 := hh.mx
  have l5 := hm.2.le
  have l6 := hm.2.mx
  have l7 := hh'.le
  have l8 := hh'.mx
  have l9 := hm'.2.le
  have l10 := hm'.2.mx
  unfold maxLen at l4 l6 l8 l10
  obtain ⟨W0, hW⟩ : ∃ W0, W0 = (w.alloc (.cells #[.slice ah th.length caph, .slice am mem.length capm, .bool bad] 34)).alloc (.cells #[.slice ah' th.length caph', .slice am' mem.length capm', .bool bad] 34) := ⟨_, rfl⟩
  have hB : Below w.heap.size w W0 := by subst hW; exact ((Below.refl _ _).alloc (Nat.le_refl _) _).alloc (by simp) _
  have z1 : w.heap.size + 1 < W0.heap.size := by subst hW; simp
  have z0 : w.heap.size < W0.heap.size := by omega
  have s0 : W0.cell? ⟨w.heap.size, 0, none⟩ = some (.slice ah th.length caph) := by subst hW; go_simp
  have s1 : W0.cell? ⟨w.heap.size, 1, none⟩ = some (.slice am mem.length capm) := by subst hW; go_simp
  have s2 : W0.cell? ⟨w.heap.size, 2, none⟩ = some (.bool bad) := by subst hW; go_simp
  have s3 : W0.cell? ⟨w.heap.size + 1, 0, none⟩ = some (.slice ah' th.length caph') := by subst hW; go_simp
  have s4 : W0.cell? ⟨w.heap.size + 1, 1, none⟩ = some (.slice am' mem.length capm') := by subst hW; go_simp
  have s5 : W0.cell? ⟨w.heap.size + 1, 2, none⟩ = some (.bool bad) := by subst hW; go_simp
  have hh0 := hid ((Kp.of hB).thr hh)
  have hm0 := hid ((Kp.of hB).ints hm)
  have hh1 := hid ((Kp.of hB).thr hh')
  have hm1 := hid ((Kp.of hB).ints hm')
  have HB := hid hB
  have hWx := hid hW
  clear hW hB hh hm hh' hm'
  go_enter Tryz.func15, Tryz.ntmps15
  go_wp2_with fail
  rw [← hWx.out]
  have hbb : (bad != bad) = false := by cases bad <;> rfl
  go_wp2_with fail
  go_loopw [5] (fun i wr => ∃ k : Nat, k ≤ mem.length ∧ i = .int .i64 k ∧ Kp W0 wr) (fun i _ => mem.length - (intOf i).toNat)
  case atStart => exact ⟨0, Nat.zero_le _, rfl, Kp.refl _⟩
  case round =>
    obtain ⟨k, hk, rfl, hK⟩ := hrel
    by_cases hlt : k < mem.length
    · obtain ⟨bb, off, rfl, hbb', e0⟩ := hm0.out.at_ k hlt
      obtain ⟨bc, off', rfl, hbc, e1⟩ := hm1.out.at_ k hlt
      generalize mem[k] = n at *
      have hl1 := hbb'.lt
      have hl2 := hbc.lt
      have k0 : (0 : Int) ≤ k := by omega
      have k1 : (k : Int) < mem.length := by omega
      have hnn : (n != n) = false := bne_self_eq_false _
      go_wp2_with fail
      go_quiet (fail)
      go_wp2
      go_roundw
      case rel => exact ⟨k + 1, by omega, by simp, drewN_kp hK nq⟩
      case measure => simp [intOf]; omega
    · obtain rfl : k = mem.length := by omega
      go_wp2_with fail
      obtain ⟨wo, rfl⟩ : ∃ wo : World, wo = wr := ⟨_, rfl⟩
      go_loopw [6] (fun i wr => ∃ k : Nat, k ≤ th.length ∧ i = .int .i64 k ∧ Kp W0 wr) (fun i _ => th.length - (intOf i).toNat)
      case atStart => exact ⟨0, Nat.zero_le _, rfl, hK⟩
      case round =>
        clear hK
        obtain ⟨k, hk, rfl, hK⟩ := hrel
        by_cases hlt : k < th.length
        · obtain ⟨bb, off, ar, kr, rfl, hb1, ⟨f0, f1, f2⟩, ⟨f3, f4, f5⟩, hen⟩ := hh0.out.at_ k hlt
          obtain ⟨bc, off', ar', kr', rfl, hb2, ⟨g0, g1, g2⟩, ⟨g3, g4, g5⟩, hen'⟩ := hh1.out.at_ k hlt
          generalize th[k] = x at *
          obtain ⟨pc, r0, r1, r2, r3, buf⟩ := x
          simp only at f0 f1 f2 f3 f4 f5 hen g0 g1 g2 g3 g4 g5 hen'
          have hl1 := hb1.lt
          have hl2 := hb2.lt
          have k0 : (0 : Int) ≤ k := by omega
          have k1 : (k : Int) < th.length := by omega
          have Hen := hid hen
          have Hen' := hid hen'
          clear hen hen'
          go_wp2_with fail
          go_region_held3 (Kp W0) (first | exact Kp.drew hK | exact Kp.alloc (Kp.alloc hK _) _ | exact Kp.alloc hK _ | exact Kp.drew (Kp.alloc (Kp.alloc hK _) _) | exact Kp.drew (Kp.alloc hK _)) (fail)
          all_goals
            have hnn : (pc != pc) = false := bne_self_eq_false _
            have hae := arr_same r0 r1 r2 r3
            have hK2 : Kp W0 (wr.drew) := Kp.drew hK
            go_wp2_with fail
            generalize hV : World.drew (World.alloc (World.alloc wr _) _) = V
            have hKV : Kp W0 V := by rw [← hV]; exact Kp.drew (Kp.alloc (Kp.alloc hK _) _)
            have hes := hid (enSame_any ar ar' buf.length kr buf.length kr' buf buf V (hKV.en Hen.out) (hKV.en Hen'.out))
            clear hV
            refine hes.out.mono ?_
            rintro e w9 ⟨rfl, hb9⟩
            have hbt : decide (buf = buf) = true := decide_eq_true rfl
            rw [hbt]
            have hK9 := hid (hKV.next hb9)
            clear hes hb9 hKV hK2 hbt hnn hae
            go_wp2_with fail
            go_roundw
            case rel => exact ⟨k + 1, by omega, by simp, hK9.out⟩
            case measure => simp [intOf]; omega
        · obtain rfl : k = th.length := by omega
          go_wp2_with fail
          go_ret
          exact ⟨rfl, Kp.fin HB.out hK⟩
end Go.Proofs.YtekmcoflagajkaaGreatDoor
