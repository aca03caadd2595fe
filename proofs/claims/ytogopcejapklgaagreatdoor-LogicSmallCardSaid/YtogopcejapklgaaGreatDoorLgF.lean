/- The program's words: forms and shapes. -/
import Derived.Test.YtogopcejapklgaaGreatDoorFmO
import Derived.Test.YtogopcejapklgaaGreatDoorBunM
import Derived.StillTailTactics
namespace Go.Proofs.YtogopcejapklgaaGreatDoor
open Go.RowKit

def frmT : List (Int × Value) := [(1, .agg #[.string ⟨#[116, 114, 117, 101]⟩, .int .i64 0]), (2, .agg #[.string ⟨#[102, 97, 108, 115, 101]⟩, .int .i64 0]), (4, .agg #[.string ⟨#[110, 111, 116]⟩, .int .i64 1]), (5, .agg #[.string ⟨#[97, 110, 100]⟩, .int .i64 2]), (6, .agg #[.string ⟨#[111, 114]⟩, .int .i64 2]), (7, .agg #[.string ⟨#[105, 109, 112, 108, 121]⟩, .int .i64 2]), (8, .agg #[.string ⟨#[110, 101, 120, 116]⟩, .int .i64 1]), (9, .agg #[.string ⟨#[117, 110, 116, 105, 108]⟩, .int .i64 2]), (10, .agg #[.string ⟨#[114, 101, 108, 101, 97, 115, 101]⟩, .int .i64 2]), (11, .agg #[.string ⟨#[97, 108, 119, 97, 121, 115]⟩, .int .i64 1]), (12, .agg #[.string ⟨#[101, 118, 101, 114]⟩, .int .i64 1])]
def shpT : List (Int × Value) := [(1, .agg #[.string ⟨#[109, 101, 109]⟩, .func (.func 62) #[] #[]]), (2, .agg #[.string ⟨#[114, 101, 103]⟩, .func (.func 63) #[] #[]]), (3, .agg #[.string ⟨#[97, 116]⟩, .func (.func 64) #[] #[]]), (4, .agg #[.string ⟨#[101, 109, 112, 116, 121]⟩, .func (.func 61) #[] #[]]), (6, .agg #[.string ⟨#[101, 110, 100, 101, 100]⟩, .func (.func 61) #[] #[]]), (5, .agg #[.string ⟨#[98, 97, 100]⟩, .func (.func 65) #[] #[]])]
/-- The function of an atom's numbers. -/
def shpF (k : Int) : Value := if k = 1 then .func (.func 62) #[] #[] else if k = 2 then .func (.func 63) #[] #[] else if k = 3 then .func (.func 64) #[] #[] else if k = 5 then .func (.func 65) #[] #[] else .func (.func 61) #[] #[]
def frmV (k : Int) : Value := .agg #[strV (frmN k), .int .i64 (frmK k)]
def shpV (k : Int) : Value := .agg #[strV (shpN k), shpF k]
theorem frmT_mem : ∀ p ∈ frmT, isFrm p.1 ∧ p.2 = frmV p.1 := by
  intro p hp
  simp only [frmT, List.mem_cons, List.not_mem_nil, or_false] at hp
  rcases hp with rfl | rfl | rfl | rfl | rfl | rfl | rfl | rfl | rfl | rfl | rfl <;> exact ⟨by unfold isFrm; simp, rfl⟩
theorem shpT_mem : ∀ p ∈ shpT, isShp p.1 ∧ p.2 = shpV p.1 := by
  intro p hp
  simp only [shpT, List.mem_cons, List.not_mem_nil, or_false] at hp
  rcases hp with rfl | rfl | rfl | rfl | rfl | rfl <;> exact ⟨by unfold isShp; simp, rfl⟩
theorem frmT_get {k : Int} (h : isFrm k) (z : Value) : mget z k frmT = frmV k ∧ mhas k frmT = true := by
  rcases h with rfl | rfl | rfl | rfl | rfl | rfl | rfl | rfl | rfl | rfl | rfl <;> exact ⟨rfl, rfl⟩
theorem shpT_get {k : Int} (h : isShp k) (z : Value) : mget z k shpT = shpV k ∧ mhas k shpT = true := by
  rcases h with rfl | rfl | rfl | rfl | rfl | rfl <;> exact ⟨rfl, rfl⟩
theorem frmT_in {k : Int} (h : isFrm k) : ∃ p ∈ frmT, p.1 = k := by
  rcases h with rfl | rfl | rfl | rfl | rfl | rfl | rfl | rfl | rfl | rfl | rfl <;> simp [frmT]
theorem shpT_in {k : Int} (h : isShp k) : ∃ p ∈ shpT, p.1 = k := by
  rcases h with rfl | rfl | rfl | rfl | rfl | rfl <;> simp [shpT]

def MapPost (l : List (Int × Value)) (w : World) (e : Ending) (w' : World) : Prop := ∃ b, e = .returned (.map (some b)) ∧ w.heap.size ≤ b ∧ MapB w' b l ∧ Below w.heap.size w w'

set_option maxRecDepth 100000 in
set_option maxHeartbeats 4000000 in
theorem forms_any (w : World) : Calls Tryz.prog 35 #[] w (MapPost frmT w) := by
  have hmm := @run_makeMap Tryz.prog
  have hM0 := MapB.made w
  have hB0 : Below w.heap.size w (w.alloc (.map #[] 0)) := (Below.refl _ _).alloc (Nat.le_refl _) _
  go_enter Tryz.func35, Tryz.ntmps35
  go_wp2_with (first
    | (refine wpList_put_b _ rfl _ _ _ 70 3 89 rfl Tryz.underlying70 Tryz.underlying3 _ _ rfl hM0 1 (by rfl) (.agg #[.string ⟨#[116, 114, 117, 101]⟩, .int .i64 0]) (by rfl) rfl ?_; intro w1 hM1 hg1 hz1; have hB1 := hB0.grown hg1 hB0.size (fun _ h => by cases h; exact Nat.le_refl _); clear hM0 hB0 hg1 hz1)
    | (refine wpList_put_b _ rfl _ _ _ 70 3 89 rfl Tryz.underlying70 Tryz.underlying3 _ _ rfl hM1 2 (by rfl) (.agg #[.string ⟨#[102, 97, 108, 115, 101]⟩, .int .i64 0]) (by rfl) rfl ?_; intro w2 hM2 hg2 hz2; have hB2 := hB1.grown hg2 hB1.size (fun _ h => by cases h; exact Nat.le_refl _); clear hM1 hB1 hg2 hz2)
    | (refine wpList_put_b _ rfl _ _ _ 70 3 89 rfl Tryz.underlying70 Tryz.underlying3 _ _ rfl hM2 4 (by rfl) (.agg #[.string ⟨#[110, 111, 116]⟩, .int .i64 1]) (by rfl) rfl ?_; intro w3 hM3 hg3 hz3; have hB3 := hB2.grown hg3 hB2.size (fun _ h => by cases h; exact Nat.le_refl _); clear hM2 hB2 hg3 hz3)
    | (refine wpList_put_b _ rfl _ _ _ 70 3 89 rfl Tryz.underlying70 Tryz.underlying3 _ _ rfl hM3 5 (by rfl) (.agg #[.string ⟨#[97, 110, 100]⟩, .int .i64 2]) (by rfl) rfl ?_; intro w4 hM4 hg4 hz4; have hB4 := hB3.grown hg4 hB3.size (fun _ h => by cases h; exact Nat.le_refl _); clear hM3 hB3 hg4 hz4)
    | (refine wpList_put_b _ rfl _ _ _ 70 3 89 rfl Tryz.underlying70 Tryz.underlying3 _ _ rfl hM4 6 (by rfl) (.agg #[.string ⟨#[111, 114]⟩, .int .i64 2]) (by rfl) rfl ?_; intro w5 hM5 hg5 hz5; have hB5 := hB4.grown hg5 hB4.size (fun _ h => by cases h; exact Nat.le_refl _); clear hM4 hB4 hg5 hz5)
    | (refine wpList_put_b _ rfl _ _ _ 70 3 89 rfl Tryz.underlying70 Tryz.underlying3 _ _ rfl hM5 7 (by rfl) (.agg #[.string ⟨#[105, 109, 112, 108, 121]⟩, .int .i64 2]) (by rfl) rfl ?_; intro w6 hM6 hg6 hz6; have hB6 := hB5.grown hg6 hB5.size (fun _ h => by cases h; exact Nat.le_refl _); clear hM5 hB5 hg6 hz6)
    | (refine wpList_put_b _ rfl _ _ _ 70 3 89 rfl Tryz.underlying70 Tryz.underlying3 _ _ rfl hM6 8 (by rfl) (.agg #[.string ⟨#[110, 101, 120, 116]⟩, .int .i64 1]) (by rfl) rfl ?_; intro w7 hM7 hg7 hz7; have hB7 := hB6.grown hg7 hB6.size (fun _ h => by cases h; exact Nat.le_refl _); clear hM6 hB6 hg7 hz7)
    | (refine wpList_put_b _ rfl _ _ _ 70 3 89 rfl Tryz.underlying70 Tryz.underlying3 _ _ rfl hM7 9 (by rfl) (.agg #[.string ⟨#[117, 110, 116, 105, 108]⟩, .int .i64 2]) (by rfl) rfl ?_; intro w8 hM8 hg8 hz8; have hB8 := hB7.grown hg8 hB7.size (fun _ h => by cases h; exact Nat.le_refl _); clear hM7 hB7 hg8 hz8)
    | (refine wpList_put_b _ rfl _ _ _ 70 3 89 rfl Tryz.underlying70 Tryz.underlying3 _ _ rfl hM8 10 (by rfl) (.agg #[.string ⟨#[114, 101, 108, 101, 97, 115, 101]⟩, .int .i64 2]) (by rfl) rfl ?_; intro w9 hM9 hg9 hz9; have hB9 := hB8.grown hg9 hB8.size (fun _ h => by cases h; exact Nat.le_refl _); clear hM8 hB8 hg9 hz9)
    | (refine wpList_put_b _ rfl _ _ _ 70 3 89 rfl Tryz.underlying70 Tryz.underlying3 _ _ rfl hM9 11 (by rfl) (.agg #[.string ⟨#[97, 108, 119, 97, 121, 115]⟩, .int .i64 1]) (by rfl) rfl ?_; intro w10 hM10 hg10 hz10; have hB10 := hB9.grown hg10 hB9.size (fun _ h => by cases h; exact Nat.le_refl _); clear hM9 hB9 hg10 hz10)
    | (refine wpList_put_b _ rfl _ _ _ 70 3 89 rfl Tryz.underlying70 Tryz.underlying3 _ _ rfl hM10 12 (by rfl) (.agg #[.string ⟨#[101, 118, 101, 114]⟩, .int .i64 1]) (by rfl) rfl ?_; intro w11 hM11 hg11 hz11; have hB11 := hB10.grown hg11 hB10.size (fun _ h => by cases h; exact Nat.le_refl _); clear hM10 hB10 hg11 hz11)
    | fail)
  go_ret
  exact ⟨w.heap.size, rfl, Nat.le_refl _, hM11, hB11⟩

set_option maxRecDepth 100000 in
set_option maxHeartbeats 4000000 in
theorem shapes_any (w : World) : Calls Tryz.prog 40 #[] w (MapPost shpT w) := by
  have hmm := @run_makeMap Tryz.prog
  have hM0 := MapB.made w
  have hB0 : Below w.heap.size w (w.alloc (.map #[] 0)) := (Below.refl _ _).alloc (Nat.le_refl _) _
  have hmf : ∀ (fn : Fn) (first cap : Array Value) (w : World), (Instr.makeFunc fn first cap).run Tryz.prog w = .ok (.func fn first cap) w := fun _ _ _ _ => rfl
  go_enter Tryz.func40, Tryz.ntmps40
  go_wp2_with (first
    | (refine wpList_put_b _ rfl _ _ _ 82 3 81 rfl Tryz.underlying82 Tryz.underlying3 _ _ rfl hM0 1 (by rfl) (.agg #[.string ⟨#[109, 101, 109]⟩, .func (.func 62) #[] #[]]) (by rfl) rfl ?_; intro w1 hM1 hg1 hz1; have hB1 := hB0.grown hg1 hB0.size (fun _ h => by cases h; exact Nat.le_refl _); clear hM0 hB0 hg1 hz1)
    | (refine wpList_put_b _ rfl _ _ _ 82 3 81 rfl Tryz.underlying82 Tryz.underlying3 _ _ rfl hM1 2 (by rfl) (.agg #[.string ⟨#[114, 101, 103]⟩, .func (.func 63) #[] #[]]) (by rfl) rfl ?_; intro w2 hM2 hg2 hz2; have hB2 := hB1.grown hg2 hB1.size (fun _ h => by cases h; exact Nat.le_refl _); clear hM1 hB1 hg2 hz2)
    | (refine wpList_put_b _ rfl _ _ _ 82 3 81 rfl Tryz.underlying82 Tryz.underlying3 _ _ rfl hM2 3 (by rfl) (.agg #[.string ⟨#[97, 116]⟩, .func (.func 64) #[] #[]]) (by rfl) rfl ?_; intro w3 hM3 hg3 hz3; have hB3 := hB2.grown hg3 hB2.size (fun _ h => by cases h; exact Nat.le_refl _); clear hM2 hB2 hg3 hz3)
    | (refine wpList_put_b _ rfl _ _ _ 82 3 81 rfl Tryz.underlying82 Tryz.underlying3 _ _ rfl hM3 4 (by rfl) (.agg #[.string ⟨#[101, 109, 112, 116, 121]⟩, .func (.func 61) #[] #[]]) (by rfl) rfl ?_; intro w4 hM4 hg4 hz4; have hB4 := hB3.grown hg4 hB3.size (fun _ h => by cases h; exact Nat.le_refl _); clear hM3 hB3 hg4 hz4)
    | (refine wpList_put_b _ rfl _ _ _ 82 3 81 rfl Tryz.underlying82 Tryz.underlying3 _ _ rfl hM4 6 (by rfl) (.agg #[.string ⟨#[101, 110, 100, 101, 100]⟩, .func (.func 61) #[] #[]]) (by rfl) rfl ?_; intro w5 hM5 hg5 hz5; have hB5 := hB4.grown hg5 hB4.size (fun _ h => by cases h; exact Nat.le_refl _); clear hM4 hB4 hg5 hz5)
    | (refine wpList_put_b _ rfl _ _ _ 82 3 81 rfl Tryz.underlying82 Tryz.underlying3 _ _ rfl hM5 5 (by rfl) (.agg #[.string ⟨#[98, 97, 100]⟩, .func (.func 65) #[] #[]]) (by rfl) rfl ?_; intro w6 hM6 hg6 hz6; have hB6 := hB5.grown hg6 hB5.size (fun _ h => by cases h; exact Nat.le_refl _); clear hM5 hB5 hg6 hz6)
    | fail)
  go_ret
  exact ⟨w.heap.size, rfl, Nat.le_refl _, hM6, hB6⟩

/-- The addresses of an atom's numbers, by the function in a shape. -/
def NmPost (k : Int) (B o : Nat) (w : World) (e : Ending) (w' : World) : Prop :=
  ∃ a, e = .returned (.slice a (offs k).length (offs k).length) ∧ (∀ i (h : i < (offs k).length), ∃ bb, a = some ⟨bb, 0, none⟩ ∧ w.heap.size ≤ bb ∧ bb < w'.heap.size ∧ w'.cell? ⟨bb, i, none⟩ = some (.pointer (some ⟨B, o + (offs k)[i], none⟩))) ∧ Below w.heap.size w w' ∧ w'.heap.size ≤ w.heap.size + 1

set_option maxRecDepth 100000 in
theorem nums_2 (B o : Nat) (w : World) : Calls Tryz.prog 62 #[.pointer (some ⟨B, o, none⟩)] w (NmPost 1 B o w) := by
  go_enter Tryz.func62, Tryz.ntmps62
  go_wp2_with fail
  go_still_tail 6, (by kernel_rfl)
  change wpList _ _ _ _ _ w.drew
  go_wp2_with fail
  go_ret
  refine ⟨some ⟨w.heap.size, 0, none⟩, rfl, fun i h => ⟨w.heap.size, rfl, Nat.le_refl _, by simp, ?_⟩, ((Below.refl _ w).drew).alloc (Nat.le_refl _) _, by simp⟩
  have hi : i = 0 ∨ i = 1 := by have h' : i < 2 := h; omega
  rcases hi with rfl | rfl <;> (simp [offs]; try go_simp)
set_option maxRecDepth 100000 in
theorem nums_3 (B o : Nat) (w : World) : Calls Tryz.prog 63 #[.pointer (some ⟨B, o, none⟩)] w (NmPost 2 B o w) := by
  go_enter Tryz.func63, Tryz.ntmps63
  go_wp2_with fail
  go_still_tail 9, (by kernel_rfl)
  change wpList _ _ _ _ _ w.drew
  go_wp2_with fail
  go_ret
  refine ⟨some ⟨w.heap.size, 0, none⟩, rfl, fun i h => ⟨w.heap.size, rfl, Nat.le_refl _, by simp, ?_⟩, ((Below.refl _ w).drew).alloc (Nat.le_refl _) _, by simp⟩
  have hi : i = 0 ∨ i = 1 ∨ i = 2 := by have h' : i < 3 := h; omega
  rcases hi with rfl | rfl | rfl <;> (simp [offs]; try go_simp)
set_option maxRecDepth 100000 in
theorem nums_4 (B o : Nat) (w : World) : Calls Tryz.prog 64 #[.pointer (some ⟨B, o, none⟩)] w (NmPost 3 B o w) := by
  go_enter Tryz.func64, Tryz.ntmps64
  go_wp2_with fail
  go_still_tail 6, (by kernel_rfl)
  change wpList _ _ _ _ _ w.drew
  go_wp2_with fail
  go_ret
  refine ⟨some ⟨w.heap.size, 0, none⟩, rfl, fun i h => ⟨w.heap.size, rfl, Nat.le_refl _, by simp, ?_⟩, ((Below.refl _ w).drew).alloc (Nat.le_refl _) _, by simp⟩
  have hi : i = 0 ∨ i = 1 := by have h' : i < 2 := h; omega
  rcases hi with rfl | rfl <;> (simp [offs]; try go_simp)
set_option maxRecDepth 100000 in
theorem nums_1 (B o : Nat) (k : Int) (hk : k = 4 ∨ k = 6) (w : World) : Calls Tryz.prog 61 #[.pointer (some ⟨B, o, none⟩)] w (NmPost k B o w) := by
  have hof : offs k = [1] := by rcases hk with rfl | rfl <;> rfl
  have Hof := hid hof
  clear hof hk
  go_enter Tryz.func61, Tryz.ntmps61
  go_wp2_with fail
  go_ret
  unfold NmPost
  rw [Hof.out]
  refine ⟨some ⟨w.heap.size, 0, none⟩, rfl, fun i h => ⟨w.heap.size, rfl, Nat.le_refl _, by simp, ?_⟩, (Below.refl _ _).alloc (Nat.le_refl _) _, by simp⟩
  obtain rfl : i = 0 := by simp at h; omega
  go_simp
set_option maxRecDepth 100000 in
theorem nums_5 (B o : Nat) (w : World) : Calls Tryz.prog 65 #[.pointer (some ⟨B, o, none⟩)] w (NmPost 5 B o w) := by
  go_enter Tryz.func65, Tryz.ntmps65
  go_wp2_with fail
  go_ret
  exact ⟨none, rfl, fun i h => absurd h (by simp [offs]), Below.refl _ _, by omega⟩
end Go.Proofs.YtogopcejapklgaaGreatDoor
