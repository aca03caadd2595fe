/- Parts of statements and of instructions: small functions. -/
import Derived.Test.YtcgpobeidlimkaaGreatDoorTreC
namespace Go.Proofs.YtcgpobeidlimkaaGreatDoor
open Go.RowKit

/-- Is an expression empty? -/
def Ex.none : Ex → Bool
  | .mk k n o l => k == 0 && n == 0 && o == 0 && l.isEmpty
/-- What a kind has: a register, a variable, A, B. -/
def h0 (k : Int) : Bool := k == 1 || k == 3 || k == 6
def h1 (k : Int) : Bool := k == 1 || k == 2 || k == 6 || k == 7 || k == 8
def h2 (k : Int) : Bool := k == 2 || k == 3 || k == 6 || k == 9 || k == 10 || k == 11
def h3 (k : Int) : Bool := k == 6
/-- A number below another one, if it is had; else 0. -/
def numL (n most : Int) (has : Bool) : Bool := if has then decide (0 ≤ n) && decide (n < most) else n == 0
/-- An expression that may be, if it is had; else an empty one. -/
def oneL (x : Ex) (dom : Int) (has : Bool) : Bool := if has then x.fit dom 20 else x.none
/-- May what a statement of a kind has be? -/
def partL (k reg v : Int) (a b : Ex) (vars dom : Int) : Bool := numL reg 4 (h0 k) && numL v vars (h1 k) && oneL a dom (h2 k) && oneL b dom (h3 k)

theorem pExpr_any (dom : Int) (x : Ex) (cs : List Value) (w : World) (hin : ExIn w (In_ w) cs x) :
    Calls Tryz.prog 90 #[.agg cs.toArray, .int .i64 dom] w fun e w' => e = .returned (.bool (x.fit dom 20)) ∧ Below w.heap.size w w' := by
  obtain ⟨u0, u1, u2, u3, rfl⟩ := hin.four
  have hfb : Below w.heap.size w (w.alloc (.cells #[u0, u1, u2, u3] 46)) := (Below.refl _ _).alloc (Nat.le_refl _) _
  have hX := (Kp.of hfb).ex hin
  clear hin
  go_enter Tryz.func90, Tryz.ntmps90
  go_wp2_with fail
  refine (pexpr_any dom x 20 [u0, u1, u2, u3] _ (by omega) hX).mono ?_
  rintro e w1 ⟨rfl, hb1⟩
  go_wp2_with fail
  go_ret
  exact ⟨rfl, hfb.trans (hb1.mono hfb.size)⟩

set_option maxHeartbeats 2000000 in
theorem none_any (x : Ex) (cs : List Value) (w : World) (hin : ExIn w (In_ w) cs x) :
    Calls Tryz.prog 88 #[.agg cs.toArray] w fun e w' => e = .returned (.bool x.none) ∧ Below w.heap.size w w' := by
  obtain ⟨k, n, o, l⟩ := x
  obtain ⟨a, cap, rfl, hl, hc, wk, wn, wo, hk⟩ := hin.open_
  have hfb : Below w.heap.size w (w.alloc (.cells #[.int .i64 k, .int .i64 n, .int .u8 o, .slice a l.length cap] 46)) := (Below.refl _ _).alloc (Nat.le_refl _) _
  clear hk hin
  go_enter Tryz.func88, Tryz.ntmps88
  cases hk0 : (k == 0)
  · go_wp2_with fail
    go_ret
    exact ⟨ret_bool (by simp [Ex.none, hk0]), hfb⟩
  cases hn0 : (n == 0)
  · go_wp2_with fail
    go_ret
    exact ⟨ret_bool (by simp [Ex.none, hn0]), hfb⟩
  cases ho0 : (o == 0)
  · go_wp2_with fail
    go_ret
    exact ⟨ret_bool (by simp [Ex.none, ho0]), hfb⟩
  go_wp2_with fail
  go_ret
  exact ⟨ret_bool (by cases l <;> simp [Ex.none, hk0, hn0, ho0]; omega), hfb⟩
set_option maxHeartbeats 2000000 in
theorem pnone_any (x : Ex) (cs : List Value) (w : World) (hin : ExIn w (In_ w) cs x) :
    Calls Tryz.prog 91 #[.agg cs.toArray] w fun e w' => e = .returned (.bool x.none) ∧ Below w.heap.size w w' := by
  obtain ⟨k, n, o, l⟩ := x
  obtain ⟨a, cap, rfl, hl, hc, wk, wn, wo, hk⟩ := hin.open_
  have hfb : Below w.heap.size w (w.alloc (.cells #[.int .i64 k, .int .i64 n, .int .u8 o, .slice a l.length cap] 46)) := (Below.refl _ _).alloc (Nat.le_refl _) _
  clear hk hin
  go_enter Tryz.func91, Tryz.ntmps91
  cases hk0 : (k == 0)
  · go_wp2_with fail
    go_ret
    exact ⟨ret_bool (by simp [Ex.none, hk0]), hfb⟩
  cases hn0 : (n == 0)
  · go_wp2_with fail
    go_ret
    exact ⟨ret_bool (by simp [Ex.none, hn0]), hfb⟩
  cases ho0 : (o == 0)
  · go_wp2_with fail
    go_ret
    exact ⟨ret_bool (by simp [Ex.none, ho0]), hfb⟩
  go_wp2_with fail
  go_ret
  exact ⟨ret_bool (by cases l <;> simp [Ex.none, hk0, hn0, ho0]; omega), hfb⟩

set_option maxHeartbeats 2000000 in
theorem number_any (n most : Int) (has : Bool) (w : World) :
    Calls Tryz.prog 92 #[.int .i64 n, .int .i64 most, .bool has] w fun e w' => e = .returned (.bool (numL n most has)) ∧ w' = w := by
  go_enter Tryz.func92, Tryz.ntmps92
  cases has
  all_goals
    cases hn0 : (n == 0)
    all_goals
      cases hn1 : decide (0 ≤ n)
      all_goals
        cases hn2 : decide (n < most)
        all_goals
          go_wp2_with fail
          go_ret
          exact ⟨ret_bool (by first | (simp [numL, hn0, hn1, hn2]; done) | (simp at hn0 hn1 hn2; simp [numL]; omega)), rfl⟩

/-- The table of the kinds. -/
def formsL : List (Int × Value) := [
  (1, .agg #[.bool true, .bool true, .bool false, .bool false, .bool false, .bool false, .func (.func 72) #[] #[]]),
  (2, .agg #[.bool false, .bool true, .bool true, .bool false, .bool false, .bool false, .func (.func 73) #[] #[]]),
  (3, .agg #[.bool true, .bool false, .bool true, .bool false, .bool false, .bool false, .func (.func 74) #[] #[]]),
  (4, .agg #[.bool false, .bool false, .bool false, .bool false, .bool false, .bool false, .func (.func 75) #[] #[]]),
  (5, .agg #[.bool false, .bool false, .bool false, .bool false, .bool false, .bool false, .func (.func 76) #[] #[]]),
  (6, .agg #[.bool true, .bool true, .bool true, .bool true, .bool false, .bool false, .func (.func 77) #[] #[]]),
  (7, .agg #[.bool false, .bool true, .bool false, .bool false, .bool false, .bool false, .func (.func 78) #[] #[]]),
  (8, .agg #[.bool false, .bool true, .bool false, .bool false, .bool false, .bool false, .func (.func 79) #[] #[]]),
  (9, .agg #[.bool false, .bool false, .bool true, .bool false, .bool false, .bool false, .func (.func 80) #[] #[]]),
  (10, .agg #[.bool false, .bool false, .bool true, .bool false, .bool true, .bool true, .func (.func 81) #[] #[]]),
  (11, .agg #[.bool false, .bool false, .bool true, .bool false, .bool true, .bool false, .func (.func 82) #[] #[]])]
def FormsPost (w : World) (e : Ending) (w' : World) : Prop := ∃ b, e = .returned (.map (some b)) ∧ w.heap.size ≤ b ∧ MapIs w' b formsL ∧ Below w.heap.size w w'

set_option maxRecDepth 100000 in
set_option maxHeartbeats 4000000 in
theorem forms_any (w : World) : Calls Tryz.prog 48 #[] w (FormsPost w) := by
  have hmm := @run_makeMap Tryz.prog
  have hM0 := MapIs.made w
  have hB0 : Below w.heap.size w (w.alloc (.map #[] 0)) := (Below.refl _ _).alloc (Nat.le_refl _) _
  go_enter Tryz.func48, Tryz.ntmps48
  go_wp2_with (first
    | (refine wpList_put_of _ rfl _ _ _ 83 3 104 rfl Tryz.underlying83 Tryz.underlying3 _ _ rfl hM0 1 (by rfl) (.agg #[.bool true, .bool true, .bool false, .bool false, .bool false, .bool false, .func (.func 72) #[] #[]]) (by rfl) rfl ?_; intro w1 hM1 hg1; have hB1 := hB0.grown hg1 hB0.size (fun _ h => by cases h; exact Nat.le_refl _); clear hM0 hB0 hg1)
    | (refine wpList_put_of _ rfl _ _ _ 83 3 104 rfl Tryz.underlying83 Tryz.underlying3 _ _ rfl hM1 2 (by rfl) (.agg #[.bool false, .bool true, .bool true, .bool false, .bool false, .bool false, .func (.func 73) #[] #[]]) (by rfl) rfl ?_; intro w2 hM2 hg2; have hB2 := hB1.grown hg2 hB1.size (fun _ h => by cases h; exact Nat.le_refl _); clear hM1 hB1 hg2)
    | (refine wpList_put_of _ rfl _ _ _ 83 3 104 rfl Tryz.underlying83 Tryz.underlying3 _ _ rfl hM2 3 (by rfl) (.agg #[.bool true, .bool false, .bool true, .bool false, .bool false, .bool false, .func (.func 74) #[] #[]]) (by rfl) rfl ?_; intro w3 hM3 hg3; have hB3 := hB2.grown hg3 hB2.size (fun _ h => by cases h; exact Nat.le_refl _); clear hM2 hB2 hg3)
    | (refine wpList_put_of _ rfl _ _ _ 83 3 104 rfl Tryz.underlying83 Tryz.underlying3 _ _ rfl hM3 4 (by rfl) (.agg #[.bool false, .bool false, .bool false, .bool false, .bool false, .bool false, .func (.func 75) #[] #[]]) (by rfl) rfl ?_; intro w4 hM4 hg4; have hB4 := hB3.grown hg4 hB3.size (fun _ h => by cases h; exact Nat.le_refl _); clear hM3 hB3 hg4)
    | (refine wpList_put_of _ rfl _ _ _ 83 3 104 rfl Tryz.underlying83 Tryz.underlying3 _ _ rfl hM4 5 (by rfl) (.agg #[.bool false, .bool false, .bool false, .bool false, .bool false, .bool false, .func (.func 76) #[] #[]]) (by rfl) rfl ?_; intro w5 hM5 hg5; have hB5 := hB4.grown hg5 hB4.size (fun _ h => by cases h; exact Nat.le_refl _); clear hM4 hB4 hg5)
    | (refine wpList_put_of _ rfl _ _ _ 83 3 104 rfl Tryz.underlying83 Tryz.underlying3 _ _ rfl hM5 6 (by rfl) (.agg #[.bool true, .bool true, .bool true, .bool true, .bool false, .bool false, .func (.func 77) #[] #[]]) (by rfl) rfl ?_; intro w6 hM6 hg6; have hB6 := hB5.grown hg6 hB5.size (fun _ h => by cases h; exact Nat.le_refl _); clear hM5 hB5 hg6)
    | (refine wpList_put_of _ rfl _ _ _ 83 3 104 rfl Tryz.underlying83 Tryz.underlying3 _ _ rfl hM6 7 (by rfl) (.agg #[.bool false, .bool true, .bool false, .bool false, .bool false, .bool false, .func (.func 78) #[] #[]]) (by rfl) rfl ?_; intro w7 hM7 hg7; have hB7 := hB6.grown hg7 hB6.size (fun _ h => by cases h; exact Nat.le_refl _); clear hM6 hB6 hg7)
    | (refine wpList_put_of _ rfl _ _ _ 83 3 104 rfl Tryz.underlying83 Tryz.underlying3 _ _ rfl hM7 8 (by rfl) (.agg #[.bool false, .bool true, .bool false, .bool false, .bool false, .bool false, .func (.func 79) #[] #[]]) (by rfl) rfl ?_; intro w8 hM8 hg8; have hB8 := hB7.grown hg8 hB7.size (fun _ h => by cases h; exact Nat.le_refl _); clear hM7 hB7 hg8)
    | (refine wpList_put_of _ rfl _ _ _ 83 3 104 rfl Tryz.underlying83 Tryz.underlying3 _ _ rfl hM8 9 (by rfl) (.agg #[.bool false, .bool false, .bool true, .bool false, .bool false, .bool false, .func (.func 80) #[] #[]]) (by rfl) rfl ?_; intro w9 hM9 hg9; have hB9 := hB8.grown hg9 hB8.size (fun _ h => by cases h; exact Nat.le_refl _); clear hM8 hB8 hg9)
    | (refine wpList_put_of _ rfl _ _ _ 83 3 104 rfl Tryz.underlying83 Tryz.underlying3 _ _ rfl hM9 10 (by rfl) (.agg #[.bool false, .bool false, .bool true, .bool false, .bool true, .bool true, .func (.func 81) #[] #[]]) (by rfl) rfl ?_; intro w10 hM10 hg10; have hB10 := hB9.grown hg10 hB9.size (fun _ h => by cases h; exact Nat.le_refl _); clear hM9 hB9 hg10)
    | (refine wpList_put_of _ rfl _ _ _ 83 3 104 rfl Tryz.underlying83 Tryz.underlying3 _ _ rfl hM10 11 (by rfl) (.agg #[.bool false, .bool false, .bool true, .bool false, .bool true, .bool false, .func (.func 82) #[] #[]]) (by rfl) rfl ?_; intro w11 hM11 hg11; have hB11 := hB10.grown hg11 hB10.size (fun _ h => by cases h; exact Nat.le_refl _); clear hM10 hB10 hg11)
    | fail)
  go_ret
  exact ⟨w.heap.size, rfl, Nat.le_refl _, hM11, hB11⟩
end Go.Proofs.YtcgpobeidlimkaaGreatDoor
