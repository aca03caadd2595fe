/- Parts of statements and of instructions: Part. -/
import Derived.Test.YtphlbbnmligadaaGreatDoorBunT
namespace Go.Proofs.YtphlbbnmligadaaGreatDoor
open Go.RowKit

def formZ : Value := .agg #[.bool false, .bool false, .bool false, .bool false, .bool false, .bool false, .nilFunc]
theorem zeroForm (w : World) : (zeroValue 105).run Tryz.prog w = .ok formZ w := by kernel_rfl
theorem forms_get (k : Int) : ∃ (b4 b5 : Bool) (f : Value), f.oneCell' = true ∧ mget formZ k formsL = .agg #[.bool (h0 k), .bool (h1 k), .bool (h2 k), .bool (h3 k), .bool b4, .bool b5, f] := by
  by_cases e1 : k = 1
  · subst e1; exact ⟨_, _, _, rfl, rfl⟩
  by_cases e2 : k = 2
  · subst e2; exact ⟨_, _, _, rfl, rfl⟩
  by_cases e3 : k = 3
  · subst e3; exact ⟨_, _, _, rfl, rfl⟩
  by_cases e4 : k = 4
  · subst e4; exact ⟨_, _, _, rfl, rfl⟩
  by_cases e5 : k = 5
  · subst e5; exact ⟨_, _, _, rfl, rfl⟩
  by_cases e6 : k = 6
  · subst e6; exact ⟨_, _, _, rfl, rfl⟩
  by_cases e7 : k = 7
  · subst e7; exact ⟨_, _, _, rfl, rfl⟩
  by_cases e8 : k = 8
  · subst e8; exact ⟨_, _, _, rfl, rfl⟩
  by_cases e9 : k = 9
  · subst e9; exact ⟨_, _, _, rfl, rfl⟩
  by_cases e10 : k = 10
  · subst e10; exact ⟨_, _, _, rfl, rfl⟩
  by_cases e11 : k = 11
  · subst e11; exact ⟨_, _, _, rfl, rfl⟩
  refine ⟨false, false, .nilFunc, rfl, ?_⟩
  have i1 : (k == 1) = false := by simpa using e1
  have i2 : (k == 2) = false := by simpa using e2
  have i3 : (k == 3) = false := by simpa using e3
  have i6 : (k == 6) = false := by simpa using e6
  have i7 : (k == 7) = false := by simpa using e7
  have i8 : (k == 8) = false := by simpa using e8
  have i9 : (k == 9) = false := by simpa using e9
  have i10 : (k == 10) = false := by simpa using e10
  have i11 : (k == 11) = false := by simpa using e11
  simp only [mget, formsL, if_neg e1, if_neg e2, if_neg e3, if_neg e4, if_neg e5, if_neg e6, if_neg e7, if_neg e8, if_neg e9, if_neg e10, if_neg e11, h0, h1, h2, h3, i1, i2, i3, i6, i7, i8, i9, i10, i11, formZ, Bool.or_false]

set_option maxHeartbeats 2000000 in
theorem has_any (k : Int) (w : World) : Calls Tryz.prog 134 #[.int .i64 k] w fun e w' => e = .returned (.agg #[.bool (h0 k), .bool (h1 k), .bool (h2 k), .bool (h3 k)]) ∧ Below w.heap.size w w' := by
  by_cases hk : k = 1 ∨ k = 2 ∨ k = 3 ∨ k = 6 ∨ k = 7 ∨ k = 8 ∨ k = 9 ∨ k = 10 ∨ k = 11
  · rcases hk with rfl | rfl | rfl | rfl | rfl | rfl | rfl | rfl | rfl
    all_goals
      go_enter Tryz.func134, Tryz.ntmps134
      go_wp2_with fail
      first
        | (refine bodyPost_ret (v := .agg #[.bool true, .bool true, .bool false, .bool false]) ?_ rfl ⟨rfl, (Below.refl _ _).alloc (Nat.le_refl _) _⟩; simp [results, Tryz.results134, go_sem]; done)
        | (refine bodyPost_ret (v := .agg #[.bool false, .bool true, .bool true, .bool false]) ?_ rfl ⟨rfl, (Below.refl _ _).alloc (Nat.le_refl _) _⟩; simp [results, Tryz.results134, go_sem]; done)
        | (refine bodyPost_ret (v := .agg #[.bool true, .bool false, .bool true, .bool false]) ?_ rfl ⟨rfl, (Below.refl _ _).alloc (Nat.le_refl _) _⟩; simp [results, Tryz.results134, go_sem]; done)
        | (refine bodyPost_ret (v := .agg #[.bool true, .bool true, .bool true, .bool true]) ?_ rfl ⟨rfl, (Below.refl _ _).alloc (Nat.le_refl _) _⟩; simp [results, Tryz.results134, go_sem]; done)
        | (refine bodyPost_ret (v := .agg #[.bool false, .bool true, .bool false, .bool false]) ?_ rfl ⟨rfl, (Below.refl _ _).alloc (Nat.le_refl _) _⟩; simp [results, Tryz.results134, go_sem]; done)
        | (refine bodyPost_ret (v := .agg #[.bool false, .bool false, .bool true, .bool false]) ?_ rfl ⟨rfl, (Below.refl _ _).alloc (Nat.le_refl _) _⟩; simp [results, Tryz.results134, go_sem]; done)
  · have i1 : (k == 1) = false := by simp; omega
    have i2 : (k == 2) = false := by simp; omega
    have i3 : (k == 3) = false := by simp; omega
    have i6 : (k == 6) = false := by simp; omega
    have i7 : (k == 7) = false := by simp; omega
    have i8 : (k == 8) = false := by simp; omega
    have i9 : (k == 9) = false := by simp; omega
    have i10 : (k == 10) = false := by simp; omega
    have i11 : (k == 11) = false := by simp; omega
    have hr : Hid ((h0 k, h1 k, h2 k, h3 k) = (false, false, false, false)) := by show _ = _; simp only [h0, h1, h2, h3, i1, i2, i3, i6, i7, i8, i9, i10, i11]; rfl
    clear hk
    go_enter Tryz.func134, Tryz.ntmps134
    go_wp2_with fail
    have h := hr.out
    simp only [Prod.mk.injEq] at h
    refine bodyPost_ret (v := .agg #[.bool false, .bool false, .bool false, .bool false]) ?_ rfl ⟨by rw [h.1, h.2.1, h.2.2.1, h.2.2.2], (Below.refl _ _).alloc (Nat.le_refl _) _⟩
    simp [results, Tryz.results134, go_sem]

set_option maxHeartbeats 2000000 in
theorem one_any (dom : Int) (x : Ex) (has : Bool) (b : Nat) (cs : List Value) (w : World) (hin : ExIn w (In_ w) cs x) (hb : b < w.heap.size) (hc : w.cell? ⟨b, 0, none⟩ = some (.int .i64 dom)) :
    Calls Tryz.prog 117 #[.agg cs.toArray, .bool has, .pointer (some ⟨b, 0, none⟩)] w fun e w' => e = .returned (.bool (oneL x dom has)) ∧ Below w.heap.size w w' := by
  obtain ⟨u0, u1, u2, u3, rfl⟩ := hin.four
  have hfb : Below w.heap.size w (w.alloc (.cells #[u0, u1, u2, u3] 44)) := (Below.refl _ _).alloc (Nat.le_refl _) _
  have hX := hid ((Kp.of hfb).ex hin)
  clear hin
  cases has
  · go_enter Tryz.func117, Tryz.ntmps117
    go_wp2_with (first
      | (go_at_call 118; (with_reducible refine (pnone_any x [u0, u1, u2, u3] _ hX.out).mono ?_); rintro e w1 ⟨rfl, hb1⟩)
      | fail)
    go_ret
    exact ⟨rfl, hfb.trans (hb1.mono hfb.size)⟩
  · go_enter Tryz.func117, Tryz.ntmps117
    go_wp2_with (first
      | (go_at_call 16; (with_reducible refine (pExpr_any dom x [u0, u1, u2, u3] _ hX.out).mono ?_); rintro e w1 ⟨rfl, hb1⟩)
      | fail)
    go_ret
    exact ⟨rfl, hfb.trans (hb1.mono hfb.size)⟩

set_option maxRecDepth 100000 in
set_option maxHeartbeats 4000000 in
theorem pPart_any (k reg v : Int) (a b : Ex) (vars dom : Int) (ca cb : List Value) (w : World) (ha : ExIn w (In_ w) ca a) (hb : ExIn w (In_ w) cb b) :
    Calls Tryz.prog 89 #[.int .i64 k, .int .i64 reg, .int .i64 v, .agg ca.toArray, .agg cb.toArray, .int .i64 vars, .int .i64 dom] w fun e w' => e = .returned (.bool (partL k reg v a b vars dom)) ∧ Below w.heap.size w w' := by
  obtain ⟨u0, u1, u2, u3, rfl⟩ := ha.four
  obtain ⟨v0, v1, v2, v3, rfl⟩ := hb.four
  obtain ⟨b4, b5, f, hf1, hget⟩ := forms_get k
  have hst : ∀ ad W m, (store ad f m).run Tryz.prog W = stored Tryz.prog W ad f m := fun ad W m => run_store _ W ad f m hf1
  have Hget := hid hget
  have hp : Hid (partL k reg v a b vars dom = (numL reg 4 (h0 k) && numL v vars (h1 k) && oneL a dom (h2 k) && oneL b dom (h3 k))) := rfl
  clear hget
  generalize h0 k = i0 at *
  generalize h1 k = i1 at *
  generalize h2 k = i2 at *
  generalize h3 k = i3 at *
  obtain ⟨W0, hW⟩ : ∃ W0, W0 = ((w.alloc (.cells #[u0, u1, u2, u3] 44)).alloc (.cells #[v0, v1, v2, v3] 44)).alloc (.cells #[.int .i64 dom] 3) := ⟨_, rfl⟩
  have hB : Below w.heap.size w W0 := by subst hW; exact (((Below.refl _ _).alloc (Nat.le_refl _) _).alloc (by simp) _).alloc (by simp; omega) _
  have z2 : w.heap.size + 1 + 1 < W0.heap.size := by subst hW; simp
  have x0 : W0.cell? ⟨w.heap.size, 0, none⟩ = some u0 := by subst hW; go_simp
  have x1 : W0.cell? ⟨w.heap.size, 1, none⟩ = some u1 := by subst hW; go_simp
  have x2 : W0.cell? ⟨w.heap.size, 2, none⟩ = some u2 := by subst hW; go_simp
  have x3 : W0.cell? ⟨w.heap.size, 3, none⟩ = some u3 := by subst hW; go_simp
  have y0 : W0.cell? ⟨w.heap.size + 1, 0, none⟩ = some v0 := by subst hW; go_simp
  have y1 : W0.cell? ⟨w.heap.size + 1, 1, none⟩ = some v1 := by subst hW; go_simp
  have y2 : W0.cell? ⟨w.heap.size + 1, 2, none⟩ = some v2 := by subst hW; go_simp
  have y3 : W0.cell? ⟨w.heap.size + 1, 3, none⟩ = some v3 := by subst hW; go_simp
  have d0 : W0.cell? ⟨w.heap.size + 1 + 1, 0, none⟩ = some (.int .i64 dom) := by subst hW; go_simp
  have z0 : w.heap.size < W0.heap.size := by omega
  have z1 : w.heap.size + 1 < W0.heap.size := by omega
  have hA := hid ((Kp.of hB).ex ha)
  have hBx := hid ((Kp.of hB).ex hb)
  have HB := hid hB
  have hWx := hid hW
  clear hW hB ha hb
  go_enter Tryz.func89, Tryz.ntmps89
  go_wp2_with (first
    | (go_at_call 46
       rw [← hWx.out]
       with_reducible refine (forms_any W0).mono ?_
       rintro e w1 ⟨mb, rfl, hmb, hM, hb1⟩
       have hK1 : Kp W0 w1 := Kp.of hb1)
    | (refine wpList_look_of _ rfl _ _ 90 3 105 rfl Tryz.underlying90 Tryz.underlying3 _ (zeroForm _) _ _ rfl hM _ (by rfl) _ Hget.out ?_)
    | fail)
  generalize hW2 : World.alloc w1 _ = W2
  have hK2 : Kp W0 W2 := by subst hW2; exact hK1.alloc _
  have q0 : W2.cell? ⟨w1.heap.size, 0, none⟩ = some (.bool i0) := by subst hW2; go_simp
  have q1 : W2.cell? ⟨w1.heap.size, 1, none⟩ = some (.bool i1) := by subst hW2; go_simp
  have q2 : W2.cell? ⟨w1.heap.size, 2, none⟩ = some (.bool i2) := by subst hW2; go_simp
  have q3 : W2.cell? ⟨w1.heap.size, 3, none⟩ = some (.bool i3) := by subst hW2; go_simp
  have zf : w1.heap.size < W2.heap.size := by subst hW2; simp
  have d2 : W2.cell? ⟨w.heap.size + 1 + 1, 0, none⟩ = some (.int .i64 dom) := (hK2.2 _ _ z2).trans d0
  have s2 := hK2.1.size
  have a0 : W2.cell? ⟨w.heap.size, 0, none⟩ = some u0 := (hK2.2 _ _ z0).trans x0
  have a1 : W2.cell? ⟨w.heap.size, 1, none⟩ = some u1 := (hK2.2 _ _ z0).trans x1
  have a2 : W2.cell? ⟨w.heap.size, 2, none⟩ = some u2 := (hK2.2 _ _ z0).trans x2
  have a3 : W2.cell? ⟨w.heap.size, 3, none⟩ = some u3 := (hK2.2 _ _ z0).trans x3
  have b0 : W2.cell? ⟨w.heap.size + 1, 0, none⟩ = some v0 := (hK2.2 _ _ z1).trans y0
  have b1 : W2.cell? ⟨w.heap.size + 1, 1, none⟩ = some v1 := (hK2.2 _ _ z1).trans y1
  have b2 : W2.cell? ⟨w.heap.size + 1, 2, none⟩ = some v2 := (hK2.2 _ _ z1).trans y2
  have b3 : W2.cell? ⟨w.heap.size + 1, 3, none⟩ = some v3 := (hK2.2 _ _ z1).trans y3
  have zd : w.heap.size + 1 + 1 < W2.heap.size := by omega
  have za : w.heap.size < W2.heap.size := by omega
  have zb : w.heap.size + 1 < W2.heap.size := by omega
  have HA2 := hid (hK2.ex hA.out)
  have HB2 := hid (hK2.ex hBx.out)
  have HB := hid (Kp.fin HB.out hK2)
  have hn1 := hid (number_any reg 4 i0 W2)
  have hn2 := hid (number_any v vars i1 W2)
  have ho1 := hid (one_any dom a i2 (w.heap.size + 1 + 1) [u0, u1, u2, u3] W2 HA2.out zd d2)
  have ho2 : Hid (∀ w3, Kp W2 w3 → Calls Tryz.prog 117 #[.agg #[v0, v1, v2, v3], .bool i3, .pointer (some ⟨w.heap.size + 1 + 1, 0, none⟩)] w3 fun e w' => e = .returned (.bool (oneL b dom i3)) ∧ Below w3.heap.size w3 w') := fun w3 h3 =>
    one_any dom b i3 (w.heap.size + 1 + 1) [v0, v1, v2, v3] w3 (h3.ex HB2.out) (Nat.lt_of_lt_of_le zd h3.1.size) ((h3.2 _ _ zd).trans d2)
  clear hW2 hK1 hK2 hM hb1 hA hBx hWx x0 x1 x2 x3 y0 y1 y2 y3 d0 Hget hst hmb hf1 HA2 HB2
  generalize w1.heap.size = fb at *
  generalize numL reg 4 i0 = r1 at *
  generalize numL v vars i1 = r2 at *
  generalize oneL a dom i2 = r3 at *
  generalize oneL b dom i3 = r4 at *
  refine hn1.out.mono ?_
  rintro e w3 ⟨rfl, rfl⟩
  cases r1
  · go_wp2_with fail
    go_ret
    exact ⟨ret_bool (by rw [hp.out]; rfl), HB.out⟩
  go_wp2_with fail
  refine hn2.out.mono ?_
  rintro e w3 ⟨rfl, rfl⟩
  cases r2
  · go_wp2_with fail
    go_ret
    exact ⟨ret_bool (by rw [hp.out]; rfl), HB.out⟩
  go_wp2_with fail
  refine ho1.out.mono ?_
  rintro e w4 ⟨rfl, hb4⟩
  have hK4 : Kp _ w4 := Kp.of hb4
  cases r3
  · go_wp2_with fail
    go_ret
    exact ⟨ret_bool (by rw [hp.out]; rfl), Kp.fin HB.out hK4⟩
  go_wp2_with fail
  refine (ho2.out w4 hK4).mono ?_
  rintro e w5 ⟨rfl, hb5⟩
  go_wp2_with fail
  go_ret
  exact ⟨ret_bool (by rw [hp.out]; rfl), Kp.fin HB.out (hK4.next hb5)⟩
end Go.Proofs.YtphlbbnmligadaaGreatDoor
