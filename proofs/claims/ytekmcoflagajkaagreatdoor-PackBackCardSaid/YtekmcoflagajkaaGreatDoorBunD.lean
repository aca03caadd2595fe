/- The program's word on what an instruction may be. -/
import Derived.Test.YtekmcoflagajkaaGreatDoorTreE
import Derived.Test.YtekmcoflagajkaaGreatDoorBunS
namespace Go.Proofs.YtekmcoflagajkaaGreatDoor
open Go.RowKit

theorem leads_any (op : Int) (w : World) : Calls Tryz.prog 73 #[.int .i64 op] w fun e w' => e = .returned (.bool (op == 12 || op == 13)) ∧ w' = w := by
  go_enter Tryz.func73, Tryz.ntmps73
  cases h : (op == 12)
  all_goals
    go_wp2_with fail
    go_ret
    exact ⟨ret_bool (by simp), rfl⟩

theorem kget (k : Int) : mget (.int .i64 0) k ([] ++ [(12, .int .i64 9)] ++ [(13, .int .i64 4)]) = .int .i64 (if k = 12 then 9 else if k = 13 then 4 else 0) := by
  simp only [List.nil_append, List.cons_append, mget]
  split
  · rfl
  split
  · rfl
  rfl

set_option maxRecDepth 100000 in
set_option maxHeartbeats 8000000 in
theorem insRight_any (vars dom many : Int) (tv : Value) (x : Ins) (cs : List Value) (w : World) (hin : InsIn w (In_ w) cs x) :
    Calls Tryz.prog 62 #[.agg #[.int .i64 vars, .int .i64 dom, tv], .agg cs.toArray, .int .i64 many] w fun e w' => e = .returned (.bool (insL vars dom x many)) ∧ Below w.heap.size w w' := by
  obtain ⟨u0, u1, u2, u3, v0, v1, v2, v3, rfl, ha, hb⟩ := hin
  obtain ⟨op, reg, v, xa, xb, to⟩ := x
  simp only at ha hb
  have hmm := @run_makeMap Tryz.prog
  obtain ⟨W0, hW⟩ : ∃ W0, W0 = (w.alloc (.cells #[.int .i64 vars, .int .i64 dom, tv] 25)).alloc (.cells #[.int .i64 op, .int .i64 reg, .int .i64 v, u0, u1, u2, u3, v0, v1, v2, v3, .int .i64 to] 103) := ⟨_, rfl⟩
  have hB : Below w.heap.size w W0 := by subst hW; exact ((Below.refl _ _).alloc (Nat.le_refl _) _).alloc (by simp) _
  have hz : W0.heap.size = w.heap.size + 1 + 1 := by subst hW; simp
  have hM0 : MapIs (W0.alloc (.map #[] 0)) (w.heap.size + 1 + 1) [] := by rw [← hz]; exact MapIs.made _
  have c0 : W0.cell? ⟨w.heap.size, 0, none⟩ = some (.int .i64 vars) := by subst hW; go_simp
  have c1 : W0.cell? ⟨w.heap.size, 1, none⟩ = some (.int .i64 dom) := by subst hW; go_simp
  have x0 : W0.cell? ⟨w.heap.size + 1, 0, none⟩ = some (.int .i64 op) := by subst hW; go_simp
  have x1 : W0.cell? ⟨w.heap.size + 1, 1, none⟩ = some (.int .i64 reg) := by subst hW; go_simp
  have x2 : W0.cell? ⟨w.heap.size + 1, 2, none⟩ = some (.int .i64 v) := by subst hW; go_simp
  have a0 : W0.cell? ⟨w.heap.size + 1, 3, none⟩ = some u0 := by subst hW; go_simp
  have a1 : W0.cell? ⟨w.heap.size + 1, 4, none⟩ = some u1 := by subst hW; go_simp
  have a2 : W0.cell? ⟨w.heap.size + 1, 5, none⟩ = some u2 := by subst hW; go_simp
  have a3 : W0.cell? ⟨w.heap.size + 1, 6, none⟩ = some u3 := by subst hW; go_simp
  have b0 : W0.cell? ⟨w.heap.size + 1, 7, none⟩ = some v0 := by subst hW; go_simp
  have b1 : W0.cell? ⟨w.heap.size + 1, 8, none⟩ = some v1 := by subst hW; go_simp
  have b2 : W0.cell? ⟨w.heap.size + 1, 9, none⟩ = some v2 := by subst hW; go_simp
  have b3 : W0.cell? ⟨w.heap.size + 1, 10, none⟩ = some v3 := by subst hW; go_simp
  have x3 : W0.cell? ⟨w.heap.size + 1, 11, none⟩ = some (.int .i64 to) := by subst hW; go_simp
  have z0 : w.heap.size < W0.heap.size := by omega
  have z1 : w.heap.size + 1 < W0.heap.size := by omega
  have hA := hid ((Kp.of hB).ex ha)
  have hBx := hid ((Kp.of hB).ex hb)
  have hM0x := hM0
  rw [hW] at hM0x
  have HB := hid hB
  have hWx := hid hW
  clear hW hB ha hb hM0
  have hpart : Hid (∀ k w3, Kp W0 w3 → Calls Tryz.prog 74 #[.int .i64 k, .int .i64 reg, .int .i64 v, .agg #[u0, u1, u2, u3], .agg #[v0, v1, v2, v3], .int .i64 vars, .int .i64 dom] w3 fun e w' => e = .returned (.bool (partL k reg v xa xb vars dom)) ∧ Below w3.heap.size w3 w') := fun k w3 h3 =>
    pPart_any k reg v xa xb vars dom [u0, u1, u2, u3] [v0, v1, v2, v3] w3 (h3.ex hA.out) (h3.ex hBx.out)
  have hres : Hid (insL vars dom ⟨op, reg, v, xa, xb, to⟩ many = (decide (1 ≤ insK op) && decide (insK op ≤ 9) && decide (0 ≤ to) && decide (to ≤ insT op many) && partL (insK op) reg v xa xb vars dom)) := rfl
  clear hA hBx
  go_enter Tryz.func62, Tryz.ntmps62
  have hM0y : MapIs (W0.alloc (.map #[] 0)) (w.heap.size + 1 + 1) [] := by rw [← hz]; exact MapIs.made _
  have hget := hid (kget op)
  go_wp2_with fail
  rw [← hWx.out]
  refine (leads_any op W0).mono ?_
  rintro e wl ⟨rfl, hwl⟩
  subst wl
  by_cases h12 : op = 12 ∨ op = 13
  · have hT : Hid (insT op many = many) := by show _ = _; unfold insT; rw [if_pos h12]
    rcases h12 with rfl | rfl
    all_goals
      by_cases t0 : 0 ≤ to
      case neg =>
        go_wp2_with (first
          | (go_at_call 73; (first | rw [← hWx.out] | skip); (with_reducible refine (leads_any _ _).mono ?_); rintro e wl ⟨rfl, rfl⟩)
          | (refine wpList_put_of _ rfl _ _ _ 133 3 3 rfl Tryz.underlying133 Tryz.underlying3 _ _ rfl hM0y 12 (by rfl) (.int .i64 9) (by rfl) rfl ?_; intro w1 hM1 hg1; have hK1 : Kp W0 w1 := ((Kp.refl W0).alloc _).put (by omega) hg1)
          | (refine wpList_put_of _ rfl _ _ _ 133 3 3 rfl Tryz.underlying133 Tryz.underlying3 _ _ rfl hM1 13 (by rfl) (.int .i64 4) (by rfl) rfl ?_; intro w2 hM2 hg2; have hK2 : Kp W0 w2 := hK1.put (by omega) hg2; clear hK1 hg1 hg2 hM1)
          | (refine wpList_look_of _ rfl _ _ 133 3 3 rfl Tryz.underlying133 Tryz.underlying3 _ (zeroInt _) _ _ rfl hM2 _ (by rfl) _ hget.out ?_)
          | (go_at_call 74; (with_reducible refine (hpart.out _ _ hK2).mono ?_); rintro e w3 ⟨rfl, hb3⟩; have hK3 := hK2.next hb3)
          | (go_at_call 74; (with_reducible refine (hpart.out _ _ (Kp.refl W0)).mono ?_); rintro e w3 ⟨rfl, hb3⟩; have hK3 : Kp W0 w3 := Kp.of hb3)
          | fail)
        go_ret
        exact ⟨ret_bool (by rw [hres.out, decide_eq_false (show ¬ 0 ≤ to by omega)]; simp), Kp.fin HB.out hK2⟩
      by_cases t1 : to ≤ many
      case neg =>
        have t2 : decide (to ≤ many) = false := decide_eq_false t1
        clear t1
        go_wp2_with (first
          | (go_at_call 73; (first | rw [← hWx.out] | skip); (with_reducible refine (leads_any _ _).mono ?_); rintro e wl ⟨rfl, rfl⟩)
          | (refine wpList_put_of _ rfl _ _ _ 133 3 3 rfl Tryz.underlying133 Tryz.underlying3 _ _ rfl hM0y 12 (by rfl) (.int .i64 9) (by rfl) rfl ?_; intro w1 hM1 hg1; have hK1 : Kp W0 w1 := ((Kp.refl W0).alloc _).put (by omega) hg1)
          | (refine wpList_put_of _ rfl _ _ _ 133 3 3 rfl Tryz.underlying133 Tryz.underlying3 _ _ rfl hM1 13 (by rfl) (.int .i64 4) (by rfl) rfl ?_; intro w2 hM2 hg2; have hK2 : Kp W0 w2 := hK1.put (by omega) hg2; clear hK1 hg1 hg2 hM1)
          | (refine wpList_look_of _ rfl _ _ 133 3 3 rfl Tryz.underlying133 Tryz.underlying3 _ (zeroInt _) _ _ rfl hM2 _ (by rfl) _ hget.out ?_)
          | (go_at_call 74; (with_reducible refine (hpart.out _ _ hK2).mono ?_); rintro e w3 ⟨rfl, hb3⟩; have hK3 := hK2.next hb3)
          | (go_at_call 74; (with_reducible refine (hpart.out _ _ (Kp.refl W0)).mono ?_); rintro e w3 ⟨rfl, hb3⟩; have hK3 : Kp W0 w3 := Kp.of hb3)
          | fail)
        go_ret
        exact ⟨ret_bool (by rw [hres.out, hT.out, t2]; simp), Kp.fin HB.out hK2⟩
      go_wp2_with (first
        | (go_at_call 73; (first | rw [← hWx.out] | skip); (with_reducible refine (leads_any _ _).mono ?_); rintro e wl ⟨rfl, rfl⟩)
        | (refine wpList_put_of _ rfl _ _ _ 133 3 3 rfl Tryz.underlying133 Tryz.underlying3 _ _ rfl hM0y 12 (by rfl) (.int .i64 9) (by rfl) rfl ?_; intro w1 hM1 hg1; have hK1 : Kp W0 w1 := ((Kp.refl W0).alloc _).put (by omega) hg1)
        | (refine wpList_put_of _ rfl _ _ _ 133 3 3 rfl Tryz.underlying133 Tryz.underlying3 _ _ rfl hM1 13 (by rfl) (.int .i64 4) (by rfl) rfl ?_; intro w2 hM2 hg2; have hK2 : Kp W0 w2 := hK1.put (by omega) hg2; clear hK1 hg1 hg2 hM1)
        | (refine wpList_look_of _ rfl _ _ 133 3 3 rfl Tryz.underlying133 Tryz.underlying3 _ (zeroInt _) _ _ rfl hM2 _ (by rfl) _ hget.out ?_)
        | (go_at_call 74; (with_reducible refine (hpart.out _ _ hK2).mono ?_); rintro e w3 ⟨rfl, hb3⟩; have hK3 := hK2.next hb3)
        | (go_at_call 74; (with_reducible refine (hpart.out _ _ (Kp.refl W0)).mono ?_); rintro e w3 ⟨rfl, hb3⟩; have hK3 : Kp W0 w3 := Kp.of hb3)
        | fail)
      go_ret
      exact ⟨ret_bool (by rw [hres.out, decide_eq_true (show 0 ≤ to by omega), hT.out, decide_eq_true (show to ≤ many by omega)]; rfl), Kp.fin HB.out hK3⟩
  · have e12 : (op == 12) = false := by simp; omega
    have e13 : (op == 13) = false := by simp; omega
    have hk : Hid (insK op = op) := by show _ = _; unfold insK; rw [if_neg (by omega), if_neg (by omega)]
    have hT : Hid (insT op many = 0) := by show _ = _; unfold insT; rw [if_neg h12]
    clear h12
    by_cases k0 : 1 ≤ op
    case neg =>
      go_wp2_with (first
        | (go_at_call 73; (first | rw [← hWx.out] | skip); (with_reducible refine (leads_any _ _).mono ?_); rintro e wl ⟨rfl, rfl⟩)
        | (refine wpList_put_of _ rfl _ _ _ 133 3 3 rfl Tryz.underlying133 Tryz.underlying3 _ _ rfl hM0y 12 (by rfl) (.int .i64 9) (by rfl) rfl ?_; intro w1 hM1 hg1; have hK1 : Kp W0 w1 := ((Kp.refl W0).alloc _).put (by omega) hg1)
        | (refine wpList_put_of _ rfl _ _ _ 133 3 3 rfl Tryz.underlying133 Tryz.underlying3 _ _ rfl hM1 13 (by rfl) (.int .i64 4) (by rfl) rfl ?_; intro w2 hM2 hg2; have hK2 : Kp W0 w2 := hK1.put (by omega) hg2; clear hK1 hg1 hg2 hM1)
        | (refine wpList_look_of _ rfl _ _ 133 3 3 rfl Tryz.underlying133 Tryz.underlying3 _ (zeroInt _) _ _ rfl hM2 _ (by rfl) _ hget.out ?_)
        | (go_at_call 74; (with_reducible refine (hpart.out _ _ hK2).mono ?_); rintro e w3 ⟨rfl, hb3⟩; have hK3 := hK2.next hb3)
        | (go_at_call 74; (with_reducible refine (hpart.out _ _ (Kp.refl W0)).mono ?_); rintro e w3 ⟨rfl, hb3⟩; have hK3 : Kp W0 w3 := Kp.of hb3)
        | fail)
      go_ret
      exact ⟨ret_bool (by rw [hres.out, hk.out, hT.out, decide_eq_false (show ¬ 1 ≤ op by omega)]; simp), Kp.fin HB.out (Kp.refl _)⟩
    by_cases k1 : op ≤ 9
    case neg =>
      go_wp2_with (first
        | (go_at_call 73; (first | rw [← hWx.out] | skip); (with_reducible refine (leads_any _ _).mono ?_); rintro e wl ⟨rfl, rfl⟩)
        | (refine wpList_put_of _ rfl _ _ _ 133 3 3 rfl Tryz.underlying133 Tryz.underlying3 _ _ rfl hM0y 12 (by rfl) (.int .i64 9) (by rfl) rfl ?_; intro w1 hM1 hg1; have hK1 : Kp W0 w1 := ((Kp.refl W0).alloc _).put (by omega) hg1)
        | (refine wpList_put_of _ rfl _ _ _ 133 3 3 rfl Tryz.underlying133 Tryz.underlying3 _ _ rfl hM1 13 (by rfl) (.int .i64 4) (by rfl) rfl ?_; intro w2 hM2 hg2; have hK2 : Kp W0 w2 := hK1.put (by omega) hg2; clear hK1 hg1 hg2 hM1)
        | (refine wpList_look_of _ rfl _ _ 133 3 3 rfl Tryz.underlying133 Tryz.underlying3 _ (zeroInt _) _ _ rfl hM2 _ (by rfl) _ hget.out ?_)
        | (go_at_call 74; (with_reducible refine (hpart.out _ _ hK2).mono ?_); rintro e w3 ⟨rfl, hb3⟩; have hK3 := hK2.next hb3)
        | (go_at_call 74; (with_reducible refine (hpart.out _ _ (Kp.refl W0)).mono ?_); rintro e w3 ⟨rfl, hb3⟩; have hK3 : Kp W0 w3 := Kp.of hb3)
        | fail)
      go_ret
      exact ⟨ret_bool (by rw [hres.out, hk.out, hT.out, decide_eq_false (show ¬ op ≤ 9 by omega)]; simp), Kp.fin HB.out (Kp.refl _)⟩
    by_cases t0 : 0 ≤ to
    case neg =>
      go_wp2_with (first
        | (go_at_call 73; (first | rw [← hWx.out] | skip); (with_reducible refine (leads_any _ _).mono ?_); rintro e wl ⟨rfl, rfl⟩)
        | (refine wpList_put_of _ rfl _ _ _ 133 3 3 rfl Tryz.underlying133 Tryz.underlying3 _ _ rfl hM0y 12 (by rfl) (.int .i64 9) (by rfl) rfl ?_; intro w1 hM1 hg1; have hK1 : Kp W0 w1 := ((Kp.refl W0).alloc _).put (by omega) hg1)
        | (refine wpList_put_of _ rfl _ _ _ 133 3 3 rfl Tryz.underlying133 Tryz.underlying3 _ _ rfl hM1 13 (by rfl) (.int .i64 4) (by rfl) rfl ?_; intro w2 hM2 hg2; have hK2 : Kp W0 w2 := hK1.put (by omega) hg2; clear hK1 hg1 hg2 hM1)
        | (refine wpList_look_of _ rfl _ _ 133 3 3 rfl Tryz.underlying133 Tryz.underlying3 _ (zeroInt _) _ _ rfl hM2 _ (by rfl) _ hget.out ?_)
        | (go_at_call 74; (with_reducible refine (hpart.out _ _ hK2).mono ?_); rintro e w3 ⟨rfl, hb3⟩; have hK3 := hK2.next hb3)
        | (go_at_call 74; (with_reducible refine (hpart.out _ _ (Kp.refl W0)).mono ?_); rintro e w3 ⟨rfl, hb3⟩; have hK3 : Kp W0 w3 := Kp.of hb3)
        | fail)
      go_ret
      exact ⟨ret_bool (by rw [hres.out, hk.out, hT.out, decide_eq_false (show ¬ 0 ≤ to by omega)]; simp), Kp.fin HB.out (Kp.refl _)⟩
    by_cases t1 : to ≤ 0
    case neg =>
      have t2 : decide (to ≤ 0) = false := decide_eq_false t1
      clear t1
      go_wp2_with (first
        | (go_at_call 73; (first | rw [← hWx.out] | skip); (with_reducible refine (leads_any _ _).mono ?_); rintro e wl ⟨rfl, rfl⟩)
        | (refine wpList_put_of _ rfl _ _ _ 133 3 3 rfl Tryz.underlying133 Tryz.underlying3 _ _ rfl hM0y 12 (by rfl) (.int .i64 9) (by rfl) rfl ?_; intro w1 hM1 hg1; have hK1 : Kp W0 w1 := ((Kp.refl W0).alloc _).put (by omega) hg1)
        | (refine wpList_put_of _ rfl _ _ _ 133 3 3 rfl Tryz.underlying133 Tryz.underlying3 _ _ rfl hM1 13 (by rfl) (.int .i64 4) (by rfl) rfl ?_; intro w2 hM2 hg2; have hK2 : Kp W0 w2 := hK1.put (by omega) hg2; clear hK1 hg1 hg2 hM1)
        | (refine wpList_look_of _ rfl _ _ 133 3 3 rfl Tryz.underlying133 Tryz.underlying3 _ (zeroInt _) _ _ rfl hM2 _ (by rfl) _ hget.out ?_)
        | (go_at_call 74; (with_reducible refine (hpart.out _ _ hK2).mono ?_); rintro e w3 ⟨rfl, hb3⟩; have hK3 := hK2.next hb3)
        | (go_at_call 74; (with_reducible refine (hpart.out _ _ (Kp.refl W0)).mono ?_); rintro e w3 ⟨rfl, hb3⟩; have hK3 : Kp W0 w3 := Kp.of hb3)
        | fail)
      go_ret
      exact ⟨ret_bool (by rw [hres.out, hk.out, hT.out, t2]; simp), Kp.fin HB.out (Kp.refl _)⟩
    go_wp2_with (first
      | (go_at_call 73; (first | rw [← hWx.out] | skip); (with_reducible refine (leads_any _ _).mono ?_); rintro e wl ⟨rfl, rfl⟩)
      | (refine wpList_put_of _ rfl _ _ _ 133 3 3 rfl Tryz.underlying133 Tryz.underlying3 _ _ rfl hM0y 12 (by rfl) (.int .i64 9) (by rfl) rfl ?_; intro w1 hM1 hg1; have hK1 : Kp W0 w1 := ((Kp.refl W0).alloc _).put (by omega) hg1)
      | (refine wpList_put_of _ rfl _ _ _ 133 3 3 rfl Tryz.underlying133 Tryz.underlying3 _ _ rfl hM1 13 (by rfl) (.int .i64 4) (by rfl) rfl ?_; intro w2 hM2 hg2; have hK2 : Kp W0 w2 := hK1.put (by omega) hg2; clear hK1 hg1 hg2 hM1)
      | (refine wpList_look_of _ rfl _ _ 133 3 3 rfl Tryz.underlying133 Tryz.underlying3 _ (zeroInt _) _ _ rfl hM2 _ (by rfl) _ hget.out ?_)
      | (go_at_call 74; (with_reducible refine (hpart.out _ _ hK2).mono ?_); rintro e w3 ⟨rfl, hb3⟩; have hK3 := hK2.next hb3)
      | (go_at_call 74; (with_reducible refine (hpart.out _ _ (Kp.refl W0)).mono ?_); rintro e w3 ⟨rfl, hb3⟩; have hK3 : Kp W0 w3 := Kp.of hb3)
      | fail)
    go_ret
    exact ⟨ret_bool (by rw [hres.out, hk.out, hT.out, decide_eq_true (show 1 ≤ op by omega), decide_eq_true (show op ≤ 9 by omega), decide_eq_true (show 0 ≤ to by omega), decide_eq_true (show to ≤ 0 by omega)]; simp), Kp.fin HB.out hK3⟩
end Go.Proofs.YtekmcoflagajkaaGreatDoor
namespace Go.Proofs.YtekmcoflagajkaaGreatDoor
open Go.RowKit

set_option maxHeartbeats 2000000 in
theorem oddIns_any (vars dom : Int) (tv : Value) (x : Ins) (bc bl : Nat) (ar : Option Addr) (n kr : Nat) (cs : List Value) (w : World) (hin : InsIn w (In_ w) cs x)
    (hbc : bc < w.heap.size) (c0 : w.cell? ⟨bc, 0, none⟩ = some (.int .i64 vars)) (c1 : w.cell? ⟨bc, 1, none⟩ = some (.int .i64 dom)) (c2 : w.cell? ⟨bc, 2, none⟩ = some tv)
    (hbl : bl < w.heap.size) (d0 : w.cell? ⟨bl, 0, none⟩ = some (.slice ar n kr)) :
    Calls Tryz.prog 61 #[.agg cs.toArray, .pointer (some ⟨bc, 0, none⟩), .pointer (some ⟨bl, 0, none⟩)] w fun e w' => e = .returned (.bool (!insL vars dom x n)) ∧ Below w.heap.size w w' := by
  have hin2 := hin
  obtain ⟨u0, u1, u2, u3, v0, v1, v2, v3, rfl, ha, hb⟩ := hin
  have hfb : Below w.heap.size w (w.alloc (.cells #[.int .i64 x.op, .int .i64 x.reg, .int .i64 x.v, u0, u1, u2, u3, v0, v1, v2, v3, .int .i64 x.to] 103)) := (Below.refl _ _).alloc (Nat.le_refl _) _
  have hcall := hid (insRight_any vars dom n tv x _ _ ((Kp.of hfb).ins hin2))
  clear hin2 ha hb
  generalize insL vars dom x n = r at *
  obtain ⟨op, reg, v, xa, xb, to⟩ := x
  simp only at hfb hcall
  go_enter Tryz.func61, Tryz.ntmps61
  go_wp2_with (first
    | (go_at_call 62; (with_reducible refine hcall.out.mono ?_); rintro e w1 ⟨rfl, hb3⟩)
    | fail)
  go_ret
  exact ⟨rfl, hfb.trans (hb3.mono hfb.size)⟩

set_option maxHeartbeats 4000000 in
theorem insIndex_any (vars dom : Int) (tv : Value) (l : List Ins) (bc bl : Nat) (a : Option Addr) (cap : Nat) (ar : Option Addr) (n kr : Nat) (w : World) (hin : InsRow w (In_ w) a l.length cap l)
    (hbc : bc < w.heap.size) (c0 : w.cell? ⟨bc, 0, none⟩ = some (.int .i64 vars)) (c1 : w.cell? ⟨bc, 1, none⟩ = some (.int .i64 dom)) (c2 : w.cell? ⟨bc, 2, none⟩ = some tv)
    (hbl : bl < w.heap.size) (d0 : w.cell? ⟨bl, 0, none⟩ = some (.slice ar n kr)) :
    Calls Tryz.prog 72 #[.slice a l.length cap, .func (.func 61) #[] #[.pointer (some ⟨bc, 0, none⟩), .pointer (some ⟨bl, 0, none⟩)]] w (IdxPost w (l.any fun x => !insL vars dom x n)) := by
  have hcap := hin.le
  have hmx := hin.mx
  unfold maxLen at hmx
  have hin := hid hin
  go_enter Tryz.func72, Tryz.ntmps72
  go_wp2_with fail
  go_loopw [8] (fun i wr => ∃ k : Nat, k ≤ l.length ∧ i = .int .i64 k ∧ Hid (((l.take k).any fun x => !insL vars dom x n) = false) ∧ Kp w wr) (fun i _ => l.length - (intOf i).toNat)
  case atStart => exact ⟨0, Nat.zero_le _, rfl, (rfl : _ = _), Kp.refl _⟩
  case round =>
    obtain ⟨k, hk, rfl, hno, hK⟩ := hrel
    by_cases hlt : k < l.length
    · obtain ⟨bb, off, u0, u1, u2, u3, v0, v1, v2, v3, rfl, hbb, ⟨e0, e1, e2⟩, ⟨e3, e4, e5, e6⟩, ⟨e7, e8, e9, e10⟩, e11, hxa, hxb⟩ := hin.out.at_ k hlt
      have hbl' := hbb.lt
      have k0 : (0 : Int) ≤ k := by omega
      have k1 : (k : Int) < l.length := by omega
      have g0 := hK.1.size
      have g1 : bc < wr.heap.size := by omega
      have g2 : bl < wr.heap.size := by omega
      have g3 : bb < wr.heap.size := by omega
      have hcall := hid (oddIns_any vars dom tv l[k] bc bl ar n kr [.int .i64 l[k].op, .int .i64 l[k].reg, .int .i64 l[k].v, u0, u1, u2, u3, v0, v1, v2, v3, .int .i64 l[k].to] wr ⟨u0, u1, u2, u3, v0, v1, v2, v3, rfl, hK.ex hxa, hK.ex hxb⟩ g1 ((hK.2 _ _ hbc).trans c0) ((hK.2 _ _ hbc).trans c1) ((hK.2 _ _ hbc).trans c2) g2 ((hK.2 _ _ hbl).trans d0))
      have htk : Hid (((l.take (k + 1)).any fun x => !insL vars dom x n) = !insL vars dom l[k] n) := by
        show _ = _
        rw [List.take_succ_eq_append_getElem hlt, List.any_append, hno.out]
        simp
      have hall : Hid (insL vars dom l[k] n = false → (l.any fun x => !insL vars dom x n) = true) := by
        intro h
        exact List.any_eq_true.2 ⟨l[k], List.getElem_mem hlt, by simp [h]⟩
      clear hno hxa hxb
      cases hf : insL vars dom l[k] n
      · rw [hf] at hcall htk
        go_wp2_with (first
          | (go_at_call 61
             with_reducible refine hcall.out.mono ?_
             rintro e w1 ⟨rfl, hb3⟩)
          | fail)
        go_ret
        exact ⟨k, rfl, by rw [hall.out hf]; simp, hK.1.trans (hb3.mono hK.1.size)⟩
      · rw [hf] at hcall htk
        go_wp2_with (first
          | (go_at_call 61
             with_reducible refine hcall.out.mono ?_
             rintro e w1 ⟨rfl, hb3⟩)
          | fail)
        go_roundw
        case rel => exact ⟨k + 1, by omega, by simp, htk, hK.next hb3⟩
        case measure => simp [intOf]; omega
    · obtain rfl : k = l.length := by omega
      rw [List.take_length] at hno
      go_wp2_with fail
      go_ret
      exact ⟨-1, rfl, by rw [hno.out]; rfl, hK.1⟩

theorem insContains_any (vars dom : Int) (tv : Value) (l : List Ins) (bc bl : Nat) (a : Option Addr) (cap : Nat) (ar : Option Addr) (n kr : Nat) (w : World) (hin : InsRow w (In_ w) a l.length cap l)
    (hbc : bc < w.heap.size) (c0 : w.cell? ⟨bc, 0, none⟩ = some (.int .i64 vars)) (c1 : w.cell? ⟨bc, 1, none⟩ = some (.int .i64 dom)) (c2 : w.cell? ⟨bc, 2, none⟩ = some tv)
    (hbl : bl < w.heap.size) (d0 : w.cell? ⟨bl, 0, none⟩ = some (.slice ar n kr)) :
    Calls Tryz.prog 60 #[.slice a l.length cap, .func (.func 61) #[] #[.pointer (some ⟨bc, 0, none⟩), .pointer (some ⟨bl, 0, none⟩)]] w fun e w' => e = .returned (.bool (l.any fun x => !insL vars dom x n)) ∧ Below w.heap.size w w' := by
  have hcall := hid (insIndex_any vars dom tv l bc bl a cap ar n kr w hin hbc c0 c1 c2 hbl d0)
  clear hin
  generalize (l.any fun x => !insL vars dom x n) = y at *
  go_enter Tryz.func60, Tryz.ntmps60
  go_wp2_with (first
    | (go_at_call 72
       with_reducible refine hcall.out.mono ?_
       rintro e w1 ⟨r, rfl, hr, hb3⟩)
    | fail)
  go_ret
  exact ⟨rfl, hb3⟩
end Go.Proofs.YtekmcoflagajkaaGreatDoor
namespace Go.Proofs.YtekmcoflagajkaaGreatDoor
open Go.RowKit

theorem rowL_eq (vars dom : Int) (l : List Ins) : rowL vars dom l = (decide (l.length ≤ 600) && !(l.any fun x => !insL vars dom x l.length)) := by
  unfold rowL
  rw [List.all_eq_not_any_not]
theorem all_snoc {α : Type} (f : α → Bool) (t : List α) (k : Nat) (hk : k < t.length) (h : (t.take k).all f = true) : (t.take (k + 1)).all f = f t[k] := by
  rw [List.take_succ_eq_append_getElem hk, List.all_append, h]
  simp
theorem all_false {α : Type} (f : α → Bool) (t : List α) (k : Nat) (hk : k < t.length) (h : f t[k] = false) : t.all f = false := by
  rw [List.all_eq_false]
  exact ⟨t[k], List.getElem_mem hk, by simp [h]⟩

set_option maxRecDepth 100000 in
set_option maxHeartbeats 4000000 in
theorem right_any (vars dom : Int) (a : Option Addr) (n cap : Nat) (t : List (List Ins)) (w : World) (hin : ThsIn w (In_ w) a n cap t) :
    Calls Tryz.prog 48 #[.agg #[.int .i64 vars, .int .i64 dom, .slice a n cap]] w fun e w' => e = .returned (.bool (rightL vars dom t)) ∧ Below w.heap.size w w' := by
  have hn := hin.1
  subst hn
  have hcap := hin.le
  have hmx := hin.mx
  unfold maxLen at hmx
  have hres : Hid (rightL vars dom t = (decide (1 ≤ vars) && decide (vars ≤ 4) && decide (2 ≤ dom) && decide (dom ≤ 16) && decide (1 ≤ t.length) && decide (t.length ≤ 4) && t.all fun l => rowL vars dom l)) := rfl
  have hB : Below w.heap.size w (w.alloc (.cells #[.int .i64 vars, .int .i64 dom, .slice a t.length cap] 25)) := (Below.refl _ _).alloc (Nat.le_refl _) _
  have HB := hid hB
  have hin2 := hid ((Kp.of hB).ths hin)
  clear hin hB
  go_enter Tryz.func48, Tryz.ntmps48
  by_cases v1 : vars < 1
  · go_wp2_with fail
    go_ret
    exact ⟨ret_bool (by rw [hres.out, decide_eq_false (show ¬ 1 ≤ vars by omega)]; simp), HB.out⟩
  by_cases v4 : 4 < vars
  · go_wp2_with fail
    go_ret
    exact ⟨ret_bool (by rw [hres.out, decide_eq_false (show ¬ vars ≤ 4 by omega)]; simp), HB.out⟩
  by_cases d2 : dom < 2
  · go_wp2_with fail
    go_ret
    exact ⟨ret_bool (by rw [hres.out, decide_eq_false (show ¬ 2 ≤ dom by omega)]; simp), HB.out⟩
  by_cases d16 : 16 < dom
  · go_wp2_with fail
    go_ret
    exact ⟨ret_bool (by rw [hres.out, decide_eq_false (show ¬ dom ≤ 16 by omega)]; simp), HB.out⟩
  by_cases l1 : t.length < 1
  · go_wp2_with fail
    go_ret
    exact ⟨ret_bool (by rw [hres.out, decide_eq_false (show ¬ 1 ≤ t.length by omega)]; simp), HB.out⟩
  by_cases l4 : 4 < t.length
  · go_wp2_with fail
    go_ret
    exact ⟨ret_bool (by rw [hres.out, decide_eq_false (show ¬ t.length ≤ 4 by omega)]; simp), HB.out⟩
  have hres2 : Hid (rightL vars dom t = t.all fun l => rowL vars dom l) := by
    show _ = _
    rw [hres.out, decide_eq_true (show 1 ≤ vars by omega), decide_eq_true (show vars ≤ 4 by omega), decide_eq_true (show 2 ≤ dom by omega), decide_eq_true (show dom ≤ 16 by omega), decide_eq_true (show 1 ≤ t.length by omega), decide_eq_true (show t.length ≤ 4 by omega)]
    rfl
  clear hres
  go_wp2_with fail
  clear v1 v4 d2 d16 l1 l4
  generalize hW : World.alloc w _ = W0 at *
  have z0 : w.heap.size < W0.heap.size := by subst hW; simp
  have c0 : W0.cell? ⟨w.heap.size, 0, none⟩ = some (.int .i64 vars) := by subst hW; go_simp
  have c1 : W0.cell? ⟨w.heap.size, 1, none⟩ = some (.int .i64 dom) := by subst hW; go_simp
  have c2 : W0.cell? ⟨w.heap.size, 2, none⟩ = some (.slice a t.length cap) := by subst hW; go_simp
  clear hW
  go_loopw [38] (fun i wr => ∃ k : Nat, k ≤ t.length ∧ i = .int .i64 k ∧ Hid (((t.take k).all fun l => rowL vars dom l) = true) ∧ Kp W0 wr) (fun i _ => t.length - (intOf i).toNat)
  case atStart => exact ⟨0, Nat.zero_le _, rfl, (rfl : _ = _), Kp.refl _⟩
  case round =>
    obtain ⟨k, hk, rfl, hno, hK⟩ := hrel
    by_cases hlt : k < t.length
    · obtain ⟨bb, off, ar, kr, rfl, hbb, e0, hrow⟩ := hin2.out.at_ k hlt
      have hbl := hbb.lt
      have k0 : (0 : Int) ≤ k := by omega
      have k1 : (k : Int) < t.length := by omega
      have g0 := hK.1.size
      have g1 : w.heap.size < wr.heap.size := by omega
      have g3 : bb < wr.heap.size := by omega
      have htk := hid (all_snoc (fun l => rowL vars dom l) t k hlt hno.out)
      have hall := hid (all_false (fun l => rowL vars dom l) t k hlt)
      have hrl := hid (rowL_eq vars dom t[k])
      have hrc := hrow.le
      have hrm := hrow.mx
      unfold maxLen at hrm
      have hA : Kp W0 (wr.alloc (.cells #[.slice ar t[k].length kr] 79)) := hK.alloc _
      have hcall := hid (insContains_any vars dom (.slice (some ⟨bb, off, none⟩) t.length cap) t[k] w.heap.size wr.heap.size ar kr ar t[k].length kr _ (hA.row hrow) (by simp; omega) ((hA.2 _ _ z0).trans c0) ((hA.2 _ _ z0).trans c1) ((hA.2 _ _ z0).trans c2) (by simp) (by go_simp))
      clear hno hrow
      generalize (t[k].any fun x => !insL vars dom x t[k].length) = y at *
      generalize hl : t[k].length = m at *
      clear hl
      by_cases hm : 600 < m
      · have hf : Hid (rowL vars dom t[k] = false) := by
          show _ = _
          rw [hrl.out, decide_eq_false (by omega)]
          rfl
        clear hcall
        go_wp2_with fail
        go_ret
        exact ⟨ret_bool (by rw [hres2.out, hall.out hf.out]), Kp.fin HB.out hA⟩
      · have hrl2 : Hid (rowL vars dom t[k] = !y) := by
          show _ = _
          rw [hrl.out, decide_eq_true (by omega)]
          rfl
        cases y
        · go_wp2_with (first
            | (go_at_call 60
               with_reducible refine hcall.out.mono ?_
               rintro e w1 ⟨rfl, hb3⟩
               have hK3 := hA.next hb3)
            | fail)
          go_roundw
          case rel => exact ⟨k + 1, by omega, by simp, by show _ = _; rw [htk.out, hrl2.out]; rfl, hK3⟩
          case measure => simp [intOf]; omega
        · go_wp2_with (first
            | (go_at_call 60
               with_reducible refine hcall.out.mono ?_
               rintro e w1 ⟨rfl, hb3⟩
               have hK3 := hA.next hb3)
            | fail)
          go_ret
          exact ⟨ret_bool (by rw [hres2.out, hall.out (by rw [hrl2.out]; rfl)]), Kp.fin HB.out hK3⟩
    · obtain rfl : k = t.length := by omega
      rw [List.take_length] at hno
      go_wp2_with fail
      go_ret
      exact ⟨ret_bool (by rw [hres2.out, hno.out]), Kp.fin HB.out hK⟩
end Go.Proofs.YtekmcoflagajkaaGreatDoor
