/- The program's word on what an instruction may be. -/
import Derived.Test.YtcgpobeidlimkaaGreatDoorTreE
import Derived.Test.YtcgpobeidlimkaaGreatDoorCodM
namespace Go.Proofs.YtcgpobeidlimkaaGreatDoor
open Go.RowKit

theorem leads_any (op : Int) (w : World) : Calls Tryz.prog 40 #[.int .i64 op] w fun e w' => e = .returned (.bool (op == 12 || op == 13)) ∧ w' = w := by
  go_enter Tryz.func40, Tryz.ntmps40
  cases h : (op == 12)
  all_goals
    go_wp2_with fail
    go_ret
    exact ⟨ret_bool (by simp), rfl⟩

theorem kget (k : Int) : mget (.int .i64 0) k ([] ++ [(12, .int .i64 9)] ++ [(13, .int .i64 4)]) = .int .i64 (if k = 12 then 9 else if k = 13 then 4 else 0) := by
  simp only [List.nil_append, List.cons_append, mget]
  split
  · rfl
  split
  · rfl
  rfl

set_option maxRecDepth 100000 in
set_option maxHeartbeats 8000000 in
theorem insRight_any (vars dom many : Int) (tv : Value) (x : Ins) (cs : List Value) (w : World) (hin : InsIn w (In_ w) cs x) :
    Calls Tryz.prog 39 #[.agg #[.int .i64 vars, .int .i64 dom, tv], .agg cs.toArray, .int .i64 many] w fun e w' => e = .returned (.bool (insL vars dom x many)) ∧ Below w.heap.size w w' := by
  obtain ⟨u0, u1, u2, u3, v0, v1, v2, v3, rfl, ha, hb⟩ := hin
  obtain ⟨op, reg, v, xa, xb, to⟩ := x
  simp only at ha hb
  have hmm := @run_makeMap Tryz.prog
  obtain ⟨W0, hW⟩ : ∃ W0, W0 = (w.alloc (.cells #[.int .i64 vars, .int .i64 dom, tv] 30)).alloc (.cells #[.int .i64 op, .int .i64 reg, .int .i64 v, u0, u1, u2, u3, v0, v1, v2, v3, .int .i64 to] 48) := ⟨_, rfl⟩
  have hB : Below w.heap.size w W0 := by subst hW; exact ((Below.refl _ _).alloc (Nat.le_refl _) _).alloc (by simp) _
  have hz : W0.heap.size = w.heap.size + 1 + 1 := by subst hW; simp
  have hM0 : MapIs (W0.alloc (.map #[] 0)) (w.heap.size + 1 + 1) [] := by rw [← hz]; exact MapIs.made _
  have c0 : W0.cell? ⟨w.heap.size, 0, none⟩ = some (.int .i64 vars) := by subst hW; go_simp
  have c1 : W0.cell? ⟨w.heap.size, 1, none⟩ = some (.int .i64 dom) := by subst hW; go_simp
  have x0 : W0.cell? ⟨w.heap.size + 1, 0, none⟩ = some (.int .i64 op) := by subst hW; go_simp
  have x1 : W0.cell? ⟨w.heap.size + 1, 1, none⟩ = some (.int .i64 reg) := by subst hW; go_simp
  have x2 : W0.cell? ⟨w.heap.size + 1, 2, none⟩ = some (.int .i64 v) := by subst hW; go_simp
  have a0 : W0.cell? ⟨w.heap.size + 1, 3, none⟩ = some u0 := by subst hW; go_simp
  have a1 : W0.cell? ⟨w.heap.size + 1, 4, none⟩ = some u1 := by subst hW; go_simp
  have a2 : W0.cell? ⟨w.heap.size + 1, 5, none⟩ = some u2 := by subst hW; go_simp
  have a3 : W0.cell? ⟨w.heap.size + 1, 6, none⟩ = some u3 := by subst hW; go_simp
  have b0 : W0.cell? ⟨w.heap.size + 1, 7, none⟩ = some v0 := by subst hW; go_simp
  have b1 : W0.cell? ⟨w.heap.size + 1, 8, none⟩ = some v1 := by subst hW; go_simp
  have b2 : W0.cell? ⟨w.heap.size + 1, 9, none⟩ = some v2 := by subst hW; go_simp
  have b3 : W0.cell? ⟨w.heap.size + 1, 10, none⟩ = some v3 := by subst hW; go_simp
  have x3 : W0.cell? ⟨w.heap.size + 1, 11, none⟩ = some (.int .i64 to) := by subst hW; go_simp
  have z0 : w.heap.size < W0.heap.size := by omega
  have z1 : w.heap.size + 1 < W0.heap.size := by omega
  have hA := hid ((Kp.of hB).ex ha)
  have hBx := hid ((Kp.of hB).ex hb)
  have hM0x := hM0
  rw [hW] at hM0x
  have HB := hid hB
  have hWx := hid hW
  clear hW hB ha hb hM0
  have hpart : Hid (∀ k w3, Kp W0 w3 → Calls Tryz.prog 62 #[.int .i64 k, .int .i64 reg, .int .i64 v, .agg #[u0, u1, u2, u3], .agg #[v0, v1, v2, v3], .int .i64 vars, .int .i64 dom] w3 fun e w' => e = .returned (.bool (partL k reg v xa xb vars dom)) ∧ Below w3.heap.size w3 w') := fun k w3 h3 =>
    pPart_any k reg v xa xb vars dom [u0, u1, u2, u3] [v0, v1, v2, v3] w3 (h3.ex hA.out) (h3.ex hBx.out)
  have hres : Hid (insL vars dom ⟨op, reg, v, xa, xb, to⟩ many = (decide (1 ≤ insK op) && decide (insK op ≤ 9) && decide (0 ≤ to) && decide (to ≤ insT op many) && partL (insK op) reg v xa xb vars dom)) := rfl
  clear hA hBx
  go_enter Tryz.func39, Tryz.ntmps39
  have hM0y : MapIs (W0.alloc (.map #[] 0)) (w.heap.size + 1 + 1) [] := by rw [← hz]; exact MapIs.made _
  have hget := hid (kget op)
  go_wp2_with fail
  rw [← hWx.out]
  refine (leads_any op W0).mono ?_
  rintro e wl ⟨rfl, hwl⟩
  subst wl
  by_cases h12 : op = 12 ∨ op = 13
  · have hT : Hid (insT op many = many) := by show _ = _; unfold insT; rw [if_pos h12]
    rcases h12 with rfl | rfl
    all_goals
      by_cases t0 : 0 ≤ to
      case neg =>
        go_wp2_with (first
          | (go_at_call 40; (first | rw [← hWx.out] | skip); (with_reducible refine (leads_any _ _).mono ?_); rintro e wl ⟨rfl, rfl⟩)
          | (refine wpList_put_of _ rfl _ _ _ 97 3 3 rfl Tryz.underlying97 Tryz.underlying3 _ _ rfl hM0y 12 (by rfl) (.int .i64 9) (by rfl) rfl ?_; intro w1 hM1 hg1; have hK1 : Kp W0 w1 := ((Kp.refl W0).alloc _).put (by omega) hg1)
          | (refine wpList_put_of _ rfl _ _ _ 97 3 3 rfl Tryz.underlying97 Tryz.underlying3 _ _ rfl hM1 13 (by rfl) (.int .i64 4) (by rfl) rfl ?_; intro w2 hM2 hg2; have hK2 : Kp W0 w2 := hK1.put (by omega) hg2; clear hK1 hg1 hg2 hM1)
          | (refine wpList_look_of _ rfl _ _ 97 3 3 rfl Tryz.underlying97 Tryz.underlying3 _ (zeroInt _) _ _ rfl hM2 _ (by rfl) _ hget.out ?_)
          | (go_at_call 62; (with_reducible refine (hpart.out _ _ hK2).mono ?_); rintro e w3 ⟨rfl, hb3⟩; have hK3 := hK2.next hb3)
          | (go_at_call 62; (with_reducible refine (hpart.out _ _ (Kp.refl W0)).mono ?_); rintro e w3 ⟨rfl, hb3⟩; have hK3 : Kp W0 w3 := Kp.of hb3)
          | fail)
        go_ret
        exact ⟨ret_bool (by rw [hres.out, decide_eq_false (show ¬ 0 ≤ to by omega)]; simp), Kp.fin HB.out hK2⟩
      by_cases t1 : to ≤ many
      case neg =>
        have t2 : decide (to ≤ many) = false := decide_eq_false t1
        clear t1
        go_wp2_with (first
          | (go_at_call 40; (first | rw [← hWx.out] | skip); (with_reducible refine (leads_any _ _).mono ?_); rintro e wl ⟨rfl, rfl⟩)
          | (refine wpList_put_of _ rfl _ _ _ 97 3 3 rfl Tryz.underlying97 Tryz.underlying3 _ _ rfl hM0y 12 (by rfl) (.int .i64 9) (by rfl) rfl ?_; intro w1 hM1 hg1; have hK1 : Kp W0 w1 := ((Kp.refl W0).alloc _).put (by omega) hg1)
          | (refine wpList_put_of _ rfl _ _ _ 97 3 3 rfl Tryz.underlying97 Tryz.underlying3 _ _ rfl hM1 13 (by rfl) (.int .i64 4) (by rfl) rfl ?_; intro w2 hM2 hg2; have hK2 : Kp W0 w2 := hK1.put (by omega) hg2; clear hK1 hg1 hg2 hM1)
          | (refine wpList_look_of _ rfl _ _ 97 3 3 rfl Tryz.underlying97 Tryz.underlying3 _ (zeroInt _) _ _ rfl hM2 _ (by rfl) _ hget.out ?_)
          | (go_at_call 62; (with_reducible refine (hpart.out _ _ hK2).mono ?_); rintro e w3 ⟨rfl, hb3⟩; have hK3 := hK2.next hb3)
          | (go_at_call 62; (with_reducible refine (hpart.out _ _ (Kp.refl W0)).mono ?_); rintro e w3 ⟨rfl, hb3⟩; have hK3 : Kp W0 w3 := Kp.of hb3)
          | fail)
        go_ret
        exact ⟨ret_bool (by rw [hres.out, hT.out, t2]; simp), Kp.fin HB.out hK2⟩
      go_wp2_with (first
        | (go_at_call 40; (first | rw [← hWx.out] | skip); (with_reducible refine (leads_any _ _).mono ?_); rintro e wl ⟨rfl, rfl⟩)
        | (refine wpList_put_of _ rfl _ _ _ 97 3 3 rfl Tryz.underlying97 Tryz.underlying3 _ _ rfl hM0y 12 (by rfl) (.int .i64 9) (by rfl) rfl ?_; intro w1 hM1 hg1; have hK1 : Kp W0 w1 := ((Kp.refl W0).alloc _).put (by omega) hg1)
        | (refine wpList_put_of _ rfl _ _ _ 97 3 3 rfl Tryz.underlying97 Tryz.underlying3 _ _ rfl hM1 13 (by rfl) (.int .i64 4) (by rfl) rfl ?_; intro w2 hM2 hg2; have hK2 : Kp W0 w2 := hK1.put (by omega) hg2; clear hK1 hg1 hg2 hM1)
        | (refine wpList_look_of _ rfl _ _ 97 3 3 rfl Tryz.underlying97 Tryz.underlying3 _ (zeroInt _) _ _ rfl hM2 _ (by rfl) _ hget.out ?_)
        | (go_at_call 62; (with_reducible refine (hpart.out _ _ hK2).mono ?_); rintro e w3 ⟨rfl, hb3⟩; have hK3 := hK2.next hb3)
        | (go_at_call 62; (with_reducible refine (hpart.out _ _ (Kp.refl W0)).mono ?_); rintro e w3 ⟨rfl, hb3⟩; have hK3 : Kp W0 w3 := Kp.of hb3)
        | fail)
      go_ret
      exact ⟨ret_bool (by rw [hres.out, decide_eq_true (show 0 ≤ to by omega), hT.out, decide_eq_true (show to ≤ many by omega)]; rfl), Kp.fin HB.out hK3⟩
  · have e12 : (op == 12) = false := by simp; omega
    have e13 : (op == 13) = false := by simp; omega
    have hk : Hid (insK op = op) := by show _ = _; unfold insK; rw [if_neg (by omega), if_neg (by omega)]
    have hT : Hid (insT op many = 0) := by show _ = _; unfold insT; rw [if_neg h12]
    clear h12
    by_cases k0 : 1 ≤ op
    case neg =>
      go_wp2_with (first
        | (go_at_call 40; (first | rw [← hWx.out] | skip); (with_reducible refine (leads_any _ _).mono ?_); rintro e wl ⟨rfl, rfl⟩)
        | (refine wpList_put_of _ rfl _ _ _ 97 3 3 rfl Tryz.underlying97 Tryz.underlying3 _ _ rfl hM0y 12 (by rfl) (.int .i64 9) (by rfl) rfl ?_; intro w1 hM1 hg1; have hK1 : Kp W0 w1 := ((Kp.refl W0).alloc _).put (by omega) hg1)
        | (refine wpList_put_of _ rfl _ _ _ 97 3 3 rfl Tryz.underlying97 Tryz.underlying3 _ _ rfl hM1 13 (by rfl) (.int .i64 4) (by rfl) rfl ?_; intro w2 hM2 hg2; have hK2 : Kp W0 w2 := hK1.put (by omega) hg2; clear hK1 hg1 hg2 hM1)
        | (refine wpList_look_of _ rfl _ _ 97 3 3 rfl Tryz.underlying97 Tryz.underlying3 _ (zeroInt _) _ _ rfl hM2 _ (by rfl) _ hget.out ?_)
        | (go_at_call 62; (with_reducible refine (hpart.out _ _ hK2).mono ?_); rintro e w3 ⟨rfl, hb3⟩; have hK3 := hK2.next hb3)
        | (go_at_call 62; (with_reducible refine (hpart.out _ _ (Kp.refl W0)).mono ?_); rintro e w3 ⟨rfl, hb3⟩; have hK3 : Kp W0 w3 := Kp.of hb3)
        | fail)
      go_ret
      exact ⟨ret_bool (by rw [hres.out, hk.out, hT.out, decide_eq_false (show ¬ 1 ≤ op by omega)]; simp), Kp.fin HB.out (Kp.refl _)⟩
    by_cases k1 : op ≤ 9
    case neg =>
      go_wp2_with (first
        | (go_at_call 40; (first | rw [← hWx.out] | skip); (with_reducible refine (leads_any _ _).mono ?_); rintro e wl ⟨rfl, rfl⟩)
        | (refine wpList_put_of _ rfl _ _ _ 97 3 3 rfl Tryz.underlying97 Tryz.underlying3 _ _ rfl hM0y 12 (by rfl) (.int .i64 9) (by rfl) rfl ?_; intro w1 hM1 hg1; have hK1 : Kp W0 w1 := ((Kp.refl W0).alloc _).put (by omega) hg1)
        | (refine wpList_put_of _ rfl _ _ _ 97 3 3 rfl Tryz.underlying97 Tryz.underlying3 _ _ rfl hM1 13 (by rfl) (.int .i64 4) (by rfl) rfl ?_; intro w2 hM2 hg2; have hK2 : Kp W0 w2 := hK1.put (by omega) hg2; clear hK1 hg1 hg2 hM1)
        | (refine wpList_look_of _ rfl _ _ 97 3 3 rfl Tryz.underlying97 Tryz.underlying3 _ (zeroInt _) _ _ rfl hM2 _ (by rfl) _ hget.out ?_)
        | (go_at_call 62; (with_reducible refine (hpart.out _ _ hK2).mono ?_); rintro e w3 ⟨rfl, hb3⟩; have hK3 := hK2.next hb3)
        | (go_at_call 62; (with_reducible refine (hpart.out _ _ (Kp.refl W0)).mono ?_); rintro e w3 ⟨rfl, hb3⟩; have hK3 : Kp W0 w3 := Kp.of hb3)
        | fail)
      go_ret
      exact ⟨ret_bool (by rw [hres.out, hk.out, hT.out, decide_eq_false (show ¬ op ≤ 9 by omega)]; simp), Kp.fin HB.out (Kp.refl _)⟩
    by_cases t0 : 0 ≤ to
    case neg =>
      go_wp2_with (first
        | (go_at_call 40; (first | rw [← hWx.out] | skip); (with_reducible refine (leads_any _ _).mono ?_); rintro e wl ⟨rfl, rfl⟩)
        | (refine wpList_put_of _ rfl _ _ _ 97 3 3 rfl Tryz.underlying97 Tryz.underlying3 _ _ rfl hM0y 12 (by rfl) (.int .i64 9) (by rfl) rfl ?_; intro w1 hM1 hg1; have hK1 : Kp W0 w1 := ((Kp.refl W0).alloc _).put (by omega) hg1)
        | (refine wpList_put_of _ rfl _ _ _ 97 3 3 rfl Tryz.underlying97 Tryz.underlying3 _ _ rfl hM1 13 (by rfl) (.int .i64 4) (by rfl) rfl ?_; intro w2 hM2 hg2; have hK2 : Kp W0 w2 := hK1.put (by omega) hg2; clear hK1 hg1 hg2 hM1)
        | (refine wpList_look_of _ rfl _ _ 97 3 3 rfl Tryz.underlying97 Tryz.underlying3 _ (zeroInt _) _ _ rfl hM2 _ (by rfl) _ hget.out ?_)
        | (go_at_call 62; (with_reducible refine (hpart.out _ _ hK2).mono ?_); rintro e w3 ⟨rfl, hb3⟩; have hK3 := hK2.next hb3)
        | (go_at_call 62; (with_reducible refine (hpart.out _ _ (Kp.refl W0)).mono ?_); rintro e w3 ⟨rfl, hb3⟩; have hK3 : Kp W0 w3 := Kp.of hb3)
        | fail)
      go_ret
      exact ⟨ret_bool (by rw [hres.out, hk.out, hT.out, decide_eq_false (show ¬ 0 ≤ to by omega)]; simp), Kp.fin HB.out (Kp.refl _)⟩
    by_cases t1 : to ≤ 0
    case neg =>
      have t2 : decide (to ≤ 0) = false := decide_eq_false t1
      clear t1
      go_wp2_with (first
        | (go_at_call 40; (first | rw [← hWx.out] | skip); (with_reducible refine (leads_any _ _).mono ?_); rintro e wl ⟨rfl, rfl⟩)
        | (refine wpList_put_of _ rfl _ _ _ 97 3 3 rfl Tryz.underlying97 Tryz.underlying3 _ _ rfl hM0y 12 (by rfl) (.int .i64 9) (by rfl) rfl ?_; intro w1 hM1 hg1; have hK1 : Kp W0 w1 := ((Kp.refl W0).alloc _).put (by omega) hg1)
        | (refine wpList_put_of _ rfl _ _ _ 97 3 3 rfl Tryz.underlying97 Tryz.underlying3 _ _ rfl hM1 13 (by rfl) (.int .i64 4) (by rfl) rfl ?_; intro w2 hM2 hg2; have hK2 : Kp W0 w2 := hK1.put (by omega) hg2; clear hK1 hg1 hg2 hM1)
        | (refine wpList_look_of _ rfl _ _ 97 3 3 rfl Tryz.underlying97 Tryz.underlying3 _ (zeroInt _) _ _ rfl hM2 _ (by rfl) _ hget.out ?_)
        | (go_at_call 62; (with_reducible refine (hpart.out _ _ hK2).mono ?_); rintro e w3 ⟨rfl, hb3⟩; have hK3 := hK2.next hb3)
        | (go_at_call 62; (with_reducible refine (hpart.out _ _ (Kp.refl W0)).mono ?_); rintro e w3 ⟨rfl, hb3⟩; have hK3 : Kp W0 w3 := Kp.of hb3)
        | fail)
      go_ret
      exact ⟨ret_bool (by rw [hres.out, hk.out, hT.out, t2]; simp), Kp.fin HB.out (Kp.refl _)⟩
    go_wp2_with (first
      | (go_at_call 40; (first | rw [← hWx.out] | skip); (with_reducible refine (leads_any _ _).mono ?_); rintro e wl ⟨rfl, rfl⟩)
      | (refine wpList_put_of _ rfl _ _ _ 97 3 3 rfl Tryz.underlying97 Tryz.underlying3 _ _ rfl hM0y 12 (by rfl) (.int .i64 9) (by rfl) rfl ?_; intro w1 hM1 hg1; have hK1 : Kp W0 w1 := ((Kp.refl W0).alloc _).put (by omega) hg1)
      | (refine wpList_put_of _ rfl _ _ _ 97 3 3 rfl Tryz.underlying97 Tryz.underlying3 _ _ rfl hM1 13 (by rfl) (.int .i64 4) (by rfl) rfl ?_; intro w2 hM2 hg2; have hK2 : Kp W0 w2 := hK1.put (by omega) hg2; clear hK1 hg1 hg2 hM1)
      | (refine wpList_look_of _ rfl _ _ 97 3 3 rfl Tryz.underlying97 Tryz.underlying3 _ (zeroInt _) _ _ rfl hM2 _ (by rfl) _ hget.out ?_)
      | (go_at_call 62; (with_reducible refine (hpart.out _ _ hK2).mono ?_); rintro e w3 ⟨rfl, hb3⟩; have hK3 := hK2.next hb3)
      | (go_at_call 62; (with_reducible refine (hpart.out _ _ (Kp.refl W0)).mono ?_); rintro e w3 ⟨rfl, hb3⟩; have hK3 : Kp W0 w3 := Kp.of hb3)
      | fail)
    go_ret
    exact ⟨ret_bool (by rw [hres.out, hk.out, hT.out, decide_eq_true (show 1 ≤ op by omega), decide_eq_true (show op ≤ 9 by omega), decide_eq_true (show 0 ≤ to by omega), decide_eq_true (show to ≤ 0 by omega)]; simp), Kp.fin HB.out hK3⟩
end Go.Proofs.YtcgpobeidlimkaaGreatDoor
