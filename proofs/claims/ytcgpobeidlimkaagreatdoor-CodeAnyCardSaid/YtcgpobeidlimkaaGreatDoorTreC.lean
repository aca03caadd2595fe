/- The program's word on what expressions may be: expr. -/
import Derived.Test.YtcgpobeidlimkaaGreatDoorTreB
import Derived.BigQuiet
namespace Go.Proofs.YtcgpobeidlimkaaGreatDoor
open Go.RowKit

theorem mget3 (dom k : Int) : mget (.int .i64 0) k ([] ++ [(1, .int .i64 dom)] ++ [(2, .int .i64 4)] ++ [(3, .int .i64 1)]) = .int .i64 (if k = 1 then dom else if k = 2 then 4 else if k = 3 then 1 else 0) := by
  simp only [List.nil_append, List.cons_append, mget]
  split
  · rfl
  split
  · rfl
  split
  · rfl
  rfl

theorem zeroInt (w : World) : (zeroValue 3).run Tryz.prog w = .ok (.int .i64 0) w := by kernel_rfl

set_option maxRecDepth 100000 in
set_option maxHeartbeats 4000000 in
theorem pexpr_any (dom : Int) (x : Ex) : ∀ (deep : Nat) (cs : List Value) (w : World), deep ≤ 1000 → ExIn w (In_ w) cs x →
    Calls Tryz.prog 106 #[.agg cs.toArray, .int .i64 deep, .int .i64 dom] w fun e w' => e = .returned (.bool (x.fit dom deep)) ∧ Below w.heap.size w w' := by
  induction x using Ex.ind with
  | h k n o l ih =>
  intro deep cs w hdeep hin
  obtain ⟨a, cap, rfl, hl, hc, wk, wn, wo, hk⟩ := hin.open_
  have hc' := hc
  unfold maxLen at hc
  have hmm := @run_makeMap Tryz.prog
  cases deep with
  | zero =>
    go_enter Tryz.func106, Tryz.ntmps106
    go_wp2_with fail
    go_ret
    exact ⟨rfl, (((Below.refl _ _).alloc (Nat.le_refl _) _).alloc (by simp) _).alloc (by simp; omega) _⟩
  | succ deep =>
    have h1 : ¬ (((deep + 1 : Nat) : Int) < 1) := by omega
    have hcast : ((deep + 1 : Nat) : Int) = (deep : Int) + 1 := by omega
    have ih := hid ih
    have hk := hid hk
    rw [hcast] at h1 ⊢
    clear hcast
    obtain ⟨W0, hW⟩ : ∃ W0, W0 = ((w.alloc (.cells #[.int .i64 k, .int .i64 n, .int .u8 o, .slice a l.length cap] 46)).alloc (.cells #[.int .i64 ((deep : Int) + 1)] 3)).alloc (.cells #[.int .i64 dom] 3) := ⟨_, rfl⟩
    have hB : Below w.heap.size w W0 := by subst hW; exact (((Below.refl _ _).alloc (Nat.le_refl _) _).alloc (by simp) _).alloc (by simp; omega) _
    have z2 : w.heap.size + 1 + 1 < W0.heap.size := by subst hW; simp
    have hz : W0.heap.size = w.heap.size + 1 + 1 + 1 := by subst hW; simp
    have hM0 : MapIs (W0.alloc (.map #[] 0)) (w.heap.size + 1 + 1 + 1) [] := by rw [← hz]; exact MapIs.made _
    have x0 : W0.cell? ⟨w.heap.size, 0, none⟩ = some (.int .i64 k) := by subst hW; go_simp
    have x1 : W0.cell? ⟨w.heap.size, 1, none⟩ = some (.int .i64 n) := by subst hW; go_simp
    have x2 : W0.cell? ⟨w.heap.size, 2, none⟩ = some (.int .u8 o) := by subst hW; go_simp
    have x3 : W0.cell? ⟨w.heap.size, 3, none⟩ = some (.slice a l.length cap) := by subst hW; go_simp
    have c1 : W0.cell? ⟨w.heap.size + 1, 0, none⟩ = some (.int .i64 ((deep : Int) + 1)) := by subst hW; go_simp
    have c2 : W0.cell? ⟨w.heap.size + 1 + 1, 0, none⟩ = some (.int .i64 dom) := by subst hW; go_simp
    have hM0x := hM0
    rw [hW] at hM0x
    clear hM0
    have hWx := hid hW
    clear hW
    have g0 : w.heap.size < W0.heap.size := by omega
    have g1 : w.heap.size + 1 < W0.heap.size := by omega
    obtain ⟨mo, hmo⟩ : ∃ mo : Int, mo = if k = 1 then dom else if k = 2 then 4 else if k = 3 then 1 else 0 := ⟨_, rfl⟩
    have hget := hid (mget3 dom k)
    rw [← hmo] at hget
    have HMO := hid hmo
    have HB := hid hB
    clear hB hin hmo
    by_cases hn : n < 0 ∨ mo ≤ n
    · have hf : Hid (Ex.fit dom (deep + 1) (.mk k n o l) = false) := by
        have hmo := HMO.out
        show _ = _
        unfold Ex.fit
        split
        · simp; omega
        split
        · simp; omega
        split
        · simp; omega
        · rfl
      have hn2 : n < 0 ∨ (¬ n < 0 ∧ mo ≤ n) := by omega
      clear hn HMO hk ih
      rcases hn2 with hn2 | ⟨hn2, hn3⟩
      all_goals
        go_enter Tryz.func106, Tryz.ntmps106
        go_wp2_with (first
          | (refine wpList_put_of _ rfl _ _ _ 97 3 3 rfl Tryz.underlying97 Tryz.underlying3 _ _ rfl hM0x 1 (by rfl) (.int .i64 dom) (by rfl) rfl ?_; intro w1 hM1 hg1; rw [← hWx.out] at hg1; have hK1 : Kp W0 w1 := ((Kp.refl W0).alloc _).put (by omega) hg1)
          | (refine wpList_put_of _ rfl _ _ _ 97 3 3 rfl Tryz.underlying97 Tryz.underlying3 _ _ rfl hM1 2 (by rfl) (.int .i64 4) (by rfl) rfl ?_; intro w2 hM2 hg2; have hK2 : Kp W0 w2 := hK1.put (by omega) hg2; clear hK1)
          | (refine wpList_put_of _ rfl _ _ _ 97 3 3 rfl Tryz.underlying97 Tryz.underlying3 _ _ rfl hM2 3 (by rfl) (.int .i64 1) (by rfl) rfl ?_; intro w3 hM3 hg3; have hK3 : Kp W0 w3 := hK2.put (by omega) hg3; clear hK2 hg1 hg2 hg3 hM1 hM2)
          | (refine wpList_look_of _ rfl _ _ 97 3 3 rfl Tryz.underlying97 Tryz.underlying3 _ (zeroInt _) _ _ rfl hM3 _ (by rfl) _ hget.out ?_)
          | fail)
        go_ret
        rw [hf.out]
        exact ⟨rfl, Kp.fin HB.out hK3⟩
    · have hn0 : ¬ n < 0 := by omega
      have hn1 : ¬ mo ≤ n := by omega
      clear hn
      by_cases k3 : k = 3
      case neg =>
        have hf : Hid (Ex.fit dom (deep + 1) (.mk k n o l) = (o == 0 && l.isEmpty)) := by
          have hmo := HMO.out
          show _ = _
          unfold Ex.fit
          split at hmo
          · rename_i h
            rw [if_pos h, decide_eq_true (by omega), decide_eq_true (by omega)]
            rfl
          split at hmo
          · rename_i h h'
            rw [if_neg h, if_pos h', decide_eq_true (by omega), decide_eq_true (by omega)]
            rfl
          · omega
        have k3' : (k != 3) = true := by rw [bne_iff_ne]; exact k3
        clear HMO hk ih k3
        by_cases ho : o = 0
        case neg =>
          have ho' : (o == 0) = false := by simpa using ho
          clear ho
          go_enter Tryz.func106, Tryz.ntmps106
          go_wp2_with (first
            | (refine wpList_put_of _ rfl _ _ _ 97 3 3 rfl Tryz.underlying97 Tryz.underlying3 _ _ rfl hM0x 1 (by rfl) (.int .i64 dom) (by rfl) rfl ?_; intro w1 hM1 hg1; rw [← hWx.out] at hg1; have hK1 : Kp W0 w1 := ((Kp.refl W0).alloc _).put (by omega) hg1)
            | (refine wpList_put_of _ rfl _ _ _ 97 3 3 rfl Tryz.underlying97 Tryz.underlying3 _ _ rfl hM1 2 (by rfl) (.int .i64 4) (by rfl) rfl ?_; intro w2 hM2 hg2; have hK2 : Kp W0 w2 := hK1.put (by omega) hg2; clear hK1)
            | (refine wpList_put_of _ rfl _ _ _ 97 3 3 rfl Tryz.underlying97 Tryz.underlying3 _ _ rfl hM2 3 (by rfl) (.int .i64 1) (by rfl) rfl ?_; intro w3 hM3 hg3; have hK3 : Kp W0 w3 := hK2.put (by omega) hg3; clear hK2 hg1 hg2 hg3 hM1 hM2)
            | (refine wpList_look_of _ rfl _ _ 97 3 3 rfl Tryz.underlying97 Tryz.underlying3 _ (zeroInt _) _ _ rfl hM3 _ (by rfl) _ hget.out ?_)
            | fail)
          go_ret
          rw [hf.out]
          exact ⟨ret_bool (by simp [ho']), Kp.fin HB.out hK3⟩
        subst ho
        by_cases hl0 : l.length = 0
        · obtain rfl := List.eq_nil_of_length_eq_zero hl0
          simp only [List.length_nil] at x3 hWx hM0x hf
          clear hl0
          go_enter Tryz.func106, Tryz.ntmps106
          go_wp2_with (first
            | (refine wpList_put_of _ rfl _ _ _ 97 3 3 rfl Tryz.underlying97 Tryz.underlying3 _ _ rfl hM0x 1 (by rfl) (.int .i64 dom) (by rfl) rfl ?_; intro w1 hM1 hg1; rw [← hWx.out] at hg1; have hK1 : Kp W0 w1 := ((Kp.refl W0).alloc _).put (by omega) hg1)
            | (refine wpList_put_of _ rfl _ _ _ 97 3 3 rfl Tryz.underlying97 Tryz.underlying3 _ _ rfl hM1 2 (by rfl) (.int .i64 4) (by rfl) rfl ?_; intro w2 hM2 hg2; have hK2 : Kp W0 w2 := hK1.put (by omega) hg2; clear hK1)
            | (refine wpList_put_of _ rfl _ _ _ 97 3 3 rfl Tryz.underlying97 Tryz.underlying3 _ _ rfl hM2 3 (by rfl) (.int .i64 1) (by rfl) rfl ?_; intro w3 hM3 hg3; have hK3 : Kp W0 w3 := hK2.put (by omega) hg3; clear hK2 hg1 hg2 hg3 hM1 hM2)
            | (refine wpList_look_of _ rfl _ _ 97 3 3 rfl Tryz.underlying97 Tryz.underlying3 _ (zeroInt _) _ _ rfl hM3 _ (by rfl) _ hget.out ?_)
            | fail)
          go_ret
          rw [hf.out]
          exact ⟨rfl, Kp.fin HB.out hK3⟩
        · have c5 : ((l.length : Int) == 0) = false := by rw [beq_eq_false_iff_ne]; omega
          have hf2 : Hid (l.isEmpty = false) := by show _ = _; rw [List.isEmpty_eq_false_iff]; intro h; exact hl0 (by rw [h]; rfl)
          clear hl0
          go_enter Tryz.func106, Tryz.ntmps106
          go_wp2_with (first
            | (refine wpList_put_of _ rfl _ _ _ 97 3 3 rfl Tryz.underlying97 Tryz.underlying3 _ _ rfl hM0x 1 (by rfl) (.int .i64 dom) (by rfl) rfl ?_; intro w1 hM1 hg1; rw [← hWx.out] at hg1; have hK1 : Kp W0 w1 := ((Kp.refl W0).alloc _).put (by omega) hg1)
            | (refine wpList_put_of _ rfl _ _ _ 97 3 3 rfl Tryz.underlying97 Tryz.underlying3 _ _ rfl hM1 2 (by rfl) (.int .i64 4) (by rfl) rfl ?_; intro w2 hM2 hg2; have hK2 : Kp W0 w2 := hK1.put (by omega) hg2; clear hK1)
            | (refine wpList_put_of _ rfl _ _ _ 97 3 3 rfl Tryz.underlying97 Tryz.underlying3 _ _ rfl hM2 3 (by rfl) (.int .i64 1) (by rfl) rfl ?_; intro w3 hM3 hg3; have hK3 : Kp W0 w3 := hK2.put (by omega) hg3; clear hK2 hg1 hg2 hg3 hM1 hM2)
            | (refine wpList_look_of _ rfl _ _ 97 3 3 rfl Tryz.underlying97 Tryz.underlying3 _ (zeroInt _) _ _ rfl hM3 _ (by rfl) _ hget.out ?_)
            | fail)
          go_ret
          rw [hf.out, hf2.out]
          exact ⟨rfl, Kp.fin HB.out hK3⟩
      subst k3
      have hmo : mo = 1 := HMO.out
      obtain rfl : n = 0 := by omega
      subst hmo
      clear HMO hn0 hn1
      cases ho : isOp o
      case false =>
        have hs : sgn o = [] := by simp [sgn, ho]
        have Ho := hid ho
        clear ho hk ih
        go_enter Tryz.func106, Tryz.ntmps106
        go_wp2_with (first
          | (refine wpList_put_of _ rfl _ _ _ 97 3 3 rfl Tryz.underlying97 Tryz.underlying3 _ _ rfl hM0x 1 (by rfl) (.int .i64 dom) (by rfl) rfl ?_; intro w1 hM1 hg1; rw [← hWx.out] at hg1; have hK1 : Kp W0 w1 := ((Kp.refl W0).alloc _).put (by omega) hg1)
          | (refine wpList_put_of _ rfl _ _ _ 97 3 3 rfl Tryz.underlying97 Tryz.underlying3 _ _ rfl hM1 2 (by rfl) (.int .i64 4) (by rfl) rfl ?_; intro w2 hM2 hg2; have hK2 : Kp W0 w2 := hK1.put (by omega) hg2; clear hK1)
          | (refine wpList_put_of _ rfl _ _ _ 97 3 3 rfl Tryz.underlying97 Tryz.underlying3 _ _ rfl hM2 3 (by rfl) (.int .i64 1) (by rfl) rfl ?_; intro w3 hM3 hg3; have hK3 : Kp W0 w3 := hK2.put (by omega) hg3; clear hK2 hg1 hg2 hg3 hM1 hM2)
          | (refine wpList_look_of _ rfl _ _ 97 3 3 rfl Tryz.underlying97 Tryz.underlying3 _ (zeroInt _) _ _ rfl hM3 _ (by rfl) _ hget.out ?_)
          | (go_at_call 120; (with_reducible refine (psign_any o w3).mono ?_); rintro e w4 ⟨rfl, hb4⟩; have hK4 := hK3.next hb4)
          | fail)
        go_ret
        exact ⟨ret_bool (by simp [Ex.fit, Ho.out]), Kp.fin HB.out hK4⟩
      case true =>
        have hs : (sgn o).isEmpty = false := by
          unfold sgn
          rw [if_pos ho]
          split
          · rfl
          · split <;> rfl
        have Ho := hid ho
        clear ho
        by_cases hl2 : l.length = 2
        case neg =>
          have c5 : ((l.length : Int) == 2) = false := by rw [beq_eq_false_iff_ne]; omega
          have hf : Hid (Ex.fit dom (deep + 1) (.mk 3 0 o l) = false) := by
            show _ = _
            rcases l with _ | ⟨x0, _ | ⟨x1, _ | ⟨x2, l'⟩⟩⟩
            · simp [Ex.fit]
            · simp [Ex.fit]
            · simp at hl2
            · simp [Ex.fit]
          clear hk ih
          go_enter Tryz.func106, Tryz.ntmps106
          go_wp2_with (first
            | (refine wpList_put_of _ rfl _ _ _ 97 3 3 rfl Tryz.underlying97 Tryz.underlying3 _ _ rfl hM0x 1 (by rfl) (.int .i64 dom) (by rfl) rfl ?_; intro w1 hM1 hg1; rw [← hWx.out] at hg1; have hK1 : Kp W0 w1 := ((Kp.refl W0).alloc _).put (by omega) hg1)
            | (refine wpList_put_of _ rfl _ _ _ 97 3 3 rfl Tryz.underlying97 Tryz.underlying3 _ _ rfl hM1 2 (by rfl) (.int .i64 4) (by rfl) rfl ?_; intro w2 hM2 hg2; have hK2 : Kp W0 w2 := hK1.put (by omega) hg2; clear hK1)
            | (refine wpList_put_of _ rfl _ _ _ 97 3 3 rfl Tryz.underlying97 Tryz.underlying3 _ _ rfl hM2 3 (by rfl) (.int .i64 1) (by rfl) rfl ?_; intro w3 hM3 hg3; have hK3 : Kp W0 w3 := hK2.put (by omega) hg3; clear hK2 hg1 hg2 hg3 hM1 hM2)
            | (refine wpList_look_of _ rfl _ _ 97 3 3 rfl Tryz.underlying97 Tryz.underlying3 _ (zeroInt _) _ _ rfl hM3 _ (by rfl) _ hget.out ?_)
            | (go_at_call 120; (with_reducible refine (psign_any o w3).mono ?_); rintro e w4 ⟨rfl, hb4⟩; have hK4 := hK3.next hb4)
            | fail)
          go_ret
          rw [hf.out]
          exact ⟨rfl, Kp.fin HB.out hK4⟩
        case pos =>
          have hf : Hid (Ex.fit dom (deep + 1) (.mk 3 0 o l) = !(l.any fun x => !x.fit dom deep)) := by
            show _ = _
            rcases l with _ | ⟨x0, _ | ⟨x1, _ | ⟨x2, l'⟩⟩⟩
            · simp at hl2
            · simp at hl2
            · simp [Ex.fit, Ho.out]
            · simp at hl2
          have c5 : ((l.length : Int) == 2) = true := by rw [beq_iff_eq]; omega
          have hcall : Hid (∀ w4, Kp W0 w4 → Calls Tryz.prog 123 #[.slice a l.length cap, .func (.func 122) #[] #[.pointer (some ⟨w.heap.size + 1, 0, none⟩), .pointer (some ⟨w.heap.size + 1 + 1, 0, none⟩)]] w4 fun e w' => e = .returned (.bool (l.any fun x => !x.fit dom deep)) ∧ Below w4.heap.size w4 w') := by
            intro w4 hK4
            have s4 := hK4.1.size
            have hKw : Kp w w4 := Kp.of (Kp.fin HB.out hK4)
            refine xcontains_any dom deep a cap l (w.heap.size + 1) (w.heap.size + 1 + 1) w4 (by omega) (fun x hx cs w5 h5 => ih.out x hx deep cs w5 (by omega) h5) hl hc' (fun i hi => ?_) (by omega) ((hK4.2 _ _ g1).trans c1) (by omega) ((hK4.2 _ _ z2).trans c2)
            obtain ⟨b, off, u0, u1, u2, u3, rfl, hb, h0, h1, h2, h3, hx⟩ := hk.out i hi
            exact ⟨b, off, u0, u1, u2, u3, rfl, Nat.lt_of_lt_of_le hb hKw.1.size, (hKw.2 _ _ hb).trans h0, (hKw.2 _ _ hb).trans h1, (hKw.2 _ _ hb).trans h2, (hKw.2 _ _ hb).trans h3, hKw.ex hx⟩
          clear hk ih hl2
          generalize (l.any fun x => !x.fit dom deep) = y at *
          go_enter Tryz.func106, Tryz.ntmps106
          go_wp2_with (first
            | (refine wpList_put_of _ rfl _ _ _ 97 3 3 rfl Tryz.underlying97 Tryz.underlying3 _ _ rfl hM0x 1 (by rfl) (.int .i64 dom) (by rfl) rfl ?_; intro w1 hM1 hg1; rw [← hWx.out] at hg1; have hK1 : Kp W0 w1 := ((Kp.refl W0).alloc _).put (by omega) hg1)
            | (refine wpList_put_of _ rfl _ _ _ 97 3 3 rfl Tryz.underlying97 Tryz.underlying3 _ _ rfl hM1 2 (by rfl) (.int .i64 4) (by rfl) rfl ?_; intro w2 hM2 hg2; have hK2 : Kp W0 w2 := hK1.put (by omega) hg2; clear hK1)
            | (refine wpList_put_of _ rfl _ _ _ 97 3 3 rfl Tryz.underlying97 Tryz.underlying3 _ _ rfl hM2 3 (by rfl) (.int .i64 1) (by rfl) rfl ?_; intro w3 hM3 hg3; have hK3 : Kp W0 w3 := hK2.put (by omega) hg3; clear hK2 hg1 hg2 hg3 hM1 hM2)
            | (refine wpList_look_of _ rfl _ _ 97 3 3 rfl Tryz.underlying97 Tryz.underlying3 _ (zeroInt _) _ _ rfl hM3 _ (by rfl) _ hget.out ?_)
            | (go_at_call 120; (with_reducible refine (psign_any o w3).mono ?_); rintro e w4 ⟨rfl, hb4⟩; have hK4 := hK3.next hb4)
            | (go_at_call 123; (with_reducible refine (hcall.out _ hK4).mono ?_); rintro e w5 ⟨rfl, hb5⟩; have hK5 := hK4.next hb5)
            | fail)
          go_ret
          rw [hf.out]
          exact ⟨rfl, Kp.fin HB.out hK5⟩
end Go.Proofs.YtcgpobeidlimkaaGreatDoor
