/- The program's word on what fits: Fits. -/
import Derived.Test.YtekmcoflagajkaaGreatDoorStpA
import Derived.Test.YtekmcoflagajkaaGreatDoorStpB
import Derived.Test.YtekmcoflagajkaaGreatDoorBunM
import Derived.Deep.RegionHeld3
import Derived.BigQuiet
namespace Go.Proofs.YtekmcoflagajkaaGreatDoor
open Go.RowKit

theorem regs_any (dom : Int) (x : Thr) : ([x.r0, x.r1, x.r2, x.r3].any fun n => !inL dom n) = !(inL dom x.r0 && inL dom x.r1 && inL dom x.r2 && inL dom x.r3) := by
  simp [Bool.not_and, Bool.or_assoc]

theorem flip_true {y : Bool} (h : true = !y) : y = false := by cases y; rfl; simp at h
theorem flip_false {y : Bool} (h : false = !y) : y = true := by cases y; simp at h; rfl

set_option maxRecDepth 100000 in
set_option maxHeartbeats 8000000 in
theorem fits_any (vars dom m b : Int) (ac : Option Addr) (nc capc : Nat) (t : List (List Ins)) (ah : Option Addr) (nh caph : Nat) (th : List Thr) (am : Option Addr) (nm capm : Nat) (mem : List Int) (bad : Bool) (w : World)
    (hc : ThsIn w (In_ w) ac nc capc t) (hh : ThrIn w (In_ w) ah nh caph th) (hm : IntIn w (In_ w) am nm capm mem) (hbuf : ∀ x ∈ th, x.buf.length ≤ 1000) :
    Calls Tryz.prog 24 #[.agg #[.int .i64 vars, .int .i64 dom, .slice ac nc capc], .agg #[.int .i64 m, .int .i64 b], .agg #[.slice ah nh caph, .slice am nm capm, .bool bad]] w fun e w' => e = .returned (.bool (fitsL vars dom t m b th mem)) ∧ Below w.heap.size w w' := by
  have hn1 := hc.1
  have hn2 := hh.1
  have hn3 := hm.1
  subst hn1 hn2 hn3
  have l1 := hc.le
  have l2 := hc.mx
  have l3 := hh.le
  have l4 := hh.mx
  have l5 := hm.2.le
  have l6 := hm.2.mx
  unfold maxLen at l2 l4 l6
  have hres : Hid (fitsL vars dom t m b th mem = (mayL vars dom t m b && decide (th.length = t.length) && decide ((mem.length : Int) = vars) && (mem.all fun n => inL dom n) && (List.range th.length).all fun i => thrL vars dom m b (th[i]?.getD .zero) (t[i]?.getD []).length)) := rfl
  obtain ⟨W0, hW⟩ : ∃ W0, W0 = ((w.alloc (.cells #[.int .i64 vars, .int .i64 dom, .slice ac t.length capc] 25)).alloc (.cells #[.int .i64 m, .int .i64 b] 30)).alloc (.cells #[.slice ah th.length caph, .slice am mem.length capm, .bool bad] 34) := ⟨_, rfl⟩
  have hB : Below w.heap.size w W0 := by subst hW; exact (((Below.refl _ _).alloc (Nat.le_refl _) _).alloc (by simp) _).alloc (by simp; omega) _
  have z2 : w.heap.size + 1 + 1 < W0.heap.size := by subst hW; simp
  have z1 : w.heap.size + 1 < W0.heap.size := by omega
  have z0 : w.heap.size < W0.heap.size := by omega
  have c0 : W0.cell? ⟨w.heap.size, 0, none⟩ = some (.int .i64 vars) := by subst hW; go_simp
  have c1 : W0.cell? ⟨w.heap.size, 1, none⟩ = some (.int .i64 dom) := by subst hW; go_simp
  have c2 : W0.cell? ⟨w.heap.size, 2, none⟩ = some (.slice ac t.length capc) := by subst hW; go_simp
  have m0 : W0.cell? ⟨w.heap.size + 1, 0, none⟩ = some (.int .i64 m) := by subst hW; go_simp
  have m1 : W0.cell? ⟨w.heap.size + 1, 1, none⟩ = some (.int .i64 b) := by subst hW; go_simp
  have s0 : W0.cell? ⟨w.heap.size + 1 + 1, 0, none⟩ = some (.slice ah th.length caph) := by subst hW; go_simp
  have s1 : W0.cell? ⟨w.heap.size + 1 + 1, 1, none⟩ = some (.slice am mem.length capm) := by subst hW; go_simp
  have s2 : W0.cell? ⟨w.heap.size + 1 + 1, 2, none⟩ = some (.bool bad) := by subst hW; go_simp
  have hc0 := hid ((Kp.of hB).ths hc)
  have hh0 := hid ((Kp.of hB).thr hh)
  have hm0 := hid ((Kp.of hB).ints hm)
  have HB := hid hB
  have hWx := hid hW
  clear hW hB hc hh hm
  have hmay := hid (may_any vars dom m b ac t.length capc t W0 hc0.out)
  have hcont : Hid (∀ W, Kp W0 W → Calls Tryz.prog 45 #[.slice am mem.length capm, .func (.func 44) #[] #[.pointer (some ⟨w.heap.size, 0, none⟩)]] W fun e w' => e = .returned (.bool (mem.any fun n => !inL dom n)) ∧ Below W.heap.size W w') := fun W hK =>
    (intContains_any dom mem w.heap.size am capm W (hK.ints hm0.out) (Nat.lt_of_lt_of_le z0 hK.1.size) ((hK.2 _ _ z0).trans c1)).mono fun e w' h => ⟨h.1, by rw [h.2]; exact Below.refl _ _⟩
  have hmem : Hid ((mem.all fun n => inL dom n) = !(mem.any fun n => !inL dom n)) := List.all_eq_not_any_not ..
  generalize (mem.any fun n => !inL dom n) = ym at *
  generalize mayL vars dom t m b = my at *
  go_enter Tryz.func24, Tryz.ntmps24
  cases my
  case false =>
    go_wp2_with (first
      | (go_at_call 26; rw [← hWx.out]; (with_reducible refine hmay.out.mono ?_); rintro e w1 ⟨rfl, hb1⟩; have hK1 : Kp W0 w1 := Kp.of hb1)
      | (go_at_call 45; (with_reducible refine (hcont.out w1 hK1).mono ?_); rintro e w2 ⟨rfl, hb2⟩; have hK2 := hK1.next hb2)
      | fail)
    go_ret
    exact ⟨ret_bool (by rw [hres.out]; rfl), Kp.fin HB.out hK1⟩
  by_cases e1 : th.length = t.length
  case neg =>
    have e1' : ((th.length : Int) != t.length) = true := by rw [bne_iff_ne]; omega
    go_wp2_with (first
      | (go_at_call 26; rw [← hWx.out]; (with_reducible refine hmay.out.mono ?_); rintro e w1 ⟨rfl, hb1⟩; have hK1 : Kp W0 w1 := Kp.of hb1)
      | (go_at_call 45; (with_reducible refine (hcont.out w1 hK1).mono ?_); rintro e w2 ⟨rfl, hb2⟩; have hK2 := hK1.next hb2)
      | fail)
    go_ret
    exact ⟨ret_bool (by rw [hres.out]; rw [decide_eq_false e1]; rfl), Kp.fin HB.out hK1⟩
  have e1' : ((th.length : Int) != t.length) = false := by rw [bne_eq_false_iff_eq]; omega
  have E1 := hid e1
  clear e1
  by_cases e2 : (mem.length : Int) = vars
  case neg =>
    have e2' : ((mem.length : Int) != vars) = true := by rw [bne_iff_ne]; exact e2
    have E2 := hid e2
    clear e2
    go_wp2_with (first
      | (go_at_call 26; rw [← hWx.out]; (with_reducible refine hmay.out.mono ?_); rintro e w1 ⟨rfl, hb1⟩; have hK1 : Kp W0 w1 := Kp.of hb1)
      | (go_at_call 45; (with_reducible refine (hcont.out w1 hK1).mono ?_); rintro e w2 ⟨rfl, hb2⟩; have hK2 := hK1.next hb2)
      | fail)
    go_ret
    exact ⟨ret_bool (by rw [hres.out]; rw [decide_eq_false E2.out]; simp), Kp.fin HB.out hK1⟩
  have e2' : ((mem.length : Int) != vars) = false := by rw [bne_eq_false_iff_eq]; exact e2
  have E2 := hid e2
  clear e2
  cases ym
  case true =>
    go_wp2_with (first
      | (go_at_call 26; rw [← hWx.out]; (with_reducible refine hmay.out.mono ?_); rintro e w1 ⟨rfl, hb1⟩; have hK1 : Kp W0 w1 := Kp.of hb1)
      | (go_at_call 45; (with_reducible refine (hcont.out w1 hK1).mono ?_); rintro e w2 ⟨rfl, hb2⟩; have hK2 := hK1.next hb2)
      | fail)
    go_ret
    exact ⟨ret_bool (by rw [hres.out]; rw [hmem.out]; simp), Kp.fin HB.out hK2⟩
  have hres2 : Hid (fitsL vars dom t m b th mem = (List.range th.length).all fun i => thrL vars dom m b (th[i]?.getD .zero) (t[i]?.getD []).length) := by
    show _ = _
    rw [hres.out, decide_eq_true E1.out, decide_eq_true E2.out, hmem.out]
    rfl
  clear hres
  go_wp2_with (first
    | (go_at_call 26; rw [← hWx.out]; (with_reducible refine hmay.out.mono ?_); rintro e w1 ⟨rfl, hb1⟩; have hK1 : Kp W0 w1 := Kp.of hb1)
    | (go_at_call 45; (with_reducible refine (hcont.out w1 hK1).mono ?_); rintro e w2 ⟨rfl, hb2⟩; have hK2 := hK1.next hb2)
    | fail)
  have hc2 := hid (hK2.ths hc0.out)
  have hh2 := hid (hK2.thr hh0.out)
  have HB2 := hid (Kp.fin HB.out hK2)
  have q0 : w2.cell? ⟨w.heap.size, 0, none⟩ = some (.int .i64 vars) := (hK2.2 _ _ z0).trans c0
  have q1 : w2.cell? ⟨w.heap.size, 1, none⟩ = some (.int .i64 dom) := (hK2.2 _ _ z0).trans c1
  have q2 : w2.cell? ⟨w.heap.size, 2, none⟩ = some (.slice ac t.length capc) := (hK2.2 _ _ z0).trans c2
  have q3 : w2.cell? ⟨w.heap.size + 1, 0, none⟩ = some (.int .i64 m) := (hK2.2 _ _ z1).trans m0
  have q4 : w2.cell? ⟨w.heap.size + 1, 1, none⟩ = some (.int .i64 b) := (hK2.2 _ _ z1).trans m1
  have y0 : w.heap.size < w2.heap.size := Nat.lt_of_lt_of_le z0 hK2.1.size
  have y1 : w.heap.size + 1 < w2.heap.size := Nat.lt_of_lt_of_le z1 hK2.1.size
  clear hcont hmay hWx hb1 hK1 hb2 hK2 c0 c1 c2 m0 m1 s0 s1 s2 hc0 hh0 hm0 hmem HB z0 z1 z2
  go_loopw [41] (fun i wr => ∃ k : Nat, k ≤ th.length ∧ i = .int .i64 k ∧ Hid ((List.range k).all (fun i => thrL vars dom m b (th[i]?.getD .zero) (t[i]?.getD []).length) = true) ∧ Kp w2 wr) (fun i _ => th.length - (intOf i).toNat)
  case atStart => exact ⟨0, Nat.zero_le _, rfl, (rfl : _ = _), Kp.refl _⟩
  case round =>
    obtain ⟨k, hk, rfl, hno, hK⟩ := hrel
    by_cases hlt : k < th.length
    · obtain ⟨bb, off, ar, kr, rfl, hbb, ⟨f0, f1, f2⟩, ⟨f3, f4, f5⟩, hb0⟩ := hh2.out.at_ k hlt
      obtain ⟨bc, offc, ac', kc, rfl, hbc, g0', hrow⟩ := hc2.out.at_ k (by have := E1.out; omega)
      have hbl := hbb.lt
      have hcl := hbc.lt
      have k0 : (0 : Int) ≤ k := by omega
      have k1 : (k : Int) < th.length := by omega
      have k2 : (k : Int) < t.length := by have := E1.out; omega
      have g0 := hK.1.size
      have hsn := hid (range_snoc (fun i => thrL vars dom m b (th[i]?.getD .zero) (t[i]?.getD []).length) k)
      have hbad : Hid (thrL vars dom m b th[k] (t[k]'(by have := E1.out; omega)).length = false → fitsL vars dom t m b th mem = false) := fun h => by
        rw [hres2.out]
        refine range_false _ _ k hlt ?_
        simp only [List.getElem?_eq_getElem hlt, List.getElem?_eq_getElem (show k < t.length by have := E1.out; omega), Option.getD_some]
        exact h
      have hgd : Hid ((th[k]?.getD .zero) = th[k] ∧ (t[k]?.getD []) = (t[k]'(by have := E1.out; omega))) := by
        refine ⟨?_, ?_⟩
        · rw [List.getElem?_eq_getElem hlt]; rfl
        · rw [List.getElem?_eq_getElem (show k < t.length by have := E1.out; omega)]; rfl
      have hbl5 := hbuf th[k] (List.getElem_mem hlt)
      have hrc := hrow.le
      have hrm := hrow.mx
      unfold maxLen at hrm
      have hno1 := hno
      clear hno hrow
      have hgd2 := hgd.out
      rw [hgd2.1, hgd2.2] at hsn
      clear hgd hgd2
      generalize th[k] = x at *
      generalize t[k]'(by have := E1.out; omega) = row at *
      obtain ⟨pc, r0, r1, r2, r3, buf⟩ := x
      simp only at f0 f1 f2 f3 f4 f5 hb0 hbl5
      have hth : Hid (thrL vars dom m b ⟨pc, r0, r1, r2, r3, buf⟩ row.length = (decide (0 ≤ pc) && decide (pc ≤ row.length) && (inL dom r0 && inL dom r1 && inL dom r2 && inL dom r3) && waitsL vars dom m b buf)) := rfl
      go_wp2_with fail
      generalize hW : World.alloc wr _ = WA
      have hKA : Kp wr WA := by subst hW; exact (Kp.refl wr).alloc _
      have hKB : Kp w2 WA := by subst hW; exact hK.alloc _
      have yb : wr.heap.size < WA.heap.size := by subst hW; simp
      have a0 : WA.cell? ⟨wr.heap.size, 0, none⟩ = some (.int .i64 pc) := by subst hW; go_simp
      have a1 : WA.cell? ⟨wr.heap.size, 1, none⟩ = some (.int .i64 r0) := by subst hW; go_simp
      have a2 : WA.cell? ⟨wr.heap.size, 2, none⟩ = some (.int .i64 r1) := by subst hW; go_simp
      have a3 : WA.cell? ⟨wr.heap.size, 3, none⟩ = some (.int .i64 r2) := by subst hW; go_simp
      have a4 : WA.cell? ⟨wr.heap.size, 4, none⟩ = some (.int .i64 r3) := by subst hW; go_simp
      have a5 : WA.cell? ⟨wr.heap.size, 5, none⟩ = some (.slice ar buf.length kr) := by subst hW; go_simp
      have d0 : WA.cell? ⟨w.heap.size, 0, none⟩ = some (.int .i64 vars) := (hKB.2 _ _ y0).trans q0
      have d1 : WA.cell? ⟨w.heap.size, 1, none⟩ = some (.int .i64 dom) := (hKB.2 _ _ y0).trans q1
      have d2 : WA.cell? ⟨w.heap.size, 2, none⟩ = some (.slice (some ⟨bc, offc, none⟩) t.length capc) := (hKB.2 _ _ y0).trans q2
      have d3 : WA.cell? ⟨w.heap.size + 1, 0, none⟩ = some (.int .i64 m) := (hKB.2 _ _ y1).trans q3
      have d4 : WA.cell? ⟨w.heap.size + 1, 1, none⟩ = some (.int .i64 b) := (hKB.2 _ _ y1).trans q4
      have d5 : WA.cell? ⟨bc, offc + k, none⟩ = some (.slice ac' row.length kc) := (hKB.2 _ _ hcl).trans g0'
      have sA := hKB.1.size
      have u0 : w.heap.size < WA.heap.size := by omega
      have u1 : w.heap.size + 1 < WA.heap.size := by omega
      have u2 : bc < WA.heap.size := by omega
      have hI : Hid (IntIn WA (In_ WA) (some ⟨wr.heap.size, 1, none⟩) 4 4 [r0, r1, r2, r3]) := ⟨rfl, Nat.le_refl _, by decide, fun _ => ⟨wr.heap.size, 1, rfl, yb, fun i hi j hj => by
        obtain rfl : j = 0 := by omega
        have hi4 : i = 0 ∨ i = 1 ∨ i = 2 ∨ i = 3 := by simp at hi; omega
        rcases hi4 with rfl | rfl | rfl | rfl
        · exact a1
        · exact a2
        · exact a3
        · exact a4⟩⟩
      have hbufA := hid (hKB.en hb0)
      have hcf : Hid (∀ W, Kp WA W → Calls Tryz.prog 45 #[.slice (some ⟨wr.heap.size, 1, none⟩) 4 4, .func (.func 44) #[] #[.pointer (some ⟨w.heap.size, 0, none⟩)]] W fun e w' => e = .returned (.bool ([r0, r1, r2, r3].any fun n => !inL dom n)) ∧ w' = W) := fun W h =>
        intContains_any dom [r0, r1, r2, r3] w.heap.size _ 4 W (h.ints hI.out) (Nat.lt_of_lt_of_le u0 h.1.size) ((h.2 _ _ u0).trans d1)
      have hwt : Hid (∀ W, Kp WA W → Calls Tryz.prog 46 #[.agg #[.int .i64 vars, .int .i64 dom, .slice (some ⟨bc, offc, none⟩) t.length capc], .agg #[.int .i64 m, .int .i64 b], .slice ar buf.length kr] W fun e w' => e = .returned (.bool (waitsL vars dom m b buf)) ∧ Below W.heap.size W w') := fun W h =>
        waits_any vars dom m b _ ar buf.length kr buf W (h.en hbufA.out) hbl5
      have hrg : Hid (([r0, r1, r2, r3].any fun n => !inL dom n) = !(inL dom r0 && inL dom r1 && inL dom r2 && inL dom r3)) := regs_any dom ⟨pc, r0, r1, r2, r3, buf⟩
      have HKB := hid hKB
      have bnd := hid (hW.symm)
      clear hW hKA hKB hK hI hbufA hb0 f0 f1 f2 f3 f4 f5 g0' q0 q1 q2 q3 q4 bnd
      generalize ([r0, r1, r2, r3].any fun n => !inL dom n) = yr at *
      generalize waitsL vars dom m b buf = yw at *
      generalize (inL dom r0 && inL dom r1 && inL dom r2 && inL dom r3) = yi at *
      by_cases p0 : pc < 0
      · go_quiet (fail)
        have hKF := hid (drewN_kp HKB.out nq)
        go_wp2_with fail
        go_ret
        exact ⟨ret_bool (by rw [hbad.out (by rw [hth.out, decide_eq_false (show ¬ 0 ≤ pc by omega)]; rfl)]), HB2.out.trans (hKF.out.1.mono HB2.out.size)⟩
      cases p1 : decide ((row.length : Int) < pc)
      case true =>
        have p2 : Hid (¬ pc ≤ row.length) := by have := of_decide_eq_true p1; show ¬ _; omega
        go_quiet (fail)
        have hKF := hid (drewN_kp HKB.out nq)
        go_wp2_with fail
        go_ret
        exact ⟨ret_bool (by rw [hbad.out (by rw [hth.out, decide_eq_false (show ¬ pc ≤ row.length by have := p2.out; omega)]; simp)]), HB2.out.trans (hKF.out.1.mono HB2.out.size)⟩
      have p2 : Hid (pc ≤ row.length) := by have := of_decide_eq_false p1; show _ ≤ _; omega
      cases yr
      case true =>
        have hyi : Hid (yi = false) := flip_true hrg.out
        go_quiet ((go_at_call 45; exact Calls.quiet_of_same (hcf.out _ (drewN_kp (Kp.refl WA) _))))
        have hKF := hid (drewN_kp HKB.out nq)
        go_wp2_with fail
        go_ret
        exact ⟨ret_bool (by rw [hbad.out (by rw [hth.out, hyi.out]; simp)]), HB2.out.trans (hKF.out.1.mono HB2.out.size)⟩
      have hyi : Hid (yi = true) := flip_false hrg.out
      cases yw
      case false =>
        first
        | go_region_held3 (Kp WA)
            (first | exact Kp.start _ | assumption | exact Kp.next (by assumption) hb4)
            (first
              | (go_at_call 45
                 with_reducible refine (hcf.out _ ?_).mono ?_
                 (focus assumption)
                 rintro e w3 ⟨rfl, rfl⟩)
              | (go_at_call 46
                 with_reducible refine (hwt.out _ ?_).mono ?_
                 (focus assumption)
                 rintro e w4 ⟨rfl, hb4⟩)
              | fail)
        | fail
        rename_i hKp
        have hKF := hid (HKB.out.next hKp.1)
        clear hKp
        go_wp2_with fail
        go_ret
        exact ⟨ret_bool (by rw [hbad.out (by rw [hth.out]; simp)]), HB2.out.trans (hKF.out.1.mono HB2.out.size)⟩
      first
      | go_region_held3 (Kp WA)
          (first | exact Kp.start _ | assumption | exact Kp.next (by assumption) hb4)
          (first
            | (go_at_call 45
               with_reducible refine (hcf.out _ ?_).mono ?_
               (focus assumption)
               rintro e w3 ⟨rfl, rfl⟩)
            | (go_at_call 46
               with_reducible refine (hwt.out _ ?_).mono ?_
               (focus assumption)
               rintro e w4 ⟨rfl, hb4⟩)
            | fail)
      | fail
      rename_i hKp
      have hKF := hid (HKB.out.next hKp.1)
      clear hKp
      go_wp2_with fail
      go_roundw
      case rel => exact ⟨k + 1, by omega, by simp, by show _ = _; rw [hsn.out, hno1.out, hth.out, hyi.out, decide_eq_true (show 0 ≤ pc by omega), decide_eq_true p2.out]; rfl, hKF.out⟩
      case measure => simp [intOf]; omega
    · obtain rfl : k = th.length := by omega
      go_wp2_with fail
      go_ret
      exact ⟨ret_bool (by rw [hres2.out, hno.out]), HB2.out.trans (hK.1.mono HB2.out.size)⟩
end Go.Proofs.YtekmcoflagajkaaGreatDoor
