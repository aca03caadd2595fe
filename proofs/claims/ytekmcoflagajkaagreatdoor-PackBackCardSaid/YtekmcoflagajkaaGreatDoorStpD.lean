/- The document's word on what fits. -/
import Derived.Test.YtekmcoflagajkaaGreatDoorStpR
import Derived.Test.YtekmcoflagajkaaGreatDoorStpC
namespace Go.Proofs.YtekmcoflagajkaaGreatDoor
open Go.RowKit

/-- The boxes of code, machine and state. -/
structure Bx (w : World) (B : Nat) (vars dom m b : Int) (tv hv mv : Value) : Prop where
  l2 : B + 1 + 1 < w.heap.size
  l1 : B + 1 < w.heap.size
  l0 : B < w.heap.size
  c0 : w.cell? ⟨B, 0, none⟩ = some (.int .i64 vars)
  c1 : w.cell? ⟨B, 1, none⟩ = some (.int .i64 dom)
  c2 : w.cell? ⟨B, 2, none⟩ = some tv
  m0 : w.cell? ⟨B + 1, 0, none⟩ = some (.int .i64 m)
  m1 : w.cell? ⟨B + 1, 1, none⟩ = some (.int .i64 b)
  s0 : w.cell? ⟨B + 1 + 1, 0, none⟩ = some hv
  s1 : w.cell? ⟨B + 1 + 1, 1, none⟩ = some mv
theorem Bx.keep {w w' : World} {B : Nat} {vars dom m b : Int} {tv hv mv : Value} (h : Bx w B vars dom m b tv hv mv) (hK : Kp w w') : Bx w' B vars dom m b tv hv mv :=
  ⟨Nat.lt_of_lt_of_le h.l2 hK.1.size, Nat.lt_of_lt_of_le h.l1 hK.1.size, Nat.lt_of_lt_of_le h.l0 hK.1.size, (hK.2 _ _ h.l0).trans h.c0, (hK.2 _ _ h.l0).trans h.c1, (hK.2 _ _ h.l0).trans h.c2, (hK.2 _ _ h.l1).trans h.m0, (hK.2 _ _ h.l1).trans h.m1, (hK.2 _ _ h.l2).trans h.s0, (hK.2 _ _ h.l2).trans h.s1⟩
theorem inL_neg {dom n : Int} (h : n < 0) : inL dom n = false := by unfold inL; rw [decide_eq_false (show ¬ 0 ≤ n by omega)]; rfl
theorem inL_big {dom n : Int} (h : decide (dom ≤ n) = true) : inL dom n = false := by
  have := of_decide_eq_true h
  unfold inL
  rw [decide_eq_false (show ¬ n < dom by omega)]
  simp
theorem inL_ok {dom n : Int} (h0 : ¬ n < 0) (h : decide (dom ≤ n) = false) : inL dom n = true := by
  have := of_decide_eq_false h
  unfold inL
  rw [decide_eq_true (show 0 ≤ n by omega), decide_eq_true (show n < dom by omega)]
  rfl

set_option maxRecDepth 100000 in
set_option maxHeartbeats 16000000 in
theorem refFits_any (vars dom m b : Int) (ac : Option Addr) (nc capc : Nat) (t : List (List Ins)) (ah : Option Addr) (nh caph : Nat) (th : List Thr) (am : Option Addr) (nm capm : Nat) (mem : List Int) (bad : Bool) (w : World)
    (hc : ThsIn w (In_ w) ac nc capc t) (hh : ThrIn w (In_ w) ah nh caph th) (hm : IntIn w (In_ w) am nm capm mem) (hbuf : ∀ x ∈ th, x.buf.length ≤ 1000) :
    Calls Tryz.prog 21 #[.agg #[.int .i64 vars, .int .i64 dom, .slice ac nc capc], .agg #[.int .i64 m, .int .i64 b], .agg #[.slice ah nh caph, .slice am nm capm, .bool bad]] w fun e w' => e = .returned (.bool (fitsL vars dom t m b th mem)) ∧ Below w.heap.size w w' := by
  have hn1 := hc.1
  have hn2 := hh.1
  have hn3 := hm.1
  subst hn1 hn2 hn3
  have l1 := hc.le
  have l2 := hc.mx
  have l3 := hh.le
  have l4 := hh.mx
  have l5 := hm.2.le
  have l6 := hm.2.mx
  unfold maxLen at l2 l4 l6
  have hres : Hid (fitsL vars dom t m b th mem = (mayL vars dom t m b && decide (th.length = t.length) && decide ((mem.length : Int) = vars) && (mem.all fun n => inL dom n) && (List.range th.length).all fun i => thrL vars dom m b (th[i]?.getD .zero) (t[i]?.getD []).length)) := rfl
  obtain ⟨W0, hW⟩ : ∃ W0, W0 = ((w.alloc (.cells #[.int .i64 vars, .int .i64 dom, .slice ac t.length capc] 25)).alloc (.cells #[.int .i64 m, .int .i64 b] 30)).alloc (.cells #[.slice ah th.length caph, .slice am mem.length capm, .bool bad] 34) := ⟨_, rfl⟩
  have hB : Below w.heap.size w W0 := by subst hW; exact (((Below.refl _ _).alloc (Nat.le_refl _) _).alloc (by simp) _).alloc (by simp; omega) _
  have hX : Bx W0 w.heap.size vars dom m b (.slice ac t.length capc) (.slice ah th.length caph) (.slice am mem.length capm) := by
    subst hW
    refine ⟨by simp <;> omega, by simp <;> omega, by simp <;> omega, ?_, ?_, ?_, ?_, ?_, ?_, ?_⟩ <;> go_simp
  have hc0 := hid ((Kp.of hB).ths hc)
  have hh0 := hid ((Kp.of hB).thr hh)
  have hm0 := hid ((Kp.of hB).ints hm)
  have HB := hid hB
  have hWx := hid hW
  clear hW hB hc hh hm
  have hmay := hid (refMay_any vars dom m b ac t.length capc t W0 hc0.out)
  generalize mayL vars dom t m b = my at *
  have HX := hid hX
  obtain ⟨x2, x1, x0, c0, c1, c2, m0, m1, s0, s1⟩ := hX
  go_enter Tryz.func21, Tryz.ntmps21
  cases my
  case false =>
    go_wp2_with (first
      | (go_at_call 40; rw [← hWx.out]; (with_reducible refine hmay.out.mono ?_); rintro e w1 ⟨rfl, hb1⟩; have hK1 : Kp W0 w1 := Kp.of hb1)
      | fail)
    go_ret
    exact ⟨ret_bool (by rw [hres.out]; rfl), Kp.fin HB.out hK1⟩
  by_cases e1 : th.length = t.length
  case neg =>
    have e1' : ((th.length : Int) != t.length) = true := by rw [bne_iff_ne]; omega
    go_wp2_with (first
      | (go_at_call 40; rw [← hWx.out]; (with_reducible refine hmay.out.mono ?_); rintro e w1 ⟨rfl, hb1⟩; have hK1 : Kp W0 w1 := Kp.of hb1)
      | fail)
    go_ret
    exact ⟨ret_bool (by rw [hres.out]; rw [decide_eq_false e1]; rfl), Kp.fin HB.out hK1⟩
  have e1' : ((th.length : Int) != t.length) = false := by rw [bne_eq_false_iff_eq]; omega
  have E1 := hid e1
  clear e1
  by_cases e2 : (mem.length : Int) = vars
  case neg =>
    have e2' : ((mem.length : Int) != vars) = true := by rw [bne_iff_ne]; exact e2
    have E2 := hid e2
    clear e2
    go_wp2_with (first
      | (go_at_call 40; rw [← hWx.out]; (with_reducible refine hmay.out.mono ?_); rintro e w1 ⟨rfl, hb1⟩; have hK1 : Kp W0 w1 := Kp.of hb1)
      | fail)
    go_ret
    exact ⟨ret_bool (by rw [hres.out]; rw [decide_eq_false E2.out]; simp), Kp.fin HB.out hK1⟩
  have e2' : ((mem.length : Int) != vars) = false := by rw [bne_eq_false_iff_eq]; exact e2
  have E2 := hid e2
  clear e2
  have hres2 : Hid (fitsL vars dom t m b th mem = ((mem.all fun n => inL dom n) && (List.range th.length).all fun i => thrL vars dom m b (th[i]?.getD .zero) (t[i]?.getD []).length)) := by
    show _ = _
    rw [hres.out, decide_eq_true E1.out, decide_eq_true E2.out]
    rfl
  clear hres
  go_wp2_with (first
    | (go_at_call 40; rw [← hWx.out]; (with_reducible refine hmay.out.mono ?_); rintro e w1 ⟨rfl, hb1⟩; have hK1 : Kp W0 w1 := Kp.of hb1)
    | fail)
  have hc2 := hid (hK1.ths hc0.out)
  have hh2 := hid (hK1.thr hh0.out)
  have hm2 := hid (hK1.ints hm0.out)
  have HB2 := hid (Kp.fin HB.out hK1)
  have hX1 := hid (HX.out.keep hK1)
  clear hmay hWx hb1 hK1 x2 x1 x0 c0 c1 c2 m0 m1 s0 s1 HX hc0 hh0 hm0 HB
  go_loopw [7] (fun i wr => ∃ k : Nat, k ≤ mem.length ∧ i = .int .i64 k ∧ Hid (((mem.take k).all fun n => inL dom n) = true) ∧ Kp w1 wr) (fun i _ => mem.length - (intOf i).toNat)
  case atStart => exact ⟨0, Nat.zero_le _, rfl, (rfl : _ = _), Kp.refl _⟩
  case round =>
    obtain ⟨k, hk, rfl, hno, hK⟩ := hrel
    obtain ⟨x2, x1, x0, c0, c1, c2, m0, m1, s0, s1⟩ := hX1.out.keep hK
    by_cases hlt : k < mem.length
    · obtain ⟨bb, off, rfl, hbb, f0⟩ := hm2.out.at_ k hlt
      have k0 : (0 : Int) ≤ k := by omega
      have k1 : (k : Int) < mem.length := by omega
      have g3 : bb < wr.heap.size := Nat.lt_of_lt_of_le hbb hK.1.size
      have f0' : wr.cell? ⟨bb, off + k, none⟩ = some (.int .i64 mem[k]) := (hK.2 _ _ hbb).trans f0
      have htk := hid (all_snoc (fun n => inL dom n) mem k hlt hno.out)
      have hbad : Hid (inL dom mem[k] = false → fitsL vars dom t m b th mem = false) := fun h => by rw [hres2.out, all_false (fun n => inL dom n) mem k hlt h]; rfl
      have HK := hid hK
      clear hK hno f0
      generalize mem[k] = n at *
      by_cases n0 : n < 0
      · go_wp2_with fail
        go_quiet (fail)
        have hKF := hid (drewN_kp HK.out nq)
        go_wp2_with fail
        go_ret
        exact ⟨ret_bool (by rw [hbad.out (inL_neg n0)]), HB2.out.trans (hKF.out.1.mono HB2.out.size)⟩
      cases n1 : decide (dom ≤ n)
      case true =>
        have n2 := hid (inL_big n1)
        go_wp2_with fail
        go_quiet (fail)
        have hKF := hid (drewN_kp HK.out nq)
        go_wp2_with fail
        go_ret
        exact ⟨ret_bool (by rw [hbad.out n2.out]), HB2.out.trans (hKF.out.1.mono HB2.out.size)⟩
      have n2 := hid (inL_ok n0 n1)
      go_wp2_with fail
      go_quiet (fail)
      have hKF := hid (drewN_kp HK.out nq)
      go_wp2_with fail
      go_roundw
      case rel => exact ⟨k + 1, by omega, by simp, by show _ = _; rw [htk.out, n2.out], hKF.out⟩
      case measure => simp [intOf]; omega
    · obtain rfl : k = mem.length := by omega
      rw [List.take_length] at hno
      have hres3 : Hid (fitsL vars dom t m b th mem = (List.range th.length).all fun i => thrL vars dom m b (th[i]?.getD .zero) (t[i]?.getD []).length) := by
        show _ = _
        rw [hres2.out, hno.out]
        rfl
      have HK := hid hK
      clear hno hlt
      go_wp2_with fail
      clear x2 x1 x0 c0 c1 c2 m0 m1 s0 s1
      go_loopw [8] (fun i wr => ∃ k : Nat, k ≤ th.length ∧ i = .int .i64 k ∧ Hid ((List.range k).all (fun i => thrL vars dom m b (th[i]?.getD .zero) (t[i]?.getD []).length) = true) ∧ Kp w1 wr) (fun i _ => th.length - (intOf i).toNat)
      case atStart => exact ⟨0, Nat.zero_le _, rfl, (rfl : _ = _), HK.out⟩
      case round =>
        clear HK hK
        obtain ⟨k, hk, rfl, hno, hK⟩ := hrel
        obtain ⟨x2, x1, x0, c0, c1, c2, m0, m1, s0, s1⟩ := hX1.out.keep hK
        by_cases hlt : k < th.length
        · obtain ⟨bb, off, ar, kr, rfl, hbb, ⟨f0, f1, f2⟩, ⟨f3, f4, f5⟩, hb0⟩ := hh2.out.at_ k hlt
          obtain ⟨bc, offc, ac', kc, rfl, hbc, g0', hrow⟩ := hc2.out.at_ k (by have := E1.out; omega)
          have hbl := hbb.lt
          have hcl := hbc.lt
          have k0 : (0 : Int) ≤ k := by omega
          have k1 : (k : Int) < th.length := by omega
          have k2 : (k : Int) < t.length := by have := E1.out; omega
          have g0 := hK.1.size
          have g3 : bb < wr.heap.size := by omega
          have hsn := hid (range_snoc (fun i => thrL vars dom m b (th[i]?.getD .zero) (t[i]?.getD []).length) k)
          have hbad : Hid (thrL vars dom m b th[k] (t[k]'(by have := E1.out; omega)).length = false → fitsL vars dom t m b th mem = false) := fun h => by
            rw [hres3.out]
            refine range_false _ _ k hlt ?_
            simp only [List.getElem?_eq_getElem hlt, List.getElem?_eq_getElem (show k < t.length by have := E1.out; omega), Option.getD_some]
            exact h
          have hgd : Hid ((th[k]?.getD .zero) = th[k] ∧ (t[k]?.getD []) = (t[k]'(by have := E1.out; omega))) := by
            refine ⟨?_, ?_⟩
            · rw [List.getElem?_eq_getElem hlt]; rfl
            · rw [List.getElem?_eq_getElem (show k < t.length by have := E1.out; omega)]; rfl
          have hbl5 := hbuf th[k] (List.getElem_mem hlt)
          have hrc := hrow.le
          have hrm := hrow.mx
          unfold maxLen at hrm
          have hno1 := hno
          have hgd2 := hgd.out
          rw [hgd2.1, hgd2.2] at hsn
          clear hno hrow hgd hgd2
          generalize th[k] = x at *
          generalize t[k]'(by have := E1.out; omega) = row at *
          obtain ⟨pc, r0, r1, r2, r3, buf⟩ := x
          simp only at f0 f1 f2 f3 f4 f5 hb0 hbl5
          have hth : Hid (thrL vars dom m b ⟨pc, r0, r1, r2, r3, buf⟩ row.length = (decide (0 ≤ pc) && decide (pc ≤ row.length) && (inL dom r0 && inL dom r1 && inL dom r2 && inL dom r3) && waitsL vars dom m b buf)) := rfl
          go_wp2_with fail
          generalize hW : World.alloc wr _ = WA
          have hKB : Kp w1 WA := by subst hW; exact hK.alloc _
          have yb : wr.heap.size < WA.heap.size := by subst hW; simp
          have a0 : WA.cell? ⟨wr.heap.size, 0, none⟩ = some (.int .i64 pc) := by subst hW; go_simp
          have a1 : WA.cell? ⟨wr.heap.size, 1, none⟩ = some (.int .i64 r0) := by subst hW; go_simp
          have a2 : WA.cell? ⟨wr.heap.size, 2, none⟩ = some (.int .i64 r1) := by subst hW; go_simp
          have a3 : WA.cell? ⟨wr.heap.size, 3, none⟩ = some (.int .i64 r2) := by subst hW; go_simp
          have a4 : WA.cell? ⟨wr.heap.size, 4, none⟩ = some (.int .i64 r3) := by subst hW; go_simp
          have a5 : WA.cell? ⟨wr.heap.size, 5, none⟩ = some (.slice ar buf.length kr) := by subst hW; go_simp
          have d5 : WA.cell? ⟨bc, offc + k, none⟩ = some (.slice ac' row.length kc) := (hKB.2 _ _ hcl).trans g0'
          have hI : Hid (IntIn WA (In_ WA) (some ⟨wr.heap.size, 1, none⟩) 4 4 [r0, r1, r2, r3]) := ⟨rfl, Nat.le_refl _, by decide, fun _ => ⟨wr.heap.size, 1, rfl, yb, fun i hi j hj => by
            obtain rfl : j = 0 := by omega
            have hi4 : i = 0 ∨ i = 1 ∨ i = 2 ∨ i = 3 := by simp at hi; omega
            rcases hi4 with rfl | rfl | rfl | rfl
            · exact a1
            · exact a2
            · exact a3
            · exact a4⟩⟩
          have hbufA := hid (hKB.en hb0)
          have u2 : bc < WA.heap.size := by have := hKB.1.size; omega
          have hXA := hid (hX1.out.keep hKB)
          have HKB := hid hKB
          clear x2 x1 x0 c0 c1 c2 m0 m1 s0 s1 hKB hb0 f0 f1 f2 f3 f4 f5 g0' a1 a2 a3 a4
          have Hbox := hid hW
          clear hW Hbox
          have hK9 := hid hK
          clear hK9
          generalize wr.heap.size = tb at *
          obtain ⟨x2, x1, x0, c0, c1, c2, m0, m1, s0, s1⟩ := hXA.out
          by_cases p0 : pc < 0
          · go_quiet (fail)
            have hKF := hid (drewN_kp HKB.out nq)
            go_wp2_with fail
            go_ret
            exact ⟨ret_bool (by rw [hbad.out (by rw [hth.out, decide_eq_false (show ¬ 0 ≤ pc by omega)]; rfl)]), HB2.out.trans (hKF.out.1.mono HB2.out.size)⟩
          cases p1 : decide ((row.length : Int) < pc)
          case true =>
            have p2 : Hid (decide (pc ≤ (row.length : Int)) = false) := by have := of_decide_eq_true p1; exact decide_eq_false (by omega)
            go_quiet (fail)
            have hKF := hid (drewN_kp HKB.out nq)
            go_wp2_with fail
            go_ret
            exact ⟨ret_bool (by rw [hbad.out (by rw [hth.out, p2.out]; simp)]), HB2.out.trans (hKF.out.1.mono HB2.out.size)⟩
          have p2 : Hid (decide (pc ≤ (row.length : Int)) = true) := by have := of_decide_eq_false p1; exact decide_eq_true (by omega)
          have p3 : Hid (decide (0 ≤ pc) = true) := decide_eq_true (by omega)
          go_quiet (fail)
          have hKq := hid (drewN_kp (Kp.refl WA) nq)
          clear x2 x1 x0 c0 c1 c2 m0 m1 s0 s1 a0 d5 p0 p1
          go_wp2_with fail
          go_loopw [10] (fun i wr => ∃ j : Nat, j ≤ 4 ∧ i = .int .i64 j ∧ Hid ((([r0, r1, r2, r3] : List Int).take j).all (fun n => inL dom n) = true) ∧ Kp WA wr) (fun i _ => 4 - (intOf i).toNat)
          case atStart => exact ⟨0, by omega, rfl, (rfl : _ = _), hKq.out⟩
          case round =>
            clear hKq
            obtain ⟨j, hj, rfl, hnj, hK⟩ := hrel
            obtain ⟨x2, x1, x0, c0, c1, c2, m0, m1, s0, s1⟩ := hXA.out.keep hK
            by_cases hj4 : j < 4
            · obtain ⟨bz, oz, hz, hbz, f0⟩ := hI.out.at_ j (by simpa using hj4)
              cases hz
              have yb' : tb < wr.heap.size := Nat.lt_of_lt_of_le yb hK.1.size
              have f0' := (hK.2 _ _ yb).trans f0
              have j0 : (0 : Int) ≤ j := by omega
              have j1 : (j : Int) < 4 := by omega
              have htk := hid (all_snoc (fun n => inL dom n) [r0, r1, r2, r3] j (by simpa using hj4) hnj.out)
              have hbj : Hid (inL dom ([r0, r1, r2, r3][j]'(by simpa using hj4)) = false → (inL dom r0 && inL dom r1 && inL dom r2 && inL dom r3) = false) := fun h => by
                have := all_false (fun n => inL dom n) [r0, r1, r2, r3] j (by simpa using hj4) h
                simpa [Bool.and_assoc] using this
              have HK := hid hK
              clear hK hnj f0
              generalize ([r0, r1, r2, r3][j]'(by simpa using hj4)) = n at *
              by_cases n0 : n < 0
              · go_wp2_with fail
                go_quiet (fail)
                have hKF := hid (HKB.out.next (drewN_kp HK.out nq).1)
                go_wp2_with fail
                go_ret
                exact ⟨ret_bool (by rw [hbad.out (by rw [hth.out, hbj.out (inL_neg n0)]; simp)]), HB2.out.trans (hKF.out.1.mono HB2.out.size)⟩
              cases n1 : decide (dom ≤ n)
              case true =>
                have n2 := hid (inL_big n1)
                go_wp2_with fail
                go_quiet (fail)
                have hKF := hid (HKB.out.next (drewN_kp HK.out nq).1)
                go_wp2_with fail
                go_ret
                exact ⟨ret_bool (by rw [hbad.out (by rw [hth.out, hbj.out n2.out]; simp)]), HB2.out.trans (hKF.out.1.mono HB2.out.size)⟩
              have n2 := hid (inL_ok n0 n1)
              go_wp2_with fail
              go_quiet (fail)
              have hKF := hid (drewN_kp HK.out nq)
              go_wp2_with fail
              go_roundw
              case rel => exact ⟨j + 1, by omega, by simp, by show _ = _; rw [htk.out, n2.out], hKF.out⟩
              case measure => simp [intOf]; omega
            · obtain rfl : j = 4 := by omega
              have hyi : Hid ((inL dom r0 && inL dom r1 && inL dom r2 && inL dom r3) = true) := by
                have := hnj.out
                show _ = _
                simpa [Bool.and_assoc] using this
              have hres4 : Hid (thrL vars dom m b ⟨pc, r0, r1, r2, r3, buf⟩ row.length = waitsL vars dom m b buf) := by
                show _ = _
                rw [hth.out, p3.out, p2.out, hyi.out]
                rfl
              have hbw0 : Hid (waitsL vars dom m b buf = false → fitsL vars dom t m b th mem = false) := fun h => hbad.out (by rw [hres4.out, h])
              have HK := hid hK
              clear hnj hj hj4 hth hyi p2 p3 hI x2 x1 x0 c0 c1 c2 m0 m1 s0 s1
              go_wp2_with fail
              go_loopw [11, 12] (fun o i wr => ∃ q : Nat, q ≤ buf.length ∧ i = .int .i64 q ∧ Hid ((List.range q).all (fun j => waitL vars dom m b buf j) = true) ∧ Kp WA wr ∧ ∃ a1 c1, o = .slice a1 (buf.take q).length c1 ∧ Hid (EnIn wr (In_ wr) a1 (buf.take q).length c1 (buf.take q))) (fun _ i _ => buf.length - (intOf i).toNat)
              case atStart => exact ⟨0, Nat.zero_le _, rfl, (rfl : _ = _), HK.out, none, 0, rfl, EnIn.nil_⟩
              case round =>
                clear HK hK
                obtain ⟨q, hq, rfl, hnq, hK, a1, c1', rfl, hO⟩ := hrel
                obtain ⟨x2, x1, x0, c0, c1, c2, m0, m1, s0, s1⟩ := hXA.out
                by_cases hlq : q < buf.length
                · obtain ⟨bb', off', rfl, hbb', f0, f1⟩ := hbufA.out.at_ q hlq
                  have hbl' := hbb'.lt
                  have q0 : (0 : Int) ≤ q := by omega
                  have q1 : (q : Int) < buf.length := by omega
                  have g0 := hK.1.size
                  have hsq := hid (range_snoc (fun j => waitL vars dom m b buf j) q)
                  have hbw : Hid (waitL vars dom m b buf q = false → fitsL vars dom t m b th mem = false) := fun h => hbw0.out (range_false _ _ q hlq h)
                  have hwk : Hid (waitL vars dom m b buf q = ((putL m b buf[q] (buf.take q)).2 && inL vars buf[q].1 && inL dom buf[q].2)) := by
                    show _ = _
                    unfold waitL
                    rw [List.getElem?_eq_getElem hlq]
                  have hle : Hid ((buf.take q).length ≤ 1000) := by show _ ≤ _; rw [List.length_take]; omega
                  have hts : Hid (buf.take (q + 1) = buf.take q ++ [buf[q]]) := List.take_succ_eq_append_getElem hlq
                  have hps := hid (putL_snd m b buf[q] (buf.take q))
                  obtain ⟨X1, hX1'⟩ : ∃ X1, X1 = buf.take (q + 1) := ⟨_, rfl⟩
                  rw [← hX1'] at hts
                  have HX1 := hid hX1'
                  clear hX1'
                  generalize buf.take q = X at *
                  generalize buf[q] = x at *
                  obtain ⟨v, u⟩ := x
                  simp only at f0 f1
                  obtain ⟨P, hP⟩ : ∃ P, putL m b (v, u) X = P := ⟨_, rfl⟩
                  rw [hP] at hwk hps
                  have HP := hid hP
                  clear hP
                  obtain ⟨X', is⟩ := P
                  simp only at hwk hps
                  have hA : Kp WA (wr.alloc (.cells #[.int .i64 v, .int .i64 u] 66)) := hK.alloc _
                  have hput := hid (refPut_any a1 X.length c1' X m b v u (wr.alloc (.cells #[.int .i64 v, .int .i64 u] 66)) (((Kp.refl wr).alloc _).en hO.out) hle.out)
                  rw [HP.out] at hput
                  cases is
                  case false =>
                    go_wp2_with (first
                      | (go_at_call 41
                         with_reducible refine hput.out.mono ?_
                         rintro e w3 ⟨a3, c3, rfl, hp3, hb3⟩
                         have hK3 : Kp WA w3 := hA.next hb3
                         have p0 : w3.cell? ⟨wr.heap.size, 0, none⟩ = some (.int .i64 v) := (hb3.cell (p := ⟨_, _, none⟩) (by simp)).trans (by go_simp)
                         have p1 : w3.cell? ⟨wr.heap.size, 1, none⟩ = some (.int .i64 u) := (hb3.cell (p := ⟨_, _, none⟩) (by simp)).trans (by go_simp)
                         have g5 : wr.heap.size < w3.heap.size := by have := hb3.size; simp at this; omega
                         have hq3 := hid hp3
                         clear hp3 hb3)
                      | fail)
                    go_ret
                    exact ⟨ret_bool (by rw [hbw.out (by rw [hwk.out]; rfl)]), HB2.out.trans ((HKB.out.next hK3.1).1.mono HB2.out.size)⟩
                  have hXs : Hid (X' = X1) := by show _ = _; rw [hts.out]; exact hps.out rfl
                  by_cases v0 : v < 0
                  · have hi := hid (inL_neg (dom := vars) v0)
                    go_wp2_with (first
                      | (go_at_call 41
                         with_reducible refine hput.out.mono ?_
                         rintro e w3 ⟨a3, c3, rfl, hp3, hb3⟩
                         have hK3 : Kp WA w3 := hA.next hb3
                         have p0 : w3.cell? ⟨wr.heap.size, 0, none⟩ = some (.int .i64 v) := (hb3.cell (p := ⟨_, _, none⟩) (by simp)).trans (by go_simp)
                         have p1 : w3.cell? ⟨wr.heap.size, 1, none⟩ = some (.int .i64 u) := (hb3.cell (p := ⟨_, _, none⟩) (by simp)).trans (by go_simp)
                         have g5 : wr.heap.size < w3.heap.size := by have := hb3.size; simp at this; omega
                         have hq3 := hid hp3
                         clear hp3 hb3)
                      | fail)
                    go_ret
                    exact ⟨ret_bool (by rw [hbw.out (by rw [hwk.out]; rw [hi.out]; rfl)]), HB2.out.trans ((HKB.out.next hK3.1).1.mono HB2.out.size)⟩
                  cases v1 : decide (vars ≤ v)
                  case true =>
                    have hi := hid (inL_big v1)
                    go_wp2_with (first
                      | (go_at_call 41
                         with_reducible refine hput.out.mono ?_
                         rintro e w3 ⟨a3, c3, rfl, hp3, hb3⟩
                         have hK3 : Kp WA w3 := hA.next hb3
                         have p0 : w3.cell? ⟨wr.heap.size, 0, none⟩ = some (.int .i64 v) := (hb3.cell (p := ⟨_, _, none⟩) (by simp)).trans (by go_simp)
                         have p1 : w3.cell? ⟨wr.heap.size, 1, none⟩ = some (.int .i64 u) := (hb3.cell (p := ⟨_, _, none⟩) (by simp)).trans (by go_simp)
                         have g5 : wr.heap.size < w3.heap.size := by have := hb3.size; simp at this; omega
                         have hq3 := hid hp3
                         clear hp3 hb3)
                      | fail)
                    go_ret
                    exact ⟨ret_bool (by rw [hbw.out (by rw [hwk.out]; rw [hi.out]; rfl)]), HB2.out.trans ((HKB.out.next hK3.1).1.mono HB2.out.size)⟩
                  have hi := hid (inL_ok v0 v1)
                  by_cases u0 : u < 0
                  · have hj := hid (inL_neg (dom := dom) u0)
                    go_wp2_with (first
                      | (go_at_call 41
                         with_reducible refine hput.out.mono ?_
                         rintro e w3 ⟨a3, c3, rfl, hp3, hb3⟩
                         have hK3 : Kp WA w3 := hA.next hb3
                         have p0 : w3.cell? ⟨wr.heap.size, 0, none⟩ = some (.int .i64 v) := (hb3.cell (p := ⟨_, _, none⟩) (by simp)).trans (by go_simp)
                         have p1 : w3.cell? ⟨wr.heap.size, 1, none⟩ = some (.int .i64 u) := (hb3.cell (p := ⟨_, _, none⟩) (by simp)).trans (by go_simp)
                         have g5 : wr.heap.size < w3.heap.size := by have := hb3.size; simp at this; omega
                         have hq3 := hid hp3
                         clear hp3 hb3)
                      | fail)
                    go_ret
                    exact ⟨ret_bool (by rw [hbw.out (by rw [hwk.out]; rw [hj.out]; simp)]), HB2.out.trans ((HKB.out.next hK3.1).1.mono HB2.out.size)⟩
                  cases u1 : decide (dom ≤ u)
                  case true =>
                    have hj := hid (inL_big u1)
                    go_wp2_with (first
                      | (go_at_call 41
                         with_reducible refine hput.out.mono ?_
                         rintro e w3 ⟨a3, c3, rfl, hp3, hb3⟩
                         have hK3 : Kp WA w3 := hA.next hb3
                         have p0 : w3.cell? ⟨wr.heap.size, 0, none⟩ = some (.int .i64 v) := (hb3.cell (p := ⟨_, _, none⟩) (by simp)).trans (by go_simp)
                         have p1 : w3.cell? ⟨wr.heap.size, 1, none⟩ = some (.int .i64 u) := (hb3.cell (p := ⟨_, _, none⟩) (by simp)).trans (by go_simp)
                         have g5 : wr.heap.size < w3.heap.size := by have := hb3.size; simp at this; omega
                         have hq3 := hid hp3
                         clear hp3 hb3)
                      | fail)
                    go_ret
                    exact ⟨ret_bool (by rw [hbw.out (by rw [hwk.out]; rw [hj.out]; simp)]), HB2.out.trans ((HKB.out.next hK3.1).1.mono HB2.out.size)⟩
                  have hj := hid (inL_ok u0 u1)
                  go_wp2_with (first
                    | (go_at_call 41
                       with_reducible refine hput.out.mono ?_
                       rintro e w3 ⟨a3, c3, rfl, hp3, hb3⟩
                       have hK3 : Kp WA w3 := hA.next hb3
                       have p0 : w3.cell? ⟨wr.heap.size, 0, none⟩ = some (.int .i64 v) := (hb3.cell (p := ⟨_, _, none⟩) (by simp)).trans (by go_simp)
                       have p1 : w3.cell? ⟨wr.heap.size, 1, none⟩ = some (.int .i64 u) := (hb3.cell (p := ⟨_, _, none⟩) (by simp)).trans (by go_simp)
                       have g5 : wr.heap.size < w3.heap.size := by have := hb3.size; simp at this; omega
                       have hq3 := hid hp3
                       clear hp3 hb3)
                    | fail)
                  go_roundw
                  case rel => (repeat apply Exists.intro); refine ⟨?_, rfl⟩; exact ⟨q + 1, by omega, by simp, by show _ = _; rw [hsq.out, hnq.out, hwk.out, hi.out, hj.out]; rfl, hK3, a3, c3, by rw [← HX1.out, ← hXs.out], by rw [← HX1.out, ← hXs.out]; exact hq3⟩
                  case measure => simp [intOf]; omega
                · obtain rfl : q = buf.length := by omega
                  have hfin : Hid (waitsL vars dom m b buf = true) := hnq.out
                  obtain ⟨x2', x1', x0', c0', c1'', c2', m0', m1', s0', s1'⟩ := hXA.out.keep hK
                  go_wp2_with fail
                  go_roundw
                  case rel => exact ⟨k + 1, by omega, by simp, by show _ = _; rw [hsn.out, hno1.out, hres4.out, hfin.out]; rfl, HKB.out.next hK.1⟩
                  case measure => simp [intOf]; omega
        · obtain rfl : k = th.length := by omega
          go_wp2_with fail
          go_ret
          exact ⟨ret_bool (by rw [hres3.out, hno.out]), HB2.out.trans (hK.1.mono HB2.out.size)⟩
end Go.Proofs.YtekmcoflagajkaaGreatDoor
