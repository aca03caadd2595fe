/- CodeSize, walked. -/
import Derived.Test.YtcgpobeidlimkaaGreatDoorBunX
import Derived.Test.YtcgpobeidlimkaaGreatDoorCdN
import Derived.Test.YtcgpobeidlimkaaGreatDoorBunZ
namespace Go.Proofs.YtcgpobeidlimkaaGreatDoor
open Go.RowKit

/-- How many instructions each thread has. -/
theorem size_ths {p : Pg} (h : rightP p = true) : (cmpT p.ths).length = p.ths.length ∧ ∀ i (hi : i < p.ths.length) (hj : i < (cmpT p.ths).length), (cmpT p.ths)[i].length = manyL p.ths[i] ∧ manyL p.ths[i] ≤ 400 := by
  have hc := (rightP_cnt h).2
  unfold rightP sumT okT at h
  simp only [Bool.and_eq_true, List.all_eq_true] at h
  have hok := h.2.1
  refine ⟨by simp [cmpT], fun i hi hj => ?_⟩
  have h1 := cmpL_many (hok _ (List.getElem_mem hi)) 0
  have h2 := cmpL_len p.ths[i] 0
  have h3 := hc i hi
  have h4 : (cmpT p.ths)[i] = cmpL p.ths[i] 0 := by simp [cmpT]
  rw [h4, h1]
  exact ⟨rfl, by omega⟩
theorem any_take (T : List (List St)) (k : Nat) (hk : k < T.length) : ((T.take (k + 1)).map loopL).any id = (((T.take k).map loopL).any id || loopL T[k]) := by
  rw [List.take_succ_eq_append_getElem hk, List.map_append, List.any_append]
  simp

set_option maxRecDepth 100000 in
set_option maxHeartbeats 8000000 in
theorem codeSize_walk (la : Option Addr) (ln lc : Nat) (w : World) (hl : U8s w (In_ w) la ln lc) :
    Calls Tryz.prog 7 #[.slice la ln lc] w fun e w' => e = .returned (.bool true) ∧ Below w.heap.size w w' := by
  have Hl := hid hl
  have haw := hid (fun W => awake_any W)
  clear hl
  go_enter Tryz.func7, Tryz.ntmps7
  go_wp2_with fail
  refine (haw.out w).mono ?_
  rintro e w1 ⟨rfl, hb1⟩
  have HK1 := hid (Kp.of hb1)
  clear hb1
  go_wp2_with fail
  refine (kinds_any w1).mono ?_
  rintro e w2 ⟨rfl, hK2, hb2⟩
  have HK2 := hid (HK1.out.next hb2)
  have hl2 : U8s w2 (In_ w2) la ln lc := (Hl.out.keep fun b o hb => HK2.out.2 b o hb).widen (In_.mono HK2.out.1.size)
  have hmade := hid (madeP_any w2 la ln lc _ 13 13 hl2 hK2)
  clear hl2 hK2 hb2 Hl
  go_wp2_with fail
  refine hmade.out.mono ?_
  intro e w3 hp3
  obtain ⟨p, cs, rfl, hP, hright, -, -, -, hb3⟩ := hp3.right
  have hP0 := hP
  obtain ⟨va, cv, ta, ct, rfl, hvr, hts, -⟩ := hP
  have HK3 := hid (HK2.out.next hb3)
  generalize hW : w3.alloc (.cells #[.slice va p.vars.length cv, .int .i64 p.dom, .slice ta p.ths.length ct] 25) = W0
  have hB : Below w3.heap.size w3 W0 := by subst hW; exact (Below.refl _ _).alloc (Nat.le_refl _) _
  have z0 : w3.heap.size < W0.heap.size := by subst hW; simp
  have c0 : W0.cell? ⟨w3.heap.size, 0, none⟩ = some (.slice va p.vars.length cv) := by subst hW; go_simp
  have c1 : W0.cell? ⟨w3.heap.size, 1, none⟩ = some (.int .i64 p.dom) := by subst hW; go_simp
  have c2 : W0.cell? ⟨w3.heap.size, 2, none⟩ = some (.slice ta p.ths.length ct) := by subst hW; go_simp
  have hP1 := (Kp.of hB).pg hP0
  have h4 := hid (pCompile_any p _ W0 hP1)
  have hrR : Hid (∀ W, Kp W0 W → Calls Tryz.prog 19 #[.agg #[.slice va p.vars.length cv, .int .i64 p.dom, .slice ta p.ths.length ct]] W fun e w' => e = .returned (.bool true) ∧ Below W.heap.size W w') := fun W hW => by
    have := rRight_any p _ W (hW.pg hP1)
    rw [hright] at this
    exact this
  have Hts := hid ((Kp.of hB).ts hts)
  have htl := hts.le
  have htm := hts.mx
  have hvl := hvr.le
  have hvm := hvr.mx
  unfold maxLen at htm hvm
  have HB0 := hid (HK3.out.next hB)
  have HSz := hid (size_ths hright)
  have HRt := hid (rightL_cmp hright)
  have HFw := hid (forwardL_cmp hright)
  have Hright := hid hright
  have hWx := hid hW
  clear hp3 hb3 hmade hP0 hP1 hright HK1 HK2 hvr hts hW hB HK3
  go_wp2_with fail
  rw [hWx.out]
  refine h4.out.mono ?_
  intro e w4 hp4
  obtain ⟨a, k, rfl, hT, hb4⟩ := hp4.ok Hright.out
  have hK4 : Kp W0 w4 := Kp.of hb4
  have z4 : w3.heap.size < w4.heap.size := Nat.lt_of_lt_of_le z0 hb4.size
  have hlen := HSz.out.1
  have HSz := hid HSz.out.2
  clear hp4 hb4 h4 Hright
  generalize hX : cmpT p.ths = X at *
  generalize p.vars.length = vars at *
  generalize p.dom = dom at *
  generalize p.ths = T at *
  clear hX
  rw [hlen] at hT
  generalize hV5 : w4.alloc (.cells #[.int .i64 vars, .int .i64 dom, .slice a T.length k] 30) = W5
  have hB5 : Below w4.heap.size w4 W5 := by subst hV5; exact (Below.refl _ _).alloc (Nat.le_refl _) _
  have y0 : W5.cell? ⟨w4.heap.size, 0, none⟩ = some (.int .i64 vars) := by subst hV5; go_simp
  have y1 : W5.cell? ⟨w4.heap.size, 1, none⟩ = some (.int .i64 dom) := by subst hV5; go_simp
  have y2 : W5.cell? ⟨w4.heap.size, 2, none⟩ = some (.slice a T.length k) := by subst hV5; go_simp
  have z5 : w4.heap.size < W5.heap.size := by subst hV5; simp
  have hK5 : Kp W0 W5 := hK4.next hB5
  have x0 := (hK5.2 w3.heap.size 0 z0).trans c0
  have x1 := (hK5.2 w3.heap.size 1 z0).trans c1
  have x2 := (hK5.2 w3.heap.size 2 z0).trans c2
  have z6 : w3.heap.size < W5.heap.size := by omega
  have HT5 := hid ((Kp.of hB5).ths hT)
  have hxl := hT.le
  rw [hlen] at hxl
  have hxm := hT.mx
  unfold maxLen at hxm
  have HK5 := hid hK5
  have hV5x := hid hV5
  clear hV5 hB5 hT c0 c1 c2 hK4 hK5
  go_upto_region 6 with fail
  rw [hV5x.out]
  go_wp2_with fail
  refine (hrR.out W5 HK5.out).mono ?_
  rintro e w6 ⟨rfl, hb6⟩
  have hK6 : Kp W5 w6 := Kp.of hb6
  have z7 : w3.heap.size < w6.heap.size := Nat.lt_of_lt_of_le z6 hb6.size
  have z8 : w4.heap.size < w6.heap.size := Nat.lt_of_lt_of_le z5 hb6.size
  have X0 := (hK6.2 w3.heap.size 0 z6).trans x0
  have X1 := (hK6.2 w3.heap.size 1 z6).trans x1
  have X2 := (hK6.2 w3.heap.size 2 z6).trans x2
  have Y0 := (hK6.2 w4.heap.size 0 z5).trans y0
  have Y1 := (hK6.2 w4.heap.size 1 z5).trans y1
  have Y2 := (hK6.2 w4.heap.size 2 z5).trans y2
  have HT6 := hid (hK6.ths HT5.out)
  have HTs := hid ((hK6.ts (HK5.out.ts Hts.out)))
  have HK6 := hid (HK5.out.next hb6)
  clear x0 x1 x2 y0 y1 y2 hb6 HT5 Hts hK6 HK5
  go_wp2_with fail
  go_loopw [7, 8] (fun lo i wr => ∃ (q : Nat) (c0 : Bool), q ≤ T.length ∧ i = .int .i64 q ∧ lo = .bool c0 ∧ Hid (c0 = ((T.take q).map loopL).any id) ∧ wr = w6) (fun _ i _ => T.length - (intOf i).toNat)
  case atStart => exact ⟨0, false, Nat.zero_le _, rfl, rfl, rfl, rfl⟩
  case round =>
    obtain ⟨q, c0, hq, rfl, rfl, hc0, rfl⟩ := hrel
    by_cases hlt : q < T.length
    · obtain ⟨b, off, ar, kr, rfl, hb, e0, hrow⟩ := HTs.out.at_ q hlt
      obtain ⟨b', off', ar', kr', rfl, hb', e0', hrow'⟩ := HT6.out.at_ q (by omega)
      have hbl : b < wr.heap.size := hb
      have hbl' : b' < wr.heap.size := hb'
      obtain ⟨hs1, hs2⟩ := HSz.out q hlt (by omega)
      have q0 : (0 : Int) ≤ q := by omega
      have q1 : (q : Int) < T.length := by omega
      have hrl' := hrow'.le
      have hrm' := hrow'.mx
      unfold maxLen at hrm'
      rw [hs1] at e0' hrl'
      have hcall := hid (many_any T[q] ar kr wr (by omega) hrow)
      have ht := any_take T q hlt
      rw [← hc0.out] at ht
      have Ht := hid ht
      clear ht hrow hrow' hc0 hs1
      generalize manyL T[q] = M at *
      generalize loopL T[q] = lo at *
      generalize T[q].length = tq at *
      cases c0 with
      | false =>
        go_wp2_with (first
          | (go_at_call 20
             with_reducible refine hcall.out.mono ?_
             rintro e wl ⟨rfl, rfl⟩)
          | fail)
        go_roundw
        case rel => exact ⟨q + 1, lo, by omega, by simp, rfl, by show _ = _; rw [Ht.out]; rfl, by trivial⟩
        case measure => simp [intOf]; omega
      | true =>
        go_wp2_with (first
          | (go_at_call 20
             with_reducible refine hcall.out.mono ?_
             rintro e wl ⟨rfl, rfl⟩)
          | fail)
        go_roundw
        case rel => exact ⟨q + 1, true, by omega, by simp, rfl, by show _ = _; rw [Ht.out]; rfl, by trivial⟩
        case measure => simp [intOf]; omega
    · obtain rfl : q = T.length := by omega
      rw [List.take_length] at hc0
      have hfw : forwardL vars dom X = !c0 := by rw [HFw.out, ← hc0.out]
      have h5 : Hid (∀ W, Kp wr W → Calls Tryz.prog 21 #[.agg #[.int .i64 vars, .int .i64 dom, .slice a T.length k]] W fun e w' => e = .returned (.bool true) ∧ Below W.heap.size W w') := fun W hW => by
        have := right_any vars dom a _ k X W (hW.ths HT6.out)
        rw [HRt.out] at this
        exact this
      have h6 : Hid (∀ W, Kp wr W → Calls Tryz.prog 22 #[.agg #[.int .i64 vars, .int .i64 dom, .slice a T.length k]] W fun e w' => e = .returned (.bool (!c0)) ∧ Below W.heap.size W w') := fun W hW => by
        have := pforward_any vars dom a _ k X W (hW.ths HT6.out)
        rw [hfw] at this
        exact this
      have hcc : ((!c0) == (!c0)) = true := by cases c0 <;> rfl
      clear hc0 hfw HRt HFw
      go_wp2_with (first
        | (go_at_call 21
           with_reducible refine (h5.out _ (Kp.refl _)).mono ?_
           rintro e w7 ⟨rfl, hb7⟩
           have hK7 : Kp wr w7 := Kp.of hb7
           have s7 := hb7.size
           have m0 := (hK7.2 w4.heap.size 0 z8).trans Y0
           have m1 := (hK7.2 w4.heap.size 1 z8).trans Y1
           have m2 := (hK7.2 w4.heap.size 2 z8).trans Y2
           have s9 : w4.heap.size < w7.heap.size := by omega
           clear hb7)
        | (go_at_call 22
           with_reducible refine (h6.out _ hK7).mono ?_
           rintro e w8 ⟨rfl, hb8⟩
           have hK8 : Kp wr w8 := Kp.next hK7 hb8
           have s8 := hb8.size
           have p0 := (hK8.2 w4.heap.size 0 z8).trans Y0
           have p1 := (hK8.2 w4.heap.size 1 z8).trans Y1
           have r0 := (hK8.2 w3.heap.size 0 z7).trans X0
           have r1 := (hK8.2 w3.heap.size 1 z7).trans X1
           have s10 : w4.heap.size < w8.heap.size := by omega
           have s11 : w3.heap.size < w8.heap.size := by omega
           clear hb8)
        | fail)
      go_ret
      exact ⟨rfl, (Kp.next (Kp.next HB0.out HK6.out.1) hK8.1).1⟩
end Go.Proofs.YtcgpobeidlimkaaGreatDoor
