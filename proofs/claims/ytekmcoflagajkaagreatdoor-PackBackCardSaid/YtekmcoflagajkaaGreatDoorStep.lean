/- The document's step. -/
import Derived.Test.YtekmcoflagajkaaGreatDoorStX
import Derived.Test.YtekmcoflagajkaaGreatDoorBunU
import Derived.Test.YtekmcoflagajkaaGreatDoorVal
import Derived.Test.YtekmcoflagajkaaGreatDoorCodD
import Derived.Deep.RegionLaw
import Derived.Deep.CutRange
import Derived.BigRegion
import Derived.BigQuiet
import Derived.WalkSmall
namespace Go.Proofs.YtekmcoflagajkaaGreatDoor
open Go.RowKit

set_option maxRecDepth 100000 in
set_option maxHeartbeats 16000000 in
theorem step_any (vars dom m b : Int) (ac : Option Addr) (nc capc : Nat) (t : List (List Ins)) (ah : Option Addr) (nh caph : Nat) (th : List Thr) (am : Option Addr) (nm capm : Nat) (mem : List Int) (bad : Bool) (i : Nat) (w : World)
    (hc : ThsIn w (In_ w) ac nc capc t) (hh : ThrIn w (In_ w) ah nh caph th) (hm : IntIn w (In_ w) am nm capm mem) (hf : fitsL vars dom t m b th mem = true) (hbuf : ∀ x ∈ th, x.buf.length ≤ 999) (hi : i < th.length) (hj : i < t.length) :
    Calls Tryz.prog 36 #[.agg #[.int .i64 vars, .int .i64 dom, .slice ac nc capc], .agg #[.int .i64 m, .int .i64 b], .agg #[.slice ah nh caph, .slice am nm capm, .bool bad], .int .i64 i] w (StepPost w th i (stepL m b dom t[i] th[i] mem bad)) := by
  have hn1 := hc.1
  have hn2 := hh.1
  have hn3 := hm.1
  subst hn1 hn2 hn3
  obtain ⟨f1, f2, f3, f4, f5⟩ := fits_open hf
  have hx5 := f5 i hi hj
  rw [thrL_iff] at hx5
  obtain ⟨⟨p0, p1⟩, hr, hw⟩ := hx5
  have hfx : rightL vars dom t = true ∧ 0 ≤ m ∧ m ≤ 2 ∧ 1 ≤ vars ∧ vars ≤ 4 ∧ 2 ≤ dom ∧ dom ≤ 16 ∧ 1 ≤ t.length ∧ t.length ≤ 4 := by
    have h1 := f1
    unfold mayL at h1
    simp only [Bool.and_eq_true, decide_eq_true_eq] at h1
    have h2 := h1.1.1.1.1
    unfold rightL at h2
    simp only [Bool.and_eq_true, decide_eq_true_eq] at h2
    exact ⟨h1.1.1.1.1, by omega⟩
  obtain ⟨hright, hm0, hm2, hv1, hv4, hd2, hd16, ht1, ht4⟩ := hfx
  have hins : Hid (∀ x ∈ t[i], insL vars dom x t[i].length = true) := fun x hx => (ins_facts hright hj hx).1
  have hml : Hid ((mem.length : Int) = vars) := f3
  have hlen : Hid (th.length = t.length) := f2
  clear f2
  clear hf f1 f3 f4 f5 hright hw hr
  have hcap := hc.le
  have hmx := hc.mx
  have hcap2 := hh.le
  have hmx2 := hh.mx
  unfold maxLen at hmx hmx2
  obtain ⟨W0, hW⟩ : ∃ W0, W0 = (((w.alloc (.cells #[.int .i64 vars, .int .i64 dom, .slice ac t.length capc] 25)).alloc (.cells #[.int .i64 m, .int .i64 b] 30)).alloc (.cells #[.slice ah th.length caph, .slice am mem.length capm, .bool bad] 34)).alloc (.cells #[.slice none 0 0, .slice none 0 0, .bool false] 34) := ⟨_, rfl⟩
  have hB : Below w.heap.size w W0 := by subst hW; exact ((((Below.refl _ _).alloc (Nat.le_refl _) _).alloc (by simp) _).alloc (by simp; omega) _).alloc (by simp; omega) _
  have zS : W0.heap.size = w.heap.size + 4 := by subst hW; simp
  have HS0 : StpB W0 w.heap.size dom m b (.slice ac t.length capc) (.slice ah th.length caph) (.slice am mem.length capm) bad := by
    subst hW
    refine ⟨by simp, ?_, ?_, ?_, ?_, ?_, ?_, ?_, ?_, ?_, ?_, fun o => ?_⟩ <;> go_simp
  have s0 := HS0.s0
  have s1 := HS0.s1
  have s2 := HS0.s2
  have Hc := hid ((Kp.of hB).ths hc)
  have Hm : Hid (IntIn W0 (In_ w) am mem.length capm mem) := hid (hm.keep fun b o hb => hB.cell (p := ⟨b, o, none⟩) hb)
  have hown := hid (own_any ah th.length caph th am mem.length capm mem bad W0 ((Kp.of hB).thr hh) ((Kp.of hB).ints hm) (fun x hx => by have := hbuf x hx; omega) (by have := hlen.out; omega) (by have := hml.out; omega))
  have HB := hid hB
  have hWx := hid hW
  have HS0 := hid HS0
  clear hW hB hh hm hc
  have hst1 : Hid (∀ x, t[i][th[i].pc.toNat]? = some x → stepL m b dom t[i] th[i] mem bad = stepI m b dom x { th[i] with pc := th[i].pc + 1 } mem bad) := fun x hx => by unfold stepL; simp only [hx]
  have hst2 : Hid (t[i].length ≤ th[i].pc.toNat → (stepL m b dom t[i] th[i] mem bad).2 = false) := fun hx => by
    unfold stepL
    rw [List.getElem?_eq_none hx]
  generalize stepL m b dom t[i] th[i] mem bad = R at *
  go_enter Tryz.func36, Tryz.ntmps36
  go_wp2_with fail
  rw [← hWx.out]
  refine hown.out.mono ?_
  rintro e w1 ⟨va, vm, B, rfl, hst, hb1⟩
  have HB1 := hid hb1
  have HST := hid hst
  obtain ⟨g, cap, a, k, rfl, ⟨g1, g2⟩, ⟨g3, g4⟩, ⟨x0, x1, x2⟩, ⟨x3, x4, x5⟩, xf, -⟩ := hst.ht.at_ i hi
  obtain ⟨gm, cm, rfl, ⟨g5, g6⟩, ⟨g7, g8⟩, -⟩ := hst.hm.at_ 0 (by have := hml.out; omega)
  unfold maxLen at g2 g6
  have HS1 := hid (HS0.out.later (by rw [← zS]; exact hb1))
  clear hst hb1 s0 s1 s2 hown hWx HS0
  have c2 := HS1.out.c2
  have lt1 := HS1.out.lt
  have s0 := HS1.out.s0
  have s1 := HS1.out.s1
  have s2 := HS1.out.s2
  have r0 := HS1.out.r0
  have r1 := HS1.out.r1
  have r2 := HS1.out.r2
  have rf0 := HS1.out.rf 0
  have rf1 := HS1.out.rf 1
  have rf2 := HS1.out.rf 2
  have k0 : (0 : Int) ≤ i := by omega
  have k1 : (i : Int) < th.length := by omega
  have k2 : (i : Int) < t.length := by omega
  obtain ⟨bc, oc, ai, ki, rfl, hbc, hci, hri⟩ := ((Kp.of HB1.out).ths Hc.out).at_ i hj
  have hbc2 : bc < w1.heap.size := hbc
  have hcap3 := hri.le
  have hmx3 := hri.mx
  unfold maxLen at hmx3
  have Hri := hid hri
  clear hri hbc
  generalize hxe : th[i] = xt at *
  obtain ⟨pc, y0, y1, y2, y3, buf⟩ := xt
  simp only at p0 p1 x0 x1 x2 x3 x4 x5
  clear hcap hmx hcap2 hmx2
  go_wp2_with fail
  obtain ⟨w2, hw2⟩ : ∃ w2, w2 = (w1.alloc (.cells #[.slice (some ⟨g, 0, none⟩) th.length cap, .slice (some ⟨gm, 0, none⟩) mem.length cm, .bool bad] 34)) := ⟨_, rfl⟩
  rw [← hw2]
  have hb2 : Hid (Below w1.heap.size w1 w2) := hid (by rw [hw2]; exact ((Below.refl _ _).alloc (Nat.le_refl _) _))
  have HS2 := hid (HS1.out.later (hb2.out.mono HS1.out.lt))
  have HX2 : Hid (SBox w2 w1.heap.size (.slice (some ⟨g, 0, none⟩) th.length cap) (.slice (some ⟨gm, 0, none⟩) mem.length cm) bad) := hid (by
    have hcx := heap_alloc_new w1 (.cells #[.slice (some ⟨g, 0, none⟩) th.length cap, .slice (some ⟨gm, 0, none⟩) mem.length cm, .bool bad] 34)
    rw [hw2]
    exact ⟨by simp, cell_of_heap hcx, cell_of_heap hcx, cell_of_heap hcx, fun o => unfrozen hcx⟩)
  have l2 : w1.heap.size < w2.heap.size := HX2.out.lt
  have hk2 : Hid (∀ b o, b < w1.heap.size → w2.cell? ⟨b, o, none⟩ = w1.cell? ⟨b, o, none⟩) := hid (fun b o h => hb2.out.cell (p := ⟨b, o, none⟩) h)
  clear hw2 c2 s0 s1 s2 r0 r1 r2 rf0 rf1 rf2
  have c2 := HS2.out.c2
  have lt2 := HS2.out.lt
  replace x0 := (hk2.out _ _ g4).trans x0
  replace x1 := (hk2.out _ _ g4).trans x1
  replace x2 := (hk2.out _ _ g4).trans x2
  replace x3 := (hk2.out _ _ g4).trans x3
  replace x4 := (hk2.out _ _ g4).trans x4
  replace x5 := (hk2.out _ _ g4).trans x5
  replace hci := (hk2.out _ _ hbc2).trans hci
  by_cases hpc : pc < t[i].length
  rotate_left
  ·
    --A
    have s0 := HS2.out.s0
    have s1 := HS2.out.s1
    have s2 := HS2.out.s2
    have r0 := HS2.out.r0
    have r1 := HS2.out.r1
    have r2 := HS2.out.r2
    have rf := HS2.out.rf
    go_quiet (fail)
    obtain ⟨W3, e3, z0, z1, z2⟩ := three (W := w2.drewN nq) (a := .slice ah th.length caph) (b := .slice am mem.length capm) (c := .bool bad) r0 r1 r2
    have hfin : Hid (Below w.heap.size w W3) := hid (by
      rw [e3]
      exact three_below (HB.out.trans ((HB1.out.trans ((below_drewN hb2.out nq).mono HB1.out.size)).mono HB.out.size)) (by omega))
    have E3 := hid e3
    have hR := hid (hst2.out (by show _ ≤ pc.toNat; omega))
    clear e3
    go_wp2_with fail
    rw [← E3.out]
    refine bodyPost_ret (v := .tuple #[.agg #[.slice ah th.length caph, .slice am mem.length capm, .bool bad], .bool false]) ?_ rfl ⟨_, by rw [hR.out], hfin.out, (fun h => by rw [hR.out] at h; cases h), ⟨_, _, _, _, _, _, _, rfl⟩⟩
    simp [results, Tryz.results36, go_sem, z0, z1, z2]
    --B
  · have hnx : Hid (∃ x, t[i][pc.toNat]? = some x ∧ x ∈ t[i]) := ⟨t[i][pc.toNat], List.getElem?_eq_getElem _, List.getElem_mem _⟩
    go_quiet (fail)
    obtain ⟨w3, hw3⟩ : ∃ w3, w3 = w2.drewN nq := ⟨_, rfl⟩
    rw [← hw3]
    have hb3 : Hid (Below w1.heap.size w1 w3) := hid (by rw [hw3]; exact below_drewN hb2.out nq)
    have HX3 : Hid (SBox w3 w1.heap.size (.slice (some ⟨g, 0, none⟩) th.length cap) (.slice (some ⟨gm, 0, none⟩) mem.length cm) bad) := hid (by rw [hw3]; exact ⟨HX2.out.1, HX2.out.2, HX2.out.3, HX2.out.4, HX2.out.5⟩)
    have HS3 := hid (HS1.out.later (hb3.out.mono HS1.out.lt))
    have hk3 : Hid (∀ b o, b < w1.heap.size → w3.cell? ⟨b, o, none⟩ = w1.cell? ⟨b, o, none⟩) := hid (fun b o h => hb3.out.cell (p := ⟨b, o, none⟩) h)
    have l3 : w1.heap.size < w3.heap.size := HX3.out.lt
    have hq3 : ∀ p, w3.cell? p = w2.cell? p := fun p => by rw [hw3]; rfl
    replace x0 := (hq3 _).trans x0
    replace x1 := (hq3 _).trans x1
    replace x2 := (hq3 _).trans x2
    replace x3 := (hq3 _).trans x3
    replace x4 := (hq3 _).trans x4
    replace x5 := (hq3 _).trans x5
    replace hci := (hq3 _).trans hci
    replace c2 := (hq3 _).trans c2
    clear hw3 hq3 HX2 HS2 hk2 hb2 lt2 l2
    obtain ⟨pn, hpn⟩ : ∃ pn : Nat, pc = pn := ⟨pc.toNat, by omega⟩
    subst hpn
    have hpl : pn < t[i].length := by omega
    obtain ⟨bi, oi, u0, u1, u2, u3, v0, v1, v2, v3, rfl, hbi, ⟨q0, q1, q2⟩, ⟨q3, q4, q5, q6⟩, ⟨q7, q8, q9, qa⟩, qb, hea, heb⟩ := ((Kp.of hb3.out).row Hri.out).at_ pn hpl
    have hxi : Hid (t[i][pn] ∈ t[i] ∧ t[i][pn]? = some t[i][pn]) := ⟨List.getElem_mem _, List.getElem?_eq_getElem _⟩
    generalize t[i][pn] = xi at *
    obtain ⟨op, rg, vi, xa, xb, dst⟩ := xi
    simp only at q0 q1 q2 qb hea heb
    obtain ⟨ka, na, oa, la⟩ := xa
    obtain ⟨kb, nb, ob, lb⟩ := xb
    obtain ⟨aa, ca, ea, -⟩ := hea.open_
    obtain ⟨ab, cb, eb, -⟩ := heb.open_
    obtain ⟨rfl, rfl, rfl, rfl⟩ : u0 = _ ∧ u1 = _ ∧ u2 = _ ∧ u3 = _ := by simpa using ea
    obtain ⟨rfl, rfl, rfl, rfl⟩ : v0 = _ ∧ v1 = _ ∧ v2 = _ ∧ v3 = _ := by simpa using eb
    have Hea := hid hea
    have Heb := hid heb
    have lg3 : g < w3.heap.size := by omega
    have lc3 : bc < w3.heap.size := by omega
    have li3 : bi < w3.heap.size := hbi
    have ln3 : w.heap.size < w3.heap.size := by omega
    have hIn := hid (ins_open (hins.out _ hxi.out.1))
    have hRe : Hid (R = stepI m b dom ⟨op, rg, vi, .mk ka na oa la, .mk kb nb ob lb, dst⟩ ⟨pn + 1, y0, y1, y2, y3, buf⟩ mem bad) := hst1.out _ hxi.out.2
    have p0' : (0 : Int) ≤ pn := by omega
    clear ea eb hea heb hbi hnx hst1 hst2 hins hxi p0
    go_wp2_with fail
    go_region
    obtain ⟨w4, hw4⟩ : ∃ w4, w4 = (w3.alloc (.cells #[.int .i64 op, .int .i64 rg, .int .i64 vi, .int .i64 ka, .int .i64 na, .int .u8 oa, .slice aa la.length ca, .int .i64 kb, .int .i64 nb, .int .u8 ob, .slice ab lb.length cb, .int .i64 dst] 103)).drew := ⟨_, rfl⟩
    rw [← hw4]
    have HI4 : Hid (StpI w1 w4 w1.heap.size w3.heap.size (.slice (some ⟨g, 0, none⟩) th.length cap) (.slice (some ⟨gm, 0, none⟩) mem.length cm) bad op rg vi ka na oa (.slice aa la.length ca) kb nb ob (.slice ab lb.length cb) dst) := hid (by
      have hcx := heap_alloc_new w3 (.cells #[.int .i64 op, .int .i64 rg, .int .i64 vi, .int .i64 ka, .int .i64 na, .int .u8 oa, .slice aa la.length ca, .int .i64 kb, .int .i64 nb, .int .u8 ob, .slice ab lb.length cb, .int .i64 dst] 103)
      have hbx : Below w3.heap.size w3 w4 := by rw [hw4]; exact ((Below.refl _ _).alloc (Nat.le_refl _) _).drew
      refine ⟨hb3.out.trans (hbx.mono hb3.out.size), ⟨Nat.le_refl _, l3, ?_⟩, HX3.out.block hbx.size (hbx.block _ l3), ?_, ?_, ?_, ?_, ?_, ?_, ?_, ?_, ?_, ?_, ?_, ?_⟩
      · rw [hw4]; show _ < (World.alloc _ _).heap.size; simp
      all_goals (rw [hw4]; exact cell_of_heap (w := World.alloc _ _) hcx))
    have l34 : w3.heap.size < w4.heap.size := HI4.out.ob_.2.2
    have hbx4 : Hid (Below w3.heap.size w3 w4) := hid (by rw [hw4]; exact ((Below.refl _ _).alloc (Nat.le_refl _) _).drew)
    have HS4 := hid (HS3.out.later (hbx4.out.mono (by omega)))
    have HeA : Hid (ExIn w4 (In_ w4) [.int .i64 ka, .int .i64 na, .int .u8 oa, .slice aa la.length ca] (.mk ka na oa la)) := hid ((Kp.of hbx4.out).ex Hea.out)
    have HeB : Hid (ExIn w4 (In_ w4) [.int .i64 kb, .int .i64 nb, .int .u8 ob, .slice ab lb.length cb] (.mk kb nb ob lb)) := hid ((Kp.of hbx4.out).ex Heb.out)
    have hk4 : Hid (∀ b o, b < w3.heap.size → w4.cell? ⟨b, o, none⟩ = w3.cell? ⟨b, o, none⟩) := hid (fun b o h => hbx4.out.cell (p := ⟨b, o, none⟩) h)
    clear hw4 HX3 HS3 Hea Heb hk3 lc3 li3 lg3 ln3 hci hbc2 c2 q0 q1 q2 q3 q4 q5 q6 q7 q8 q9 qa qb hbx4 hb3
    replace x0 := (hk4.out _ _ (by omega)).trans x0
    replace x1 := (hk4.out _ _ (by omega)).trans x1
    replace x2 := (hk4.out _ _ (by omega)).trans x2
    replace x3 := (hk4.out _ _ (by omega)).trans x3
    replace x4 := (hk4.out _ _ (by omega)).trans x4
    replace x5 := (hk4.out _ _ (by omega)).trans x5
    have c1 := HS4.out.c1
    have i3 := HI4.out.i3
    have i4 := HI4.out.i4
    have i5 := HI4.out.i5
    have i6 := HI4.out.i6
    have hev : Hid (∀ W, Below w4.heap.size w4 W → Calls Tryz.prog 56 #[.agg #[.int .i64 ka, .int .i64 na, .int .u8 oa, .slice aa la.length ca], .agg #[.int .i64 y0, .int .i64 y1, .int .i64 y2, .int .i64 y3], .int .i64 dom] W fun e w' => e = .returned (.int .i64 (evT dom ⟨pn + 1, y0, y1, y2, y3, buf⟩ (.mk ka na oa la))) ∧ Below w4.heap.size w4 w') := hid (fun W hW =>
      (ref_eval y0 y1 y2 y3 dom (by omega) _ _ W ((Kp.of hW).ex HeA.out)).mono fun e w' h => ⟨h.1, hW.trans (h.2.mono hW.size)⟩)
    go_wp2_with fail
    go_cut [13] from 49 to 57 (fun v wx => v = .int .i64 (evT dom ⟨pn + 1, y0, y1, y2, y3, buf⟩ (.mk ka na oa la)) ∧ Below w4.heap.size w4 wx)
    case first =>
      --A
      go_region_law (first
        | (go_simp; go_at_call 56; (with_reducible refine (hev.out _ (Below.refl _ _).drew).mono ?_); rintro e w5 ⟨rfl, hb5⟩)
        | fail)
      all_goals
        go_wp2_with fail
        go_meet
        case rel => exact ⟨rfl, hb5⟩
      --B
    case rest =>
      obtain ⟨rfl, hbc⟩ := hcut
      obtain ⟨w5, rfl⟩ : ∃ W : World, W = wc := ⟨_, rfl⟩
      have HI5 := hid (HI4.out.later hbc)
      have HS5 := hid (HS4.out.later (hbc.mono (by have := HS4.out.lt; omega)))
      have HeB5 : Hid (ExIn w5 (In_ w5) [.int .i64 kb, .int .i64 nb, .int .u8 ob, .slice ab lb.length cb] (.mk kb nb ob lb)) := hid ((Kp.of hbc).ex HeB.out)
      have hk5 : Hid (∀ b o, b < w4.heap.size → w5.cell? ⟨b, o, none⟩ = w4.cell? ⟨b, o, none⟩) := hid (fun b o h => hbc.cell (p := ⟨b, o, none⟩) h)
      clear hev hbc HI4 HS4 HeB HeA hk4
      replace x0 := (hk5.out _ _ (by omega)).trans x0
      replace x1 := (hk5.out _ _ (by omega)).trans x1
      replace x2 := (hk5.out _ _ (by omega)).trans x2
      replace x3 := (hk5.out _ _ (by omega)).trans x3
      replace x4 := (hk5.out _ _ (by omega)).trans x4
      replace x5 := (hk5.out _ _ (by omega)).trans x5
      replace c1 := HS5.out.c1
      clear i3 i4 i5 i6
      have i7 := HI5.out.i7
      have i8 := HI5.out.i8
      have i9 := HI5.out.i9
      have ia := HI5.out.ia
      have l5 : w3.heap.size < w5.heap.size := HI5.out.ob_.2.2
      have hev : Hid (∀ W, Below w5.heap.size w5 W → Calls Tryz.prog 56 #[.agg #[.int .i64 kb, .int .i64 nb, .int .u8 ob, .slice ab lb.length cb], .agg #[.int .i64 y0, .int .i64 y1, .int .i64 y2, .int .i64 y3], .int .i64 dom] W fun e w' => e = .returned (.int .i64 (evT dom ⟨pn + 1, y0, y1, y2, y3, buf⟩ (.mk kb nb ob lb))) ∧ Below w5.heap.size w5 w') := hid (fun W hW =>
        (ref_eval y0 y1 y2 y3 dom (by omega) _ _ W ((Kp.of hW).ex HeB5.out)).mono fun e w' h => ⟨h.1, hW.trans (h.2.mono hW.size)⟩)
      clear hk5 l34
      go_wp2_with fail
      go_cut [14] from 58 to 66 (fun v wx => v = .int .i64 (evT dom ⟨pn + 1, y0, y1, y2, y3, buf⟩ (.mk kb nb ob lb)) ∧ Below w5.heap.size w5 wx)
      case first =>
        --A
        go_region_law (first
          | (go_simp; go_at_call 56; (with_reducible refine (hev.out _ (Below.refl _ _).drew).mono ?_); rintro e w6 ⟨rfl, hb6⟩)
          | fail)
        all_goals
          go_wp2_with fail
          go_meet
          case rel => exact ⟨rfl, hb6⟩
        --B
      case rest =>
          obtain ⟨rfl, hbc⟩ := hcut
          obtain ⟨w6, rfl⟩ : ∃ W : World, W = wc := ⟨_, rfl⟩
          have HI6 := hid (HI5.out.later hbc)
          have HS6 := hid (HS5.out.later (hbc.mono (by have := HS5.out.lt; omega)))
          have hI7 := HI6.out.set ⟨g, i * 6, none⟩ (.int .i64 (pn + 1)) g4
          have hS7 := HS6.out.set ⟨g, i * 6, none⟩ (.int .i64 (pn + 1)) (by show w.heap.size + 4 ≤ g; have := HST.out.le; omega)
          have hk6 : Hid (∀ b o, b < w5.heap.size → w6.cell? ⟨b, o, none⟩ = w5.cell? ⟨b, o, none⟩) := hid (fun b o h => hbc.cell (p := ⟨b, o, none⟩) h)
          replace x0 := (hk6.out _ _ (by omega)).trans x0
          replace x1 := (hk6.out _ _ (by omega)).trans x1
          replace x2 := (hk6.out _ _ (by omega)).trans x2
          replace x3 := (hk6.out _ _ (by omega)).trans x3
          replace x4 := (hk6.out _ _ (by omega)).trans x4
          replace x5 := (hk6.out _ _ (by omega)).trans x5
          have xf6 : Hid (∀ j, w6.frozen? ⟨g, j, none⟩ = false) := hid fun j => (HI6.out.hb.frozen (p := ⟨g, j, none⟩) g4).trans (xf j)
          have xf0 := xf6.out (i * 6)
          have i0 := HI6.out.i0
          have b0 := HI6.out.box.c0
          have b1 := HI6.out.box.c1
          have b2 := HI6.out.box.c2
          have bl : w1.heap.size < w6.heap.size := HI6.out.box.lt
          have lt7 := HS6.out.lt
          have hie : Hid (∀ l : List (Int × Int), decide ((l.length : Int) = 0) = l.isEmpty) := hid (fun l => by cases l <;> simp; omega)
          clear hev hbc HI5 HS5 HeB5 hk6 i7 i8 i9 ia c1 l5 xf
          obtain ⟨V, hV⟩ : ∃ V, V = w1.setCell ⟨g, i * 6, none⟩ (.int .i64 (pn + 1)) := ⟨_, rfl⟩
          rw [← hV] at hI7
          have hzV : V.heap.size = w1.heap.size := by rw [hV]; simp [World.setCell]
          have hstV : StW V W0.heap.size B (.slice (some ⟨g, 0, none⟩) th.length cap) (.slice (some ⟨gm, 0, none⟩) mem.length cm) (th.set i ⟨pn + 1, y0, y1, y2, y3, buf⟩) mem := by
            rw [hV]
            exact HST.out.setAt i hi rfl 0 (.int .i64 (pn + 1)) ⟨pn + 1, y0, y1, y2, y3, buf⟩ (by omega) (by rw [hxe]) (fun a k => by rw [hxe]; rfl)
          have hBV : Below W0.heap.size W0 V := by
            rw [hV]
            exact HB1.out.setCell (by show W0.heap.size ≤ g; have := HST.out.le; omega) _
          have hcl : Hid (∀ (Wf V' W3 : World) (x' : Thr) (mem' : List Int) (bad' is : Bool), R = ((x', mem', bad'), is) → StW V' W0.heap.size B (.slice (some ⟨g, 0, none⟩) th.length cap) (.slice (some ⟨gm, 0, none⟩) mem.length cm) (th.set i x') mem' → Below V'.heap.size V' Wf → Below W0.heap.size W0 V' →
              W3 = ((Wf.setCell ⟨w.heap.size + 1 + 1 + 1, 0, none⟩ (.slice (some ⟨g, 0, none⟩) th.length cap)).setCell ⟨w.heap.size + 1 + 1 + 1, 1, none⟩ (.slice (some ⟨gm, 0, none⟩) mem.length cm)).setCell ⟨w.heap.size + 1 + 1 + 1, 2, none⟩ (.bool bad') →
              StepPost w th i R (.returned (.tuple #[.agg #[.slice (some ⟨g, 0, none⟩) th.length cap, .slice (some ⟨gm, 0, none⟩) mem.length cm, .bool bad'], .bool is])) W3) := hid (fun Wf V' W3 x' mem' bad' is hR h1 h2 h3 e3 => by
            obtain ⟨h4, h5⟩ := step_fin HB.out h3 h1 h2 zS e3
            subst hR
            exact ⟨_, rfl, h5, (fun _ => ⟨_, _, B, rfl, h4⟩), ⟨_, _, _, _, _, _, _, rfl⟩⟩)
          have hmo : Hid (∀ v, (h : v < mem.length) → ∃ bm om, am = some ⟨bm, om, none⟩ ∧ bm < w.heap.size ∧ w6.cell? ⟨bm, om + v, none⟩ = some (.int .i64 mem[v])) := hid fun v h => by
            obtain ⟨bm, om, e, hbm, hcm⟩ := Hm.out.at_ v h
            have hbm : bm < w.heap.size := hbm
            refine ⟨bm, om, e, hbm, ?_⟩
            have hbm : bm < W0.heap.size := by omega
            rw [HI6.out.hb.cell (p := ⟨bm, om + v, none⟩) (Nat.lt_of_lt_of_le hbm HB1.out.size), HB1.out.cell (p := ⟨bm, om + v, none⟩) hbm]
            exact hcm
          have hgm2 : gm < w1.heap.size := by have := HST.out.mem_ 0 (by have := hml.out; omega) rfl; have := HST.out.lt; omega
          have hmm : Hid (∀ v, (h : v < mem.length) → w6.cell? ⟨gm, v, none⟩ = some (.int .i64 mem[v])) := hid fun v h => (HI6.out.hb.cell (p := ⟨gm, v, none⟩) hgm2).trans (HST.out.mem_ v h rfl).1
          have hmf : Hid (∀ j, w6.frozen? ⟨gm, j, none⟩ = false) := hid fun j => (HI6.out.hb.frozen (p := ⟨gm, j, none⟩) hgm2).trans ((HST.out.mem_ 0 (by have := hml.out; omega) rfl).2.1 j)
          have hg9 : w.heap.size + 4 ≤ g := by have := HST.out.le; omega
          obtain ⟨-, -, ⟨hgm0, hgm1⟩, -⟩ := HST.out.mem_ 0 (by have := hml.out; omega) rfl
          have hgm9 : w.heap.size + 4 ≤ gm := by omega
          have hg8 : W0.heap.size ≤ g := by have := HST.out.le; omega
          have hgm0 := hgm0
          have hcl2 : Hid (∀ (Wf V' W3 : World), Below V'.heap.size V' Wf → Below W0.heap.size W0 V' →
              W3 = ((Wf.setCell ⟨w.heap.size + 1 + 1 + 1, 0, none⟩ (.slice (some ⟨g, 0, none⟩) th.length cap)).setCell ⟨w.heap.size + 1 + 1 + 1, 1, none⟩ (.slice (some ⟨gm, 0, none⟩) mem.length cm)).setCell ⟨w.heap.size + 1 + 1 + 1, 2, none⟩ (.bool bad) → Below w.heap.size w W3) := hid (fun Wf V' W3 h1 h2 e3 => by
            subst e3
            exact three_below (HB.out.trans ((h2.trans (h1.mono h2.size)).mono HB.out.size)) (by omega))
          clear hV HST HB1 HB zS
          have hl' : i < (th.set i ⟨pn + 1, y0, y1, y2, y3, buf⟩).length := by simpa using hi
          obtain ⟨a7, k7, -, ⟨-, -, x5v⟩, -, hen, -, -⟩ := hstV.at_ i hl' (by rw [List.length_set])
          simp only [List.getElem_set_self] at x5v hen
          have gV : g < V.heap.size := by rw [hzV]; exact g4
          have hen7 : Hid (EnIn (w6.setCell ⟨g, i * 6, none⟩ (.int .i64 (pn + 1))) (In_ (w6.setCell ⟨g, i * 6, none⟩ (.int .i64 (pn + 1)))) a7 buf.length k7 buf) := hid ((hen.keep fun b o hb => hI7.hb.cell (p := ⟨b, o, none⟩) hb).widen fun b hb => Nat.lt_of_lt_of_le hb hI7.hb.size)
          have x5w : Hid ((w6.setCell ⟨g, i * 6, none⟩ (.int .i64 (pn + 1))).cell? ⟨g, i * 6 + 5, none⟩ = some (.slice a7 buf.length k7)) := hid ((hI7.hb.cell (p := ⟨g, i * 6 + 5, none⟩) gV).trans x5v)
          have HstV := hid hstV
          have HBV := hid hBV
          have HI7 := hid hI7
          have HS7 := hid hS7
          have r0 := HS6.out.r0
          have r1 := HS6.out.r1
          have r2 := HS6.out.r2
          have rf := HS6.out.rf
          obtain ⟨hop, hrg, hvi⟩ := hIn.out
          try simp only at hop hrg hvi
          have Hrg := hid hrg
          have Hvi := hid hvi
          clear hstV hBV hI7 hS7 hen hIn hrg hvi hl' x5v
          generalize hea : evT dom ⟨pn + 1, y0, y1, y2, y3, buf⟩ (.mk ka na oa la) = ea at *
          generalize heb : evT dom ⟨pn + 1, y0, y1, y2, y3, buf⟩ (.mk kb nb ob lb) = eb at *
          have he1 : ((buf.length : Int) == 0) = buf.isEmpty := by cases buf <;> simp; omega
          have He1 := hid he1
          clear he1 hie
          have i1 := HI6.out.i1
          have i2 := HI6.out.i2
          have ic := HI6.out.ic
          have gmV : gm < V.heap.size := by rw [hzV]; exact hgm2
          have hgg : gm ≠ g := by omega
          rcases hop with rfl | rfl | rfl | rfl | rfl | rfl | rfl | rfl | rfl | rfl | rfl
          · obtain ⟨vn, hvn⟩ : ∃ vn : Nat, vi = vn := ⟨vi.toNat, by have := Hvi.out (by simp); omega⟩
            subst hvn
            have hvl : vn < mem.length := by have := Hvi.out (by simp); have := hml.out; omega
            obtain ⟨bm, om, rfl, hbm, hcm⟩ := hmo.out vn hvl
            have hbm1 : bm < gm := by omega
            have hbm2 : bm < g := by omega
            have hr4 := Hrg.out (by simp)
            obtain ⟨rfl, rfl⟩ : a = a7 ∧ k = k7 := by
              have h := x5w.out
              rw [World.cell?_setCell_other _ _ _ _ (by intro e; injection e; omega), x5] at h
              simpa using h
            have hlk : Hid (∀ W, Below (w6.setCell ⟨g, i * 6, none⟩ (.int .i64 (pn + 1))).heap.size (w6.setCell ⟨g, i * 6, none⟩ (.int .i64 (pn + 1))) W → Calls Tryz.prog 57 #[.slice a buf.length k, .int .i64 vn] W fun e w' => e = .returned (.tuple #[.int .i64 (lookL vn buf).1, .bool (lookL vn buf).2]) ∧ Below (w6.setCell ⟨g, i * 6, none⟩ (.int .i64 (pn + 1))).heap.size (w6.setCell ⟨g, i * 6, none⟩ (.int .i64 (pn + 1))) w') := hid (fun W hW =>
              (refLook_any a buf.length k buf vn W ((Kp.of hW).en hen7.out)).mono fun e w' h => ⟨h.1, hW.trans (h.2.mono hW.size)⟩)
            have hR1 : Hid (R = ((setReg ⟨pn + 1, y0, y1, y2, y3, buf⟩ rg (if (lookL vn buf).2 then (lookL vn buf).1 else mem[vn]), mem, bad), true)) := by show _ = _; rw [hRe.out]; simp [stepI, memAt, hvl]
            generalize lookL vn buf = q at *
            obtain ⟨q1, q2⟩ := q
            go_wp2_with fail
            go_cut [16, 17] from 85 to 93 (fun u v wx => u = .int .i64 q1 ∧ v = .bool q2 ∧ Below (w6.setCell ⟨g, i * 6, none⟩ (.int .i64 (pn + 1))).heap.size (w6.setCell ⟨g, i * 6, none⟩ (.int .i64 (pn + 1))) wx)
            case first =>
              go_region_law (first
                | (go_simp; go_at_call 57; (with_reducible refine (hlk.out _ (Below.refl _ _).drew).mono ?_); rintro e w8 ⟨rfl, hb8⟩)
                | fail)
              all_goals
                go_wp2_with fail
                go_meet
                case rel => exact ⟨rfl, rfl, hb8⟩
            case rest =>
                obtain ⟨rfl, rfl, hb8⟩ := hcut
                obtain ⟨w8, rfl⟩ : ∃ W : World, W = wc := ⟨_, rfl⟩
                have HI8 := hid (HI7.out.later hb8)
                have HS8 := hid (HS7.out.later (hb8.mono HS7.out.lt))
                clear x0 x1 x2 x3 x4 x5 xf0 r0 r1 r2 rf i0 i1 i2 ic b0 b1 b2
                obtain ⟨a8, k8, ⟨x0, x1, x2⟩, ⟨x3, x4, x5⟩, xf, -, -, -⟩ := HstV.out.at_ i (by simpa using hi) (by rw [List.length_set])
                simp only [List.getElem_set_self] at x0 x1 x2 x3 x4 x5
                replace x0 := (HI8.out.hb.cell (p := ⟨g, i * 6, none⟩) gV).trans x0
                replace x1 := (HI8.out.hb.cell (p := ⟨g, i * 6 + 1, none⟩) gV).trans x1
                replace x2 := (HI8.out.hb.cell (p := ⟨g, i * 6 + 2, none⟩) gV).trans x2
                replace x3 := (HI8.out.hb.cell (p := ⟨g, i * 6 + 3, none⟩) gV).trans x3
                replace x4 := (HI8.out.hb.cell (p := ⟨g, i * 6 + 4, none⟩) gV).trans x4
                replace x5 := (HI8.out.hb.cell (p := ⟨g, i * 6 + 5, none⟩) gV).trans x5
                have xf8 : ∀ j, w8.frozen? ⟨g, j, none⟩ = false := fun j => (HI8.out.hb.frozen (p := ⟨g, j, none⟩) gV).trans (xf j)
                have r0 := HS8.out.r0
                have r1 := HS8.out.r1
                have r2 := HS8.out.r2
                have rf := HS8.out.rf
                have i1 := HI8.out.i1
                have i2 := HI8.out.i2
                have b0 := HI8.out.box.c0
                have b1 := HI8.out.box.c1
                have b2 := HI8.out.box.c2
                have l8 : w1.heap.size < w8.heap.size := HI8.out.box.lt
                have n8 := HS8.out.lt
                have s1 := HS8.out.s1
                have hcm8 : w8.cell? ⟨bm, om + vn, none⟩ = some (.int .i64 mem[vn]) := (hb8.cell (p := ⟨bm, om + vn, none⟩) (by show bm < (World.setCell _ _ _).heap.size; simp [World.setCell]; omega)).trans ((World.cell?_setCell_other _ _ _ _ (by intro e; injection e; omega)).trans hcm)
                clear hb8 hlk hcm
                cases q2
                · rcases (show rg = 0 ∨ rg = 1 ∨ rg = 2 ∨ rg = 3 by omega) with rfl | rfl | rfl | rfl
                  · have hR : Hid (R = ((⟨pn + 1, mem[vn], y1, y2, y3, buf⟩, mem, bad), true)) := by show _ = _; rw [hR1.out]; simp [setReg]
                    obtain ⟨W3, e3, z0, z1, z2⟩ := three (W := (w8.setCell ⟨g, i * 6 + 1, none⟩ (.int .i64 (mem[vn])))) (a := .slice (some ⟨g, 0, none⟩) th.length cap) (b := .slice (some ⟨gm, 0, none⟩) mem.length cm) (c := .bool bad) (HS8.out.set ⟨g, i * 6 + 1, none⟩ (.int .i64 (mem[vn])) hg9).r0 (HS8.out.set ⟨g, i * 6 + 1, none⟩ (.int .i64 (mem[vn])) hg9).r1 (HS8.out.set ⟨g, i * 6 + 1, none⟩ (.int .i64 (mem[vn])) hg9).r2
                    have hpo := hid (hcl.out _ (V.setCell ⟨g, i * 6 + 1, none⟩ (.int .i64 (mem[vn]))) W3 _ _ _ _ hR.out (HstV.out.setAt2 hi rfl 1 (.int .i64 (mem[vn])) ⟨pn + 1, mem[vn], y1, y2, y3, buf⟩ (by omega) rfl (fun _ _ => rfl)) (HI8.out.set ⟨g, i * 6 + 1, none⟩ (.int .i64 (mem[vn])) gV).hb (HBV.out.setCell (by show W0.heap.size ≤ g; omega) _) e3)
                    have E3 := hid e3
                    clear e3
                    go_wp2_with fail
                    go_region
                    all_goals
                      go_wp2_with fail
                      rw [← E3.out]
                      refine bodyPost_ret ?_ rfl (by first | exact hpo.out.drew | exact hpo.out)
                      simp [results, Tryz.results36, go_sem, z0, z1, z2]
                  · have hR : Hid (R = ((⟨pn + 1, y0, mem[vn], y2, y3, buf⟩, mem, bad), true)) := by show _ = _; rw [hR1.out]; simp [setReg]
                    obtain ⟨W3, e3, z0, z1, z2⟩ := three (W := (w8.setCell ⟨g, i * 6 + 2, none⟩ (.int .i64 (mem[vn])))) (a := .slice (some ⟨g, 0, none⟩) th.length cap) (b := .slice (some ⟨gm, 0, none⟩) mem.length cm) (c := .bool bad) (HS8.out.set ⟨g, i * 6 + 2, none⟩ (.int .i64 (mem[vn])) hg9).r0 (HS8.out.set ⟨g, i * 6 + 2, none⟩ (.int .i64 (mem[vn])) hg9).r1 (HS8.out.set ⟨g, i * 6 + 2, none⟩ (.int .i64 (mem[vn])) hg9).r2
                    have hpo := hid (hcl.out _ (V.setCell ⟨g, i * 6 + 2, none⟩ (.int .i64 (mem[vn]))) W3 _ _ _ _ hR.out (HstV.out.setAt2 hi rfl 2 (.int .i64 (mem[vn])) ⟨pn + 1, y0, mem[vn], y2, y3, buf⟩ (by omega) rfl (fun _ _ => rfl)) (HI8.out.set ⟨g, i * 6 + 2, none⟩ (.int .i64 (mem[vn])) gV).hb (HBV.out.setCell (by show W0.heap.size ≤ g; omega) _) e3)
                    have E3 := hid e3
                    clear e3
                    go_wp2_with fail
                    go_region
                    all_goals
                      go_wp2_with fail
                      rw [← E3.out]
                      refine bodyPost_ret ?_ rfl (by first | exact hpo.out.drew | exact hpo.out)
                      simp [results, Tryz.results36, go_sem, z0, z1, z2]
                  · have hR : Hid (R = ((⟨pn + 1, y0, y1, mem[vn], y3, buf⟩, mem, bad), true)) := by show _ = _; rw [hR1.out]; simp [setReg]
                    obtain ⟨W3, e3, z0, z1, z2⟩ := three (W := (w8.setCell ⟨g, i * 6 + 3, none⟩ (.int .i64 (mem[vn])))) (a := .slice (some ⟨g, 0, none⟩) th.length cap) (b := .slice (some ⟨gm, 0, none⟩) mem.length cm) (c := .bool bad) (HS8.out.set ⟨g, i * 6 + 3, none⟩ (.int .i64 (mem[vn])) hg9).r0 (HS8.out.set ⟨g, i * 6 + 3, none⟩ (.int .i64 (mem[vn])) hg9).r1 (HS8.out.set ⟨g, i * 6 + 3, none⟩ (.int .i64 (mem[vn])) hg9).r2
                    have hpo := hid (hcl.out _ (V.setCell ⟨g, i * 6 + 3, none⟩ (.int .i64 (mem[vn]))) W3 _ _ _ _ hR.out (HstV.out.setAt2 hi rfl 3 (.int .i64 (mem[vn])) ⟨pn + 1, y0, y1, mem[vn], y3, buf⟩ (by omega) rfl (fun _ _ => rfl)) (HI8.out.set ⟨g, i * 6 + 3, none⟩ (.int .i64 (mem[vn])) gV).hb (HBV.out.setCell (by show W0.heap.size ≤ g; omega) _) e3)
                    have E3 := hid e3
                    clear e3
                    go_wp2_with fail
                    go_region
                    all_goals
                      go_wp2_with fail
                      rw [← E3.out]
                      refine bodyPost_ret ?_ rfl (by first | exact hpo.out.drew | exact hpo.out)
                      simp [results, Tryz.results36, go_sem, z0, z1, z2]
                  · have hR : Hid (R = ((⟨pn + 1, y0, y1, y2, mem[vn], buf⟩, mem, bad), true)) := by show _ = _; rw [hR1.out]; simp [setReg]
                    obtain ⟨W3, e3, z0, z1, z2⟩ := three (W := (w8.setCell ⟨g, i * 6 + 4, none⟩ (.int .i64 (mem[vn])))) (a := .slice (some ⟨g, 0, none⟩) th.length cap) (b := .slice (some ⟨gm, 0, none⟩) mem.length cm) (c := .bool bad) (HS8.out.set ⟨g, i * 6 + 4, none⟩ (.int .i64 (mem[vn])) hg9).r0 (HS8.out.set ⟨g, i * 6 + 4, none⟩ (.int .i64 (mem[vn])) hg9).r1 (HS8.out.set ⟨g, i * 6 + 4, none⟩ (.int .i64 (mem[vn])) hg9).r2
                    have hpo := hid (hcl.out _ (V.setCell ⟨g, i * 6 + 4, none⟩ (.int .i64 (mem[vn]))) W3 _ _ _ _ hR.out (HstV.out.setAt2 hi rfl 4 (.int .i64 (mem[vn])) ⟨pn + 1, y0, y1, y2, mem[vn], buf⟩ (by omega) rfl (fun _ _ => rfl)) (HI8.out.set ⟨g, i * 6 + 4, none⟩ (.int .i64 (mem[vn])) gV).hb (HBV.out.setCell (by show W0.heap.size ≤ g; omega) _) e3)
                    have E3 := hid e3
                    clear e3
                    go_wp2_with fail
                    go_region
                    all_goals
                      go_wp2_with fail
                      rw [← E3.out]
                      refine bodyPost_ret ?_ rfl (by first | exact hpo.out.drew | exact hpo.out)
                      simp [results, Tryz.results36, go_sem, z0, z1, z2]
                · rcases (show rg = 0 ∨ rg = 1 ∨ rg = 2 ∨ rg = 3 by omega) with rfl | rfl | rfl | rfl
                  · have hR : Hid (R = ((⟨pn + 1, q1, y1, y2, y3, buf⟩, mem, bad), true)) := by show _ = _; rw [hR1.out]; simp [setReg]
                    obtain ⟨W3, e3, z0, z1, z2⟩ := three (W := (w8.setCell ⟨g, i * 6 + 1, none⟩ (.int .i64 q1))) (a := .slice (some ⟨g, 0, none⟩) th.length cap) (b := .slice (some ⟨gm, 0, none⟩) mem.length cm) (c := .bool bad) (HS8.out.set ⟨g, i * 6 + 1, none⟩ (.int .i64 q1) hg9).r0 (HS8.out.set ⟨g, i * 6 + 1, none⟩ (.int .i64 q1) hg9).r1 (HS8.out.set ⟨g, i * 6 + 1, none⟩ (.int .i64 q1) hg9).r2
                    have hpo := hid (hcl.out _ (V.setCell ⟨g, i * 6 + 1, none⟩ (.int .i64 q1)) W3 _ _ _ _ hR.out (HstV.out.setAt2 hi rfl 1 (.int .i64 q1) ⟨pn + 1, q1, y1, y2, y3, buf⟩ (by omega) rfl (fun _ _ => rfl)) (HI8.out.set ⟨g, i * 6 + 1, none⟩ (.int .i64 q1) gV).hb (HBV.out.setCell (by show W0.heap.size ≤ g; omega) _) e3)
                    have E3 := hid e3
                    clear e3
                    go_wp2_with fail
                    go_region
                    all_goals
                      go_wp2_with fail
                      rw [← E3.out]
                      refine bodyPost_ret ?_ rfl (by first | exact hpo.out.drew | exact hpo.out)
                      simp [results, Tryz.results36, go_sem, z0, z1, z2]
                  · have hR : Hid (R = ((⟨pn + 1, y0, q1, y2, y3, buf⟩, mem, bad), true)) := by show _ = _; rw [hR1.out]; simp [setReg]
                    obtain ⟨W3, e3, z0, z1, z2⟩ := three (W := (w8.setCell ⟨g, i * 6 + 2, none⟩ (.int .i64 q1))) (a := .slice (some ⟨g, 0, none⟩) th.length cap) (b := .slice (some ⟨gm, 0, none⟩) mem.length cm) (c := .bool bad) (HS8.out.set ⟨g, i * 6 + 2, none⟩ (.int .i64 q1) hg9).r0 (HS8.out.set ⟨g, i * 6 + 2, none⟩ (.int .i64 q1) hg9).r1 (HS8.out.set ⟨g, i * 6 + 2, none⟩ (.int .i64 q1) hg9).r2
                    have hpo := hid (hcl.out _ (V.setCell ⟨g, i * 6 + 2, none⟩ (.int .i64 q1)) W3 _ _ _ _ hR.out (HstV.out.setAt2 hi rfl 2 (.int .i64 q1) ⟨pn + 1, y0, q1, y2, y3, buf⟩ (by omega) rfl (fun _ _ => rfl)) (HI8.out.set ⟨g, i * 6 + 2, none⟩ (.int .i64 q1) gV).hb (HBV.out.setCell (by show W0.heap.size ≤ g; omega) _) e3)
                    have E3 := hid e3
                    clear e3
                    go_wp2_with fail
                    go_region
                    all_goals
                      go_wp2_with fail
                      rw [← E3.out]
                      refine bodyPost_ret ?_ rfl (by first | exact hpo.out.drew | exact hpo.out)
                      simp [results, Tryz.results36, go_sem, z0, z1, z2]
                  · have hR : Hid (R = ((⟨pn + 1, y0, y1, q1, y3, buf⟩, mem, bad), true)) := by show _ = _; rw [hR1.out]; simp [setReg]
                    obtain ⟨W3, e3, z0, z1, z2⟩ := three (W := (w8.setCell ⟨g, i * 6 + 3, none⟩ (.int .i64 q1))) (a := .slice (some ⟨g, 0, none⟩) th.length cap) (b := .slice (some ⟨gm, 0, none⟩) mem.length cm) (c := .bool bad) (HS8.out.set ⟨g, i * 6 + 3, none⟩ (.int .i64 q1) hg9).r0 (HS8.out.set ⟨g, i * 6 + 3, none⟩ (.int .i64 q1) hg9).r1 (HS8.out.set ⟨g, i * 6 + 3, none⟩ (.int .i64 q1) hg9).r2
                    have hpo := hid (hcl.out _ (V.setCell ⟨g, i * 6 + 3, none⟩ (.int .i64 q1)) W3 _ _ _ _ hR.out (HstV.out.setAt2 hi rfl 3 (.int .i64 q1) ⟨pn + 1, y0, y1, q1, y3, buf⟩ (by omega) rfl (fun _ _ => rfl)) (HI8.out.set ⟨g, i * 6 + 3, none⟩ (.int .i64 q1) gV).hb (HBV.out.setCell (by show W0.heap.size ≤ g; omega) _) e3)
                    have E3 := hid e3
                    clear e3
                    go_wp2_with fail
                    go_region
                    all_goals
                      go_wp2_with fail
                      rw [← E3.out]
                      refine bodyPost_ret ?_ rfl (by first | exact hpo.out.drew | exact hpo.out)
                      simp [results, Tryz.results36, go_sem, z0, z1, z2]
                  · have hR : Hid (R = ((⟨pn + 1, y0, y1, y2, q1, buf⟩, mem, bad), true)) := by show _ = _; rw [hR1.out]; simp [setReg]
                    obtain ⟨W3, e3, z0, z1, z2⟩ := three (W := (w8.setCell ⟨g, i * 6 + 4, none⟩ (.int .i64 q1))) (a := .slice (some ⟨g, 0, none⟩) th.length cap) (b := .slice (some ⟨gm, 0, none⟩) mem.length cm) (c := .bool bad) (HS8.out.set ⟨g, i * 6 + 4, none⟩ (.int .i64 q1) hg9).r0 (HS8.out.set ⟨g, i * 6 + 4, none⟩ (.int .i64 q1) hg9).r1 (HS8.out.set ⟨g, i * 6 + 4, none⟩ (.int .i64 q1) hg9).r2
                    have hpo := hid (hcl.out _ (V.setCell ⟨g, i * 6 + 4, none⟩ (.int .i64 q1)) W3 _ _ _ _ hR.out (HstV.out.setAt2 hi rfl 4 (.int .i64 q1) ⟨pn + 1, y0, y1, y2, q1, buf⟩ (by omega) rfl (fun _ _ => rfl)) (HI8.out.set ⟨g, i * 6 + 4, none⟩ (.int .i64 q1) gV).hb (HBV.out.setCell (by show W0.heap.size ≤ g; omega) _) e3)
                    have E3 := hid e3
                    clear e3
                    go_wp2_with fail
                    go_region
                    all_goals
                      go_wp2_with fail
                      rw [← E3.out]
                      refine bodyPost_ret ?_ rfl (by first | exact hpo.out.drew | exact hpo.out)
                      simp [results, Tryz.results36, go_sem, z0, z1, z2]
          · obtain ⟨vn, hvn⟩ : ∃ vn : Nat, vi = vn := ⟨vi.toNat, by have := Hvi.out (by simp); omega⟩
            subst hvn
            have hvl : vn < mem.length := by have := Hvi.out (by simp); have := hml.out; omega
            have hm1 := hmm.out vn hvl
            have hm2 := hmf.out vn
            have m0 := HS6.out.m0
            have m1 := HS6.out.m1
            by_cases hmz : m = 0
            · have hR : Hid (R = ((⟨pn + 1, y0, y1, y2, y3, buf⟩, mem.set vn ea, bad), true)) := by show _ = _; rw [hRe.out]; simp [stepI, hea, hmz]
              obtain ⟨W3, e3, z0, z1, z2⟩ := three (W := ((w6.setCell ⟨g, i * 6, none⟩ (.int .i64 (pn + 1))).setCell ⟨gm, vn, none⟩ (.int .i64 ea))) (a := .slice (some ⟨g, 0, none⟩) th.length cap) (b := .slice (some ⟨gm, 0, none⟩) mem.length cm) (c := .bool bad) (HS7.out.set ⟨gm, vn, none⟩ (.int .i64 ea) hgm9).r0 (HS7.out.set ⟨gm, vn, none⟩ (.int .i64 ea) hgm9).r1 (HS7.out.set ⟨gm, vn, none⟩ (.int .i64 ea) hgm9).r2
              have hpo := hid (hcl.out _ (V.setCell ⟨gm, vn, none⟩ (.int .i64 ea)) W3 _ _ _ _ hR.out (StW.setMem HstV.out vn (by simpa using hvl) rfl ea) (HI7.out.set ⟨gm, vn, none⟩ (.int .i64 ea) (by first | exact gmV | simpa [World.setCell] using gmV)).hb (HBV.out.setCell (by show W0.heap.size ≤ gm; omega) _) e3)
              have E3 := hid e3
              clear e3
              go_wp2_with fail
              rw [← E3.out]
              refine bodyPost_ret ?_ rfl hpo.out
              simp [results, Tryz.results36, go_sem, z0, z1, z2]
            · obtain ⟨rfl, rfl⟩ : a = a7 ∧ k = k7 := by
                have h := x5w.out
                rw [World.cell?_setCell_other _ _ _ _ (by intro e; injection e; omega), x5] at h
                simpa using h
              have hbl : buf.length ≤ 1000 := by have h := hbuf _ (List.getElem_mem hi); rw [hxe] at h; show _ ≤ _; exact Nat.le_trans h (by omega)
              have hpu : Hid (∀ W, Below (w6.setCell ⟨g, i * 6, none⟩ (.int .i64 (pn + 1))).heap.size (w6.setCell ⟨g, i * 6, none⟩ (.int .i64 (pn + 1))) W → Calls Tryz.prog 41 #[.slice a buf.length k, .agg #[.int .i64 m, .int .i64 b], .agg #[.int .i64 vn, .int .i64 ea]] W fun e w' => ∃ a' c', e = .returned (.tuple #[.slice a' (putL m b ((vn : Int), ea) buf).1.length c', .bool (putL m b ((vn : Int), ea) buf).2]) ∧ ((putL m b ((vn : Int), ea) buf).2 = true → EnIn w' (fun k => (w6.setCell ⟨g, i * 6, none⟩ (.int .i64 (pn + 1))).heap.size ≤ k ∧ k < w'.heap.size) a' (putL m b ((vn : Int), ea) buf).1.length c' (putL m b ((vn : Int), ea) buf).1) ∧ Below (w6.setCell ⟨g, i * 6, none⟩ (.int .i64 (pn + 1))).heap.size (w6.setCell ⟨g, i * 6, none⟩ (.int .i64 (pn + 1))) w') := hid (fun W hW =>
                (refPutN_any a buf.length k buf m b vn ea W ((Kp.of hW).en hen7.out) hbl).mono fun e w' h => by
                  obtain ⟨a', c', h1, h2, h3⟩ := h
                  exact ⟨a', c', h1, fun h => (h2 h).widen fun k hk => ⟨Nat.le_trans hW.size hk.1, hk.2⟩, hW.trans (h3.mono hW.size)⟩)
              have hR1 : Hid (R = (({ (⟨pn + 1, y0, y1, y2, y3, buf⟩ : Thr) with buf := (putL m b ((vn : Int), ea) buf).1 }, mem, bad), (putL m b ((vn : Int), ea) buf).2)) := by show _ = _; rw [hRe.out]; simp [stepI, hea, hmz]
              generalize (putL m b ((vn : Int), ea) buf) = q at *
              obtain ⟨L, ok⟩ := q
              clear hbl
              go_wp2_with fail
              go_cut [18, 19] from 122 to 133 (fun u v wx => ∃ a' c', u = .slice a' L.length c' ∧ v = .bool ok ∧ (ok = true → EnIn wx (fun k => (w6.setCell ⟨g, i * 6, none⟩ (.int .i64 (pn + 1))).heap.size ≤ k ∧ k < wx.heap.size) a' L.length c' L) ∧ Below (w6.setCell ⟨g, i * 6, none⟩ (.int .i64 (pn + 1))).heap.size (w6.setCell ⟨g, i * 6, none⟩ (.int .i64 (pn + 1))) wx)
              case first =>
                go_region_law (first
                  | (go_simp; go_at_call 41; (with_reducible refine (hpu.out _ (Below.refl _ _).drew).mono ?_); rintro e w8 ⟨a', c', rfl, hen8, hb8⟩)
                  | fail)
                all_goals
                  go_wp2_with fail
                  go_meet
                  case rel => exact ⟨a', c', rfl, rfl, hen8, hb8⟩
              case rest =>
                  obtain ⟨a', c', rfl, rfl, hen8, hb8⟩ := hcut
                  obtain ⟨w8, rfl⟩ : ∃ W : World, W = wc := ⟨_, rfl⟩
                  have HI8 := hid (HI7.out.later hb8)
                  have HS8 := hid (HS7.out.later (hb8.mono HS7.out.lt))
                  clear x0 x1 x2 x3 x4 x5 xf0 r0 r1 r2 rf i0 i1 i2 ic b0 b1 b2
                  obtain ⟨a8, k8, ⟨x0, x1, x2⟩, ⟨x3, x4, x5⟩, xf, -, -, -⟩ := HstV.out.at_ i (by simpa using hi) (by rw [List.length_set])
                  simp only [List.getElem_set_self] at x0 x1 x2 x3 x4 x5
                  replace x0 := (HI8.out.hb.cell (p := ⟨g, i * 6, none⟩) gV).trans x0
                  replace x1 := (HI8.out.hb.cell (p := ⟨g, i * 6 + 1, none⟩) gV).trans x1
                  replace x2 := (HI8.out.hb.cell (p := ⟨g, i * 6 + 2, none⟩) gV).trans x2
                  replace x3 := (HI8.out.hb.cell (p := ⟨g, i * 6 + 3, none⟩) gV).trans x3
                  replace x4 := (HI8.out.hb.cell (p := ⟨g, i * 6 + 4, none⟩) gV).trans x4
                  replace x5 := (HI8.out.hb.cell (p := ⟨g, i * 6 + 5, none⟩) gV).trans x5
                  have xf8 : ∀ j, w8.frozen? ⟨g, j, none⟩ = false := fun j => (HI8.out.hb.frozen (p := ⟨g, j, none⟩) gV).trans (xf j)
                  have r0 := HS8.out.r0
                  have r1 := HS8.out.r1
                  have r2 := HS8.out.r2
                  have rf := HS8.out.rf
                  have i1 := HI8.out.i1
                  have i2 := HI8.out.i2
                  have b0 := HI8.out.box.c0
                  have b1 := HI8.out.box.c1
                  have b2 := HI8.out.box.c2
                  have l8 : w1.heap.size < w8.heap.size := HI8.out.box.lt
                  have n8 := HS8.out.lt
                  have hen9 := hid hen8
                  have hb9 := hid hb8
                  clear hen8 hb8 hpu
                  cases ok
                  · obtain ⟨W3, e3, z0, z1, z2⟩ := three (W := (w8.setCell ⟨g, i * 6 + 5, none⟩ (.slice a' L.length c'))) (a := .slice (some ⟨g, 0, none⟩) th.length cap) (b := .slice (some ⟨gm, 0, none⟩) mem.length cm) (c := .bool bad) (HS8.out.set ⟨g, i * 6 + 5, none⟩ (.slice a' L.length c') hg9).r0 (HS8.out.set ⟨g, i * 6 + 5, none⟩ (.slice a' L.length c') hg9).r1 (HS8.out.set ⟨g, i * 6 + 5, none⟩ (.slice a' L.length c') hg9).r2
                    have hfin := hid (hcl2.out _ _ W3 (Below.refl _ _) ((HBV.out.trans (HI8.out.hb.mono HBV.out.size)).setCell (by show W0.heap.size ≤ g; omega) _) e3)
                    have hR2 : Hid (R.2 = false) := by show _ = _; rw [hR1.out]
                    have E3 := hid e3
                    clear e3
                    go_wp2_with fail
                    rw [← E3.out]
                    refine bodyPost_ret (v := .tuple #[.agg #[.slice (some ⟨g, 0, none⟩) th.length cap, .slice (some ⟨gm, 0, none⟩) mem.length cm, .bool bad], .bool false]) ?_ rfl ⟨_, by rw [hR2.out], hfin.out, (fun h => by rw [hR2.out] at h; cases h), ⟨_, _, _, _, _, _, _, rfl⟩⟩
                    simp [results, Tryz.results36, go_sem, z0, z1, z2]
                  · have hR : Hid (R = ((⟨pn + 1, y0, y1, y2, y3, L⟩, mem, bad), true)) := by show _ = _; rw [hR1.out]
                    have hen10 : EnIn w8 (Sx w8 B (.slice (some ⟨g, 0, none⟩) th.length cap)) a' L.length c' L := (hen9.out rfl).widen fun b hb => ⟨by have h1 := hb.1; simp [World.setCell] at h1; have := HstV.out.lt; omega, hb.2, fun e => by have h1 := hb.1; simp [World.setCell] at h1; simp [Value.ownBlock] at e; omega⟩
                    obtain ⟨W3, e3, z0, z1, z2⟩ := three (W := (w8.setCell ⟨g, i * 6 + 5, none⟩ (.slice a' L.length c'))) (a := .slice (some ⟨g, 0, none⟩) th.length cap) (b := .slice (some ⟨gm, 0, none⟩) mem.length cm) (c := .bool bad) (HS8.out.set ⟨g, i * 6 + 5, none⟩ (.slice a' L.length c') hg9).r0 (HS8.out.set ⟨g, i * 6 + 5, none⟩ (.slice a' L.length c') hg9).r1 (HS8.out.set ⟨g, i * 6 + 5, none⟩ (.slice a' L.length c') hg9).r2
                    have hpo := hid (hcl.out _ (w8.setCell ⟨g, i * 6 + 5, none⟩ (.slice a' L.length c')) W3 _ _ _ _ hR.out (StW.setBuf2 (HstV.out.other HI8.out.hb) hi rfl a' c' L hen10) (Below.refl _ _) ((HBV.out.trans (HI8.out.hb.mono HBV.out.size)).setCell (by show W0.heap.size ≤ g; omega) _) e3)
                    have E3 := hid e3
                    clear e3
                    go_wp2_with fail
                    rw [← E3.out]
                    refine bodyPost_ret ?_ rfl hpo.out
                    simp [results, Tryz.results36, go_sem, z0, z1, z2]
          · have hr4 := Hrg.out (by simp)
            have xfA := xf6.out
            rcases (show rg = 0 ∨ rg = 1 ∨ rg = 2 ∨ rg = 3 by omega) with rfl | rfl | rfl | rfl
            · have hR : Hid (R = ((⟨pn + 1, ea, y1, y2, y3, buf⟩, mem, bad), true)) := by show _ = _; rw [hRe.out]; simp [stepI, setReg, hea]
              obtain ⟨W3, e3, z0, z1, z2⟩ := three (W := ((w6.setCell ⟨g, i * 6, none⟩ (.int .i64 (pn + 1))).setCell ⟨g, i * 6 + 1, none⟩ (.int .i64 ea))) (a := .slice (some ⟨g, 0, none⟩) th.length cap) (b := .slice (some ⟨gm, 0, none⟩) mem.length cm) (c := .bool bad) (HS7.out.set ⟨g, i * 6 + 1, none⟩ (.int .i64 ea) hg9).r0 (HS7.out.set ⟨g, i * 6 + 1, none⟩ (.int .i64 ea) hg9).r1 (HS7.out.set ⟨g, i * 6 + 1, none⟩ (.int .i64 ea) hg9).r2
              have hpo := hid (hcl.out _ (V.setCell ⟨g, i * 6 + 1, none⟩ (.int .i64 ea)) W3 _ _ _ _ hR.out (HstV.out.setAt2 hi rfl 1 (.int .i64 ea) ⟨pn + 1, ea, y1, y2, y3, buf⟩ (by omega) rfl (fun _ _ => rfl)) (HI7.out.set ⟨g, i * 6 + 1, none⟩ (.int .i64 ea) gV).hb (HBV.out.setCell (by show W0.heap.size ≤ g; omega) _) e3)
              have E3 := hid e3
              clear e3
              go_wp2_with fail
              go_region
              all_goals
                go_wp2_with fail
                rw [← E3.out]
                refine bodyPost_ret ?_ rfl hpo.out.drew
                simp [results, Tryz.results36, go_sem, z0, z1, z2]
            · have hR : Hid (R = ((⟨pn + 1, y0, ea, y2, y3, buf⟩, mem, bad), true)) := by show _ = _; rw [hRe.out]; simp [stepI, setReg, hea]
              obtain ⟨W3, e3, z0, z1, z2⟩ := three (W := ((w6.setCell ⟨g, i * 6, none⟩ (.int .i64 (pn + 1))).setCell ⟨g, i * 6 + 2, none⟩ (.int .i64 ea))) (a := .slice (some ⟨g, 0, none⟩) th.length cap) (b := .slice (some ⟨gm, 0, none⟩) mem.length cm) (c := .bool bad) (HS7.out.set ⟨g, i * 6 + 2, none⟩ (.int .i64 ea) hg9).r0 (HS7.out.set ⟨g, i * 6 + 2, none⟩ (.int .i64 ea) hg9).r1 (HS7.out.set ⟨g, i * 6 + 2, none⟩ (.int .i64 ea) hg9).r2
              have hpo := hid (hcl.out _ (V.setCell ⟨g, i * 6 + 2, none⟩ (.int .i64 ea)) W3 _ _ _ _ hR.out (HstV.out.setAt2 hi rfl 2 (.int .i64 ea) ⟨pn + 1, y0, ea, y2, y3, buf⟩ (by omega) rfl (fun _ _ => rfl)) (HI7.out.set ⟨g, i * 6 + 2, none⟩ (.int .i64 ea) gV).hb (HBV.out.setCell (by show W0.heap.size ≤ g; omega) _) e3)
              have E3 := hid e3
              clear e3
              go_wp2_with fail
              go_region
              all_goals
                go_wp2_with fail
                rw [← E3.out]
                refine bodyPost_ret ?_ rfl hpo.out.drew
                simp [results, Tryz.results36, go_sem, z0, z1, z2]
            · have hR : Hid (R = ((⟨pn + 1, y0, y1, ea, y3, buf⟩, mem, bad), true)) := by show _ = _; rw [hRe.out]; simp [stepI, setReg, hea]
              obtain ⟨W3, e3, z0, z1, z2⟩ := three (W := ((w6.setCell ⟨g, i * 6, none⟩ (.int .i64 (pn + 1))).setCell ⟨g, i * 6 + 3, none⟩ (.int .i64 ea))) (a := .slice (some ⟨g, 0, none⟩) th.length cap) (b := .slice (some ⟨gm, 0, none⟩) mem.length cm) (c := .bool bad) (HS7.out.set ⟨g, i * 6 + 3, none⟩ (.int .i64 ea) hg9).r0 (HS7.out.set ⟨g, i * 6 + 3, none⟩ (.int .i64 ea) hg9).r1 (HS7.out.set ⟨g, i * 6 + 3, none⟩ (.int .i64 ea) hg9).r2
              have hpo := hid (hcl.out _ (V.setCell ⟨g, i * 6 + 3, none⟩ (.int .i64 ea)) W3 _ _ _ _ hR.out (HstV.out.setAt2 hi rfl 3 (.int .i64 ea) ⟨pn + 1, y0, y1, ea, y3, buf⟩ (by omega) rfl (fun _ _ => rfl)) (HI7.out.set ⟨g, i * 6 + 3, none⟩ (.int .i64 ea) gV).hb (HBV.out.setCell (by show W0.heap.size ≤ g; omega) _) e3)
              have E3 := hid e3
              clear e3
              go_wp2_with fail
              go_region
              all_goals
                go_wp2_with fail
                rw [← E3.out]
                refine bodyPost_ret ?_ rfl hpo.out.drew
                simp [results, Tryz.results36, go_sem, z0, z1, z2]
            · have hR : Hid (R = ((⟨pn + 1, y0, y1, y2, ea, buf⟩, mem, bad), true)) := by show _ = _; rw [hRe.out]; simp [stepI, setReg, hea]
              obtain ⟨W3, e3, z0, z1, z2⟩ := three (W := ((w6.setCell ⟨g, i * 6, none⟩ (.int .i64 (pn + 1))).setCell ⟨g, i * 6 + 4, none⟩ (.int .i64 ea))) (a := .slice (some ⟨g, 0, none⟩) th.length cap) (b := .slice (some ⟨gm, 0, none⟩) mem.length cm) (c := .bool bad) (HS7.out.set ⟨g, i * 6 + 4, none⟩ (.int .i64 ea) hg9).r0 (HS7.out.set ⟨g, i * 6 + 4, none⟩ (.int .i64 ea) hg9).r1 (HS7.out.set ⟨g, i * 6 + 4, none⟩ (.int .i64 ea) hg9).r2
              have hpo := hid (hcl.out _ (V.setCell ⟨g, i * 6 + 4, none⟩ (.int .i64 ea)) W3 _ _ _ _ hR.out (HstV.out.setAt2 hi rfl 4 (.int .i64 ea) ⟨pn + 1, y0, y1, y2, ea, buf⟩ (by omega) rfl (fun _ _ => rfl)) (HI7.out.set ⟨g, i * 6 + 4, none⟩ (.int .i64 ea) gV).hb (HBV.out.setCell (by show W0.heap.size ≤ g; omega) _) e3)
              have E3 := hid e3
              clear e3
              go_wp2_with fail
              go_region
              all_goals
                go_wp2_with fail
                rw [← E3.out]
                refine bodyPost_ret ?_ rfl hpo.out.drew
                simp [results, Tryz.results36, go_sem, z0, z1, z2]
          · have hR : Hid (R = ((⟨pn + 1, y0, y1, y2, y3, buf⟩, mem, bad), ((buf.length : Int) == 0))) := by show _ = _; rw [hRe.out, He1.out]; simp [stepI]
            obtain ⟨W3, e3, z0, z1, z2⟩ := three (a := .slice (some ⟨g, 0, none⟩) th.length cap) (b := .slice (some ⟨gm, 0, none⟩) mem.length cm) (c := .bool bad) HS7.out.r0 HS7.out.r1 HS7.out.r2
            have hpo := hid (hcl.out _ V W3 _ _ _ _ hR.out HstV.out HI7.out.hb HBV.out e3)
            have E3 := hid e3
            clear e3
            go_wp2_with fail
            rw [← E3.out]
            refine bodyPost_ret ?_ rfl hpo.out
            simp [results, Tryz.results36, go_sem, z0, z1, z2]
          · have m0 := HS6.out.m0
            generalize hbE : ((buf.length : Int) == 0) = bE at *
            have hR : Hid (R = ((⟨pn + 1, y0, y1, y2, y3, buf⟩, mem, bad), bE || (m != 2))) := by show _ = _; rw [hRe.out]; simp [stepI, He1.out]; rfl
            obtain ⟨W3, e3, z0, z1, z2⟩ := three (W := (w6.setCell ⟨g, i * 6, none⟩ (.int .i64 (pn + 1)))) (a := .slice (some ⟨g, 0, none⟩) th.length cap) (b := .slice (some ⟨gm, 0, none⟩) mem.length cm) (c := .bool bad) HS7.out.r0 HS7.out.r1 HS7.out.r2
            have hpo := hid (hcl.out _ V W3 _ _ _ _ hR.out HstV.out HI7.out.hb HBV.out e3)
            have E3 := hid e3
            clear e3
            cases bE
            · go_wp2_with fail
              go_region
              all_goals
                go_wp2_with fail
                rw [← E3.out]
                refine bodyPost_ret ?_ rfl hpo.out.drew
                simp [results, Tryz.results36, go_sem, z0, z1, z2]
            · go_wp2_with fail
              go_region
              all_goals
                go_wp2_with fail
                rw [← E3.out]
                refine bodyPost_ret ?_ rfl hpo.out.drew
                simp [results, Tryz.results36, go_sem, z0, z1, z2]
          · obtain ⟨vn, hvn⟩ : ∃ vn : Nat, vi = vn := ⟨vi.toNat, by have := Hvi.out (by simp); omega⟩
            subst hvn
            have hvl : vn < mem.length := by have := Hvi.out (by simp); have := hml.out; omega
            have hm1 := hmm.out vn hvl
            have hm2 := hmf.out vn
            obtain ⟨bm, om, rfl, hbm, hcm⟩ := hmo.out vn hvl
            have s0 := HS6.out.s0
            have s1 := HS6.out.s1
            have s2 := HS6.out.s2
            have hbm1 : bm < gm := by omega
            have hbm2 : bm < g := by omega
            have hr4 := Hrg.out (by simp)
            have xfA := xf6.out
            have hma : Hid (memAt mem vn = mem[vn]) := by show _ = _; simp [memAt, hvl]
            have mv0 : (0 : Int) ≤ vn := by omega
            by_cases hme : mem[vn] = ea
            · rcases (show rg = 0 ∨ rg = 1 ∨ rg = 2 ∨ rg = 3 by omega) with rfl | rfl | rfl | rfl
              · have hR : Hid (R = ((⟨pn + 1, 1, y1, y2, y3, buf⟩, mem.set vn eb, bad), ((buf.length : Int) == 0))) := by show _ = _; rw [hRe.out, He1.out]; simp [stepI, setReg, hea, heb, hma.out, hme]
                obtain ⟨W3, e3, z0, z1, z2⟩ := three (W := ((((w6.setCell ⟨g, i * 6, none⟩ (.int .i64 (pn + 1))).setCell ⟨g, i * 6 + 1, none⟩ (.int .i64 0)).setCell ⟨gm, vn, none⟩ (.int .i64 eb)).setCell ⟨g, i * 6 + 1, none⟩ (.int .i64 1))) (a := .slice (some ⟨g, 0, none⟩) th.length cap) (b := .slice (some ⟨gm, 0, none⟩) mem.length cm) (c := .bool bad) (((HS7.out.set ⟨g, i * 6 + 1, none⟩ (.int .i64 0) hg9).set ⟨gm, vn, none⟩ (.int .i64 eb) hgm9).set ⟨g, i * 6 + 1, none⟩ (.int .i64 1) hg9).r0 (((HS7.out.set ⟨g, i * 6 + 1, none⟩ (.int .i64 0) hg9).set ⟨gm, vn, none⟩ (.int .i64 eb) hgm9).set ⟨g, i * 6 + 1, none⟩ (.int .i64 1) hg9).r1 (((HS7.out.set ⟨g, i * 6 + 1, none⟩ (.int .i64 0) hg9).set ⟨gm, vn, none⟩ (.int .i64 eb) hgm9).set ⟨g, i * 6 + 1, none⟩ (.int .i64 1) hg9).r2
                have hpo := hid (hcl.out _ (((V.setCell ⟨g, i * 6 + 1, none⟩ (.int .i64 0)).setCell ⟨gm, vn, none⟩ (.int .i64 eb)).setCell ⟨g, i * 6 + 1, none⟩ (.int .i64 1)) W3 _ _ _ _ hR.out (StW.setAt2 (StW.setMem (StW.setAt2 HstV.out hi rfl 1 (.int .i64 0) ⟨pn + 1, 0, y1, y2, y3, buf⟩ (by omega) rfl (fun _ _ => rfl)) vn (by simpa using hvl) rfl eb) hi rfl 1 (.int .i64 1) ⟨pn + 1, 1, y1, y2, y3, buf⟩ (by omega) rfl (fun _ _ => rfl)) (((HI7.out.set ⟨g, i * 6 + 1, none⟩ (.int .i64 0) (by first | exact gV | simpa [World.setCell] using gV)).set ⟨gm, vn, none⟩ (.int .i64 eb) (by first | exact gmV | simpa [World.setCell] using gmV)).set ⟨g, i * 6 + 1, none⟩ (.int .i64 1) (by first | exact gV | simpa [World.setCell] using gV)).hb (((HBV.out.setCell (by show W0.heap.size ≤ g; omega) _).setCell (by show W0.heap.size ≤ gm; omega) _).setCell (by show W0.heap.size ≤ g; omega) _) e3)
                have E3 := hid e3
                clear e3
                go_wp2_with fail
                go_region
                all_goals
                  go_wp2_with fail
                  go_region
                  all_goals
                    go_wp2_with fail
                    rw [← E3.out]
                    refine bodyPost_ret ?_ rfl (by first | exact hpo.out.drew.drew | exact hpo.out.drew | exact hpo.out)
                    simp [results, Tryz.results36, go_sem, z0, z1, z2]
              · have hR : Hid (R = ((⟨pn + 1, y0, 1, y2, y3, buf⟩, mem.set vn eb, bad), ((buf.length : Int) == 0))) := by show _ = _; rw [hRe.out, He1.out]; simp [stepI, setReg, hea, heb, hma.out, hme]
                obtain ⟨W3, e3, z0, z1, z2⟩ := three (W := ((((w6.setCell ⟨g, i * 6, none⟩ (.int .i64 (pn + 1))).setCell ⟨g, i * 6 + 2, none⟩ (.int .i64 0)).setCell ⟨gm, vn, none⟩ (.int .i64 eb)).setCell ⟨g, i * 6 + 2, none⟩ (.int .i64 1))) (a := .slice (some ⟨g, 0, none⟩) th.length cap) (b := .slice (some ⟨gm, 0, none⟩) mem.length cm) (c := .bool bad) (((HS7.out.set ⟨g, i * 6 + 2, none⟩ (.int .i64 0) hg9).set ⟨gm, vn, none⟩ (.int .i64 eb) hgm9).set ⟨g, i * 6 + 2, none⟩ (.int .i64 1) hg9).r0 (((HS7.out.set ⟨g, i * 6 + 2, none⟩ (.int .i64 0) hg9).set ⟨gm, vn, none⟩ (.int .i64 eb) hgm9).set ⟨g, i * 6 + 2, none⟩ (.int .i64 1) hg9).r1 (((HS7.out.set ⟨g, i * 6 + 2, none⟩ (.int .i64 0) hg9).set ⟨gm, vn, none⟩ (.int .i64 eb) hgm9).set ⟨g, i * 6 + 2, none⟩ (.int .i64 1) hg9).r2
                have hpo := hid (hcl.out _ (((V.setCell ⟨g, i * 6 + 2, none⟩ (.int .i64 0)).setCell ⟨gm, vn, none⟩ (.int .i64 eb)).setCell ⟨g, i * 6 + 2, none⟩ (.int .i64 1)) W3 _ _ _ _ hR.out (StW.setAt2 (StW.setMem (StW.setAt2 HstV.out hi rfl 2 (.int .i64 0) ⟨pn + 1, y0, 0, y2, y3, buf⟩ (by omega) rfl (fun _ _ => rfl)) vn (by simpa using hvl) rfl eb) hi rfl 2 (.int .i64 1) ⟨pn + 1, y0, 1, y2, y3, buf⟩ (by omega) rfl (fun _ _ => rfl)) (((HI7.out.set ⟨g, i * 6 + 2, none⟩ (.int .i64 0) (by first | exact gV | simpa [World.setCell] using gV)).set ⟨gm, vn, none⟩ (.int .i64 eb) (by first | exact gmV | simpa [World.setCell] using gmV)).set ⟨g, i * 6 + 2, none⟩ (.int .i64 1) (by first | exact gV | simpa [World.setCell] using gV)).hb (((HBV.out.setCell (by show W0.heap.size ≤ g; omega) _).setCell (by show W0.heap.size ≤ gm; omega) _).setCell (by show W0.heap.size ≤ g; omega) _) e3)
                have E3 := hid e3
                clear e3
                go_wp2_with fail
                go_region
                all_goals
                  go_wp2_with fail
                  go_region
                  all_goals
                    go_wp2_with fail
                    rw [← E3.out]
                    refine bodyPost_ret ?_ rfl (by first | exact hpo.out.drew.drew | exact hpo.out.drew | exact hpo.out)
                    simp [results, Tryz.results36, go_sem, z0, z1, z2]
              · have hR : Hid (R = ((⟨pn + 1, y0, y1, 1, y3, buf⟩, mem.set vn eb, bad), ((buf.length : Int) == 0))) := by show _ = _; rw [hRe.out, He1.out]; simp [stepI, setReg, hea, heb, hma.out, hme]
                obtain ⟨W3, e3, z0, z1, z2⟩ := three (W := ((((w6.setCell ⟨g, i * 6, none⟩ (.int .i64 (pn + 1))).setCell ⟨g, i * 6 + 3, none⟩ (.int .i64 0)).setCell ⟨gm, vn, none⟩ (.int .i64 eb)).setCell ⟨g, i * 6 + 3, none⟩ (.int .i64 1))) (a := .slice (some ⟨g, 0, none⟩) th.length cap) (b := .slice (some ⟨gm, 0, none⟩) mem.length cm) (c := .bool bad) (((HS7.out.set ⟨g, i * 6 + 3, none⟩ (.int .i64 0) hg9).set ⟨gm, vn, none⟩ (.int .i64 eb) hgm9).set ⟨g, i * 6 + 3, none⟩ (.int .i64 1) hg9).r0 (((HS7.out.set ⟨g, i * 6 + 3, none⟩ (.int .i64 0) hg9).set ⟨gm, vn, none⟩ (.int .i64 eb) hgm9).set ⟨g, i * 6 + 3, none⟩ (.int .i64 1) hg9).r1 (((HS7.out.set ⟨g, i * 6 + 3, none⟩ (.int .i64 0) hg9).set ⟨gm, vn, none⟩ (.int .i64 eb) hgm9).set ⟨g, i * 6 + 3, none⟩ (.int .i64 1) hg9).r2
                have hpo := hid (hcl.out _ (((V.setCell ⟨g, i * 6 + 3, none⟩ (.int .i64 0)).setCell ⟨gm, vn, none⟩ (.int .i64 eb)).setCell ⟨g, i * 6 + 3, none⟩ (.int .i64 1)) W3 _ _ _ _ hR.out (StW.setAt2 (StW.setMem (StW.setAt2 HstV.out hi rfl 3 (.int .i64 0) ⟨pn + 1, y0, y1, 0, y3, buf⟩ (by omega) rfl (fun _ _ => rfl)) vn (by simpa using hvl) rfl eb) hi rfl 3 (.int .i64 1) ⟨pn + 1, y0, y1, 1, y3, buf⟩ (by omega) rfl (fun _ _ => rfl)) (((HI7.out.set ⟨g, i * 6 + 3, none⟩ (.int .i64 0) (by first | exact gV | simpa [World.setCell] using gV)).set ⟨gm, vn, none⟩ (.int .i64 eb) (by first | exact gmV | simpa [World.setCell] using gmV)).set ⟨g, i * 6 + 3, none⟩ (.int .i64 1) (by first | exact gV | simpa [World.setCell] using gV)).hb (((HBV.out.setCell (by show W0.heap.size ≤ g; omega) _).setCell (by show W0.heap.size ≤ gm; omega) _).setCell (by show W0.heap.size ≤ g; omega) _) e3)
                have E3 := hid e3
                clear e3
                go_wp2_with fail
                go_region
                all_goals
                  go_wp2_with fail
                  go_region
                  all_goals
                    go_wp2_with fail
                    rw [← E3.out]
                    refine bodyPost_ret ?_ rfl (by first | exact hpo.out.drew.drew | exact hpo.out.drew | exact hpo.out)
                    simp [results, Tryz.results36, go_sem, z0, z1, z2]
              · have hR : Hid (R = ((⟨pn + 1, y0, y1, y2, 1, buf⟩, mem.set vn eb, bad), ((buf.length : Int) == 0))) := by show _ = _; rw [hRe.out, He1.out]; simp [stepI, setReg, hea, heb, hma.out, hme]
                obtain ⟨W3, e3, z0, z1, z2⟩ := three (W := ((((w6.setCell ⟨g, i * 6, none⟩ (.int .i64 (pn + 1))).setCell ⟨g, i * 6 + 4, none⟩ (.int .i64 0)).setCell ⟨gm, vn, none⟩ (.int .i64 eb)).setCell ⟨g, i * 6 + 4, none⟩ (.int .i64 1))) (a := .slice (some ⟨g, 0, none⟩) th.length cap) (b := .slice (some ⟨gm, 0, none⟩) mem.length cm) (c := .bool bad) (((HS7.out.set ⟨g, i * 6 + 4, none⟩ (.int .i64 0) hg9).set ⟨gm, vn, none⟩ (.int .i64 eb) hgm9).set ⟨g, i * 6 + 4, none⟩ (.int .i64 1) hg9).r0 (((HS7.out.set ⟨g, i * 6 + 4, none⟩ (.int .i64 0) hg9).set ⟨gm, vn, none⟩ (.int .i64 eb) hgm9).set ⟨g, i * 6 + 4, none⟩ (.int .i64 1) hg9).r1 (((HS7.out.set ⟨g, i * 6 + 4, none⟩ (.int .i64 0) hg9).set ⟨gm, vn, none⟩ (.int .i64 eb) hgm9).set ⟨g, i * 6 + 4, none⟩ (.int .i64 1) hg9).r2
                have hpo := hid (hcl.out _ (((V.setCell ⟨g, i * 6 + 4, none⟩ (.int .i64 0)).setCell ⟨gm, vn, none⟩ (.int .i64 eb)).setCell ⟨g, i * 6 + 4, none⟩ (.int .i64 1)) W3 _ _ _ _ hR.out (StW.setAt2 (StW.setMem (StW.setAt2 HstV.out hi rfl 4 (.int .i64 0) ⟨pn + 1, y0, y1, y2, 0, buf⟩ (by omega) rfl (fun _ _ => rfl)) vn (by simpa using hvl) rfl eb) hi rfl 4 (.int .i64 1) ⟨pn + 1, y0, y1, y2, 1, buf⟩ (by omega) rfl (fun _ _ => rfl)) (((HI7.out.set ⟨g, i * 6 + 4, none⟩ (.int .i64 0) (by first | exact gV | simpa [World.setCell] using gV)).set ⟨gm, vn, none⟩ (.int .i64 eb) (by first | exact gmV | simpa [World.setCell] using gmV)).set ⟨g, i * 6 + 4, none⟩ (.int .i64 1) (by first | exact gV | simpa [World.setCell] using gV)).hb (((HBV.out.setCell (by show W0.heap.size ≤ g; omega) _).setCell (by show W0.heap.size ≤ gm; omega) _).setCell (by show W0.heap.size ≤ g; omega) _) e3)
                have E3 := hid e3
                clear e3
                go_wp2_with fail
                go_region
                all_goals
                  go_wp2_with fail
                  go_region
                  all_goals
                    go_wp2_with fail
                    rw [← E3.out]
                    refine bodyPost_ret ?_ rfl (by first | exact hpo.out.drew.drew | exact hpo.out.drew | exact hpo.out)
                    simp [results, Tryz.results36, go_sem, z0, z1, z2]
            · rcases (show rg = 0 ∨ rg = 1 ∨ rg = 2 ∨ rg = 3 by omega) with rfl | rfl | rfl | rfl
              · have hR : Hid (R = ((⟨pn + 1, 0, y1, y2, y3, buf⟩, mem, bad), ((buf.length : Int) == 0))) := by show _ = _; rw [hRe.out, He1.out]; simp [stepI, setReg, hea, hma.out, hme]
                obtain ⟨W3, e3, z0, z1, z2⟩ := three (W := ((w6.setCell ⟨g, i * 6, none⟩ (.int .i64 (pn + 1))).setCell ⟨g, i * 6 + 1, none⟩ (.int .i64 0))) (a := .slice (some ⟨g, 0, none⟩) th.length cap) (b := .slice (some ⟨gm, 0, none⟩) mem.length cm) (c := .bool bad) (HS7.out.set ⟨g, i * 6 + 1, none⟩ (.int .i64 0) hg9).r0 (HS7.out.set ⟨g, i * 6 + 1, none⟩ (.int .i64 0) hg9).r1 (HS7.out.set ⟨g, i * 6 + 1, none⟩ (.int .i64 0) hg9).r2
                have hpo := hid (hcl.out _ (V.setCell ⟨g, i * 6 + 1, none⟩ (.int .i64 0)) W3 _ _ _ _ hR.out (StW.setAt2 HstV.out hi rfl 1 (.int .i64 0) ⟨pn + 1, 0, y1, y2, y3, buf⟩ (by omega) rfl (fun _ _ => rfl)) (HI7.out.set ⟨g, i * 6 + 1, none⟩ (.int .i64 0) (by first | exact gV | simpa [World.setCell] using gV)).hb (HBV.out.setCell (by show W0.heap.size ≤ g; omega) _) e3)
                have E3 := hid e3
                clear e3
                go_wp2_with fail
                go_region
                all_goals
                  go_wp2_with fail
                  rw [← E3.out]
                  refine bodyPost_ret ?_ rfl (by first | exact hpo.out.drew | exact hpo.out)
                  simp [results, Tryz.results36, go_sem, z0, z1, z2]
              · have hR : Hid (R = ((⟨pn + 1, y0, 0, y2, y3, buf⟩, mem, bad), ((buf.length : Int) == 0))) := by show _ = _; rw [hRe.out, He1.out]; simp [stepI, setReg, hea, hma.out, hme]
                obtain ⟨W3, e3, z0, z1, z2⟩ := three (W := ((w6.setCell ⟨g, i * 6, none⟩ (.int .i64 (pn + 1))).setCell ⟨g, i * 6 + 2, none⟩ (.int .i64 0))) (a := .slice (some ⟨g, 0, none⟩) th.length cap) (b := .slice (some ⟨gm, 0, none⟩) mem.length cm) (c := .bool bad) (HS7.out.set ⟨g, i * 6 + 2, none⟩ (.int .i64 0) hg9).r0 (HS7.out.set ⟨g, i * 6 + 2, none⟩ (.int .i64 0) hg9).r1 (HS7.out.set ⟨g, i * 6 + 2, none⟩ (.int .i64 0) hg9).r2
                have hpo := hid (hcl.out _ (V.setCell ⟨g, i * 6 + 2, none⟩ (.int .i64 0)) W3 _ _ _ _ hR.out (StW.setAt2 HstV.out hi rfl 2 (.int .i64 0) ⟨pn + 1, y0, 0, y2, y3, buf⟩ (by omega) rfl (fun _ _ => rfl)) (HI7.out.set ⟨g, i * 6 + 2, none⟩ (.int .i64 0) (by first | exact gV | simpa [World.setCell] using gV)).hb (HBV.out.setCell (by show W0.heap.size ≤ g; omega) _) e3)
                have E3 := hid e3
                clear e3
                go_wp2_with fail
                go_region
                all_goals
                  go_wp2_with fail
                  rw [← E3.out]
                  refine bodyPost_ret ?_ rfl (by first | exact hpo.out.drew | exact hpo.out)
                  simp [results, Tryz.results36, go_sem, z0, z1, z2]
              · have hR : Hid (R = ((⟨pn + 1, y0, y1, 0, y3, buf⟩, mem, bad), ((buf.length : Int) == 0))) := by show _ = _; rw [hRe.out, He1.out]; simp [stepI, setReg, hea, hma.out, hme]
                obtain ⟨W3, e3, z0, z1, z2⟩ := three (W := ((w6.setCell ⟨g, i * 6, none⟩ (.int .i64 (pn + 1))).setCell ⟨g, i * 6 + 3, none⟩ (.int .i64 0))) (a := .slice (some ⟨g, 0, none⟩) th.length cap) (b := .slice (some ⟨gm, 0, none⟩) mem.length cm) (c := .bool bad) (HS7.out.set ⟨g, i * 6 + 3, none⟩ (.int .i64 0) hg9).r0 (HS7.out.set ⟨g, i * 6 + 3, none⟩ (.int .i64 0) hg9).r1 (HS7.out.set ⟨g, i * 6 + 3, none⟩ (.int .i64 0) hg9).r2
                have hpo := hid (hcl.out _ (V.setCell ⟨g, i * 6 + 3, none⟩ (.int .i64 0)) W3 _ _ _ _ hR.out (StW.setAt2 HstV.out hi rfl 3 (.int .i64 0) ⟨pn + 1, y0, y1, 0, y3, buf⟩ (by omega) rfl (fun _ _ => rfl)) (HI7.out.set ⟨g, i * 6 + 3, none⟩ (.int .i64 0) (by first | exact gV | simpa [World.setCell] using gV)).hb (HBV.out.setCell (by show W0.heap.size ≤ g; omega) _) e3)
                have E3 := hid e3
                clear e3
                go_wp2_with fail
                go_region
                all_goals
                  go_wp2_with fail
                  rw [← E3.out]
                  refine bodyPost_ret ?_ rfl (by first | exact hpo.out.drew | exact hpo.out)
                  simp [results, Tryz.results36, go_sem, z0, z1, z2]
              · have hR : Hid (R = ((⟨pn + 1, y0, y1, y2, 0, buf⟩, mem, bad), ((buf.length : Int) == 0))) := by show _ = _; rw [hRe.out, He1.out]; simp [stepI, setReg, hea, hma.out, hme]
                obtain ⟨W3, e3, z0, z1, z2⟩ := three (W := ((w6.setCell ⟨g, i * 6, none⟩ (.int .i64 (pn + 1))).setCell ⟨g, i * 6 + 4, none⟩ (.int .i64 0))) (a := .slice (some ⟨g, 0, none⟩) th.length cap) (b := .slice (some ⟨gm, 0, none⟩) mem.length cm) (c := .bool bad) (HS7.out.set ⟨g, i * 6 + 4, none⟩ (.int .i64 0) hg9).r0 (HS7.out.set ⟨g, i * 6 + 4, none⟩ (.int .i64 0) hg9).r1 (HS7.out.set ⟨g, i * 6 + 4, none⟩ (.int .i64 0) hg9).r2
                have hpo := hid (hcl.out _ (V.setCell ⟨g, i * 6 + 4, none⟩ (.int .i64 0)) W3 _ _ _ _ hR.out (StW.setAt2 HstV.out hi rfl 4 (.int .i64 0) ⟨pn + 1, y0, y1, y2, 0, buf⟩ (by omega) rfl (fun _ _ => rfl)) (HI7.out.set ⟨g, i * 6 + 4, none⟩ (.int .i64 0) (by first | exact gV | simpa [World.setCell] using gV)).hb (HBV.out.setCell (by show W0.heap.size ≤ g; omega) _) e3)
                have E3 := hid e3
                clear e3
                go_wp2_with fail
                go_region
                all_goals
                  go_wp2_with fail
                  rw [← E3.out]
                  refine bodyPost_ret ?_ rfl (by first | exact hpo.out.drew | exact hpo.out)
                  simp [results, Tryz.results36, go_sem, z0, z1, z2]
          · obtain ⟨vn, hvn⟩ : ∃ vn : Nat, vi = vn := ⟨vi.toNat, by have := Hvi.out (by simp); omega⟩
            subst hvn
            have hvl : vn < mem.length := by have := Hvi.out (by simp); have := hml.out; omega
            have hm1 := hmm.out vn hvl
            have hm2 := hmf.out vn
            obtain ⟨bm, om, rfl, hbm, hcm⟩ := hmo.out vn hvl
            have s0 := HS6.out.s0
            have s1 := HS6.out.s1
            have s2 := HS6.out.s2
            have hbm1 : bm < gm := by omega
            have hbm2 : bm < g := by omega
            generalize hbE : ((buf.length : Int) == 0) = bE at *
            have hR : Hid (R = ((⟨pn + 1, y0, y1, y2, y3, buf⟩, mem.set vn 1, bad), bE && (mem[vn] == 0))) := by show _ = _; rw [hRe.out]; simp [stepI, He1.out, memAt, hvl]
            obtain ⟨W3, e3, z0, z1, z2⟩ := three (W := ((w6.setCell ⟨g, i * 6, none⟩ (.int .i64 (pn + 1))).setCell ⟨gm, vn, none⟩ (.int .i64 1))) (a := .slice (some ⟨g, 0, none⟩) th.length cap) (b := .slice (some ⟨gm, 0, none⟩) mem.length cm) (c := .bool bad) (HS7.out.set ⟨gm, vn, none⟩ (.int .i64 1) hgm9).r0 (HS7.out.set ⟨gm, vn, none⟩ (.int .i64 1) hgm9).r1 (HS7.out.set ⟨gm, vn, none⟩ (.int .i64 1) hgm9).r2
            have hpo := hid (hcl.out _ (V.setCell ⟨gm, vn, none⟩ (.int .i64 1)) W3 _ _ _ _ hR.out (HstV.out.setMem vn hvl rfl 1) (HI7.out.set ⟨gm, vn, none⟩ (.int .i64 1) gmV).hb (HBV.out.setCell (by show W0.heap.size ≤ gm; omega) _) e3)
            have E3 := hid e3
            clear e3
            cases bE
            · go_wp2_with fail
              go_region
              all_goals
                go_wp2_with fail
                rw [← E3.out]
                refine bodyPost_ret ?_ rfl hpo.out.drew
                simp [results, Tryz.results36, go_sem, z0, z1, z2]
            · go_wp2_with fail
              go_region
              all_goals
                go_wp2_with fail
                rw [← E3.out]
                refine bodyPost_ret ?_ rfl hpo.out.drew
                simp [results, Tryz.results36, go_sem, z0, z1, z2]
          · obtain ⟨vn, hvn⟩ : ∃ vn : Nat, vi = vn := ⟨vi.toNat, by have := Hvi.out (by simp); omega⟩
            subst hvn
            have hvl : vn < mem.length := by have := Hvi.out (by simp); have := hml.out; omega
            have hR : Hid (R = ((⟨pn + 1, y0, y1, y2, y3, buf⟩, mem.set vn 0, bad), ((buf.length : Int) == 0))) := by show _ = _; rw [hRe.out, He1.out]; simp [stepI]
            have hm1 := hmm.out vn hvl
            have hm2 := hmf.out vn
            obtain ⟨W3, e3, z0, z1, z2⟩ := three (W := ((w6.setCell ⟨g, i * 6, none⟩ (.int .i64 (pn + 1))).setCell ⟨gm, vn, none⟩ (.int .i64 0))) (a := .slice (some ⟨g, 0, none⟩) th.length cap) (b := .slice (some ⟨gm, 0, none⟩) mem.length cm) (c := .bool bad) (HS7.out.set ⟨gm, vn, none⟩ (.int .i64 0) hgm9).r0 (HS7.out.set ⟨gm, vn, none⟩ (.int .i64 0) hgm9).r1 (HS7.out.set ⟨gm, vn, none⟩ (.int .i64 0) hgm9).r2
            have hpo := hid (hcl.out _ (V.setCell ⟨gm, vn, none⟩ (.int .i64 0)) W3 _ _ _ _ hR.out (HstV.out.setMem vn hvl rfl 0) (HI7.out.set ⟨gm, vn, none⟩ (.int .i64 0) gmV).hb (HBV.out.setCell (by show W0.heap.size ≤ gm; omega) _) e3)
            have E3 := hid e3
            clear e3
            go_wp2_with fail
            rw [← E3.out]
            refine bodyPost_ret ?_ rfl hpo.out
            simp [results, Tryz.results36, go_sem, z0, z1, z2]
          · have hOBf := HI6.out.box.f0 2
            cases bad
            · have hR : Hid (R = ((⟨pn + 1, y0, y1, y2, y3, buf⟩, mem, (ea == 0)), true)) := by show _ = _; rw [hRe.out]; simp [stepI, hea]
              obtain ⟨W3, e3, z0, z1, z2⟩ := three (W := ((w6.setCell ⟨g, i * 6, none⟩ (.int .i64 (pn + 1))).setCell ⟨w1.heap.size, 2, none⟩ (.bool (ea == 0)))) (a := .slice (some ⟨g, 0, none⟩) th.length cap) (b := .slice (some ⟨gm, 0, none⟩) mem.length cm) (c := .bool (ea == 0)) (HS7.out.set ⟨w1.heap.size, 2, none⟩ (.bool (ea == 0)) (by show w.heap.size + 4 ≤ w1.heap.size; omega)).r0 (HS7.out.set ⟨w1.heap.size, 2, none⟩ (.bool (ea == 0)) (by show w.heap.size + 4 ≤ w1.heap.size; omega)).r1 (HS7.out.set ⟨w1.heap.size, 2, none⟩ (.bool (ea == 0)) (by show w.heap.size + 4 ≤ w1.heap.size; omega)).r2
              have hpo := hid (hcl.out _ V W3 _ _ _ _ hR.out HstV.out (HI7.out.hb.setCell (by show V.heap.size ≤ w1.heap.size; omega) _) HBV.out e3)
              have E3 := hid e3
              clear e3
              go_wp2_with fail
              rw [← E3.out]
              refine bodyPost_ret ?_ rfl hpo.out
              simp [results, Tryz.results36, go_sem, z0, z1, z2]
            · have hR : Hid (R = ((⟨pn + 1, y0, y1, y2, y3, buf⟩, mem, true), true)) := by show _ = _; rw [hRe.out]; simp [stepI, hea]
              obtain ⟨W3, e3, z0, z1, z2⟩ := three (W := ((w6.setCell ⟨g, i * 6, none⟩ (.int .i64 (pn + 1))).setCell ⟨w1.heap.size, 2, none⟩ (.bool true))) (a := .slice (some ⟨g, 0, none⟩) th.length cap) (b := .slice (some ⟨gm, 0, none⟩) mem.length cm) (c := .bool true) (HS7.out.set ⟨w1.heap.size, 2, none⟩ (.bool true) (by show w.heap.size + 4 ≤ w1.heap.size; omega)).r0 (HS7.out.set ⟨w1.heap.size, 2, none⟩ (.bool true) (by show w.heap.size + 4 ≤ w1.heap.size; omega)).r1 (HS7.out.set ⟨w1.heap.size, 2, none⟩ (.bool true) (by show w.heap.size + 4 ≤ w1.heap.size; omega)).r2
              have hpo := hid (hcl.out _ V W3 _ _ _ _ hR.out HstV.out (HI7.out.hb.setCell (by show V.heap.size ≤ w1.heap.size; omega) _) HBV.out e3)
              have E3 := hid e3
              clear e3
              go_wp2_with fail
              rw [← E3.out]
              refine bodyPost_ret ?_ rfl hpo.out
              simp [results, Tryz.results36, go_sem, z0, z1, z2]
          · by_cases h0 : ea = 0
            · have hR : Hid (R = ((⟨dst, y0, y1, y2, y3, buf⟩, mem, bad), true)) := by show _ = _; rw [hRe.out]; simp [stepI, hea, h0]
              obtain ⟨W3, e3, z0, z1, z2⟩ := three (W := ((w6.setCell ⟨g, i * 6, none⟩ (.int .i64 (pn + 1))).setCell ⟨g, i * 6, none⟩ (.int .i64 dst))) (a := .slice (some ⟨g, 0, none⟩) th.length cap) (b := .slice (some ⟨gm, 0, none⟩) mem.length cm) (c := .bool bad) (HS7.out.set ⟨g, i * 6, none⟩ (.int .i64 dst) hg9).r0 (HS7.out.set ⟨g, i * 6, none⟩ (.int .i64 dst) hg9).r1 (HS7.out.set ⟨g, i * 6, none⟩ (.int .i64 dst) hg9).r2
              have hpo := hid (hcl.out _ (V.setCell ⟨g, i * 6, none⟩ (.int .i64 dst)) W3 _ _ _ _ hR.out (HstV.out.setAt2 hi rfl 0 (.int .i64 dst) ⟨dst, y0, y1, y2, y3, buf⟩ (by omega) rfl (fun _ _ => rfl)) (HI7.out.set ⟨g, i * 6, none⟩ (.int .i64 dst) gV).hb (HBV.out.setCell (by show W0.heap.size ≤ g; omega) _) e3)
              have E3 := hid e3
              clear e3
              go_wp2_with fail
              rw [← E3.out]
              refine bodyPost_ret ?_ rfl hpo.out
              simp [results, Tryz.results36, go_sem, z0, z1, z2]
            · have hR : Hid (R = ((⟨pn + 1, y0, y1, y2, y3, buf⟩, mem, bad), true)) := by show _ = _; rw [hRe.out]; simp [stepI, hea, h0]
              obtain ⟨W3, e3, z0, z1, z2⟩ := three (W := (w6.setCell ⟨g, i * 6, none⟩ (.int .i64 (pn + 1)))) (a := .slice (some ⟨g, 0, none⟩) th.length cap) (b := .slice (some ⟨gm, 0, none⟩) mem.length cm) (c := .bool bad) HS7.out.r0 HS7.out.r1 HS7.out.r2
              have hpo := hid (hcl.out _ V W3 _ _ _ _ hR.out HstV.out HI7.out.hb HBV.out e3)
              have E3 := hid e3
              clear e3
              go_wp2_with fail
              rw [← E3.out]
              refine bodyPost_ret ?_ rfl hpo.out
              simp [results, Tryz.results36, go_sem, z0, z1, z2]
          · have hR : Hid (R = ((⟨dst, y0, y1, y2, y3, buf⟩, mem, bad), true)) := by show _ = _; rw [hRe.out]; simp [stepI]
            obtain ⟨W3, e3, z0, z1, z2⟩ := three (W := ((w6.setCell ⟨g, i * 6, none⟩ (.int .i64 (pn + 1))).setCell ⟨g, i * 6, none⟩ (.int .i64 dst))) (a := .slice (some ⟨g, 0, none⟩) th.length cap) (b := .slice (some ⟨gm, 0, none⟩) mem.length cm) (c := .bool bad) (HS7.out.set ⟨g, i * 6, none⟩ (.int .i64 dst) hg9).r0 (HS7.out.set ⟨g, i * 6, none⟩ (.int .i64 dst) hg9).r1 (HS7.out.set ⟨g, i * 6, none⟩ (.int .i64 dst) hg9).r2
            have hpo := hid (hcl.out _ (V.setCell ⟨g, i * 6, none⟩ (.int .i64 dst)) W3 _ _ _ _ hR.out (HstV.out.setAt2 hi rfl 0 (.int .i64 dst) ⟨dst, y0, y1, y2, y3, buf⟩ (by omega) rfl (fun _ _ => rfl)) (HI7.out.set ⟨g, i * 6, none⟩ (.int .i64 dst) gV).hb (HBV.out.setCell (by show W0.heap.size ≤ g; omega) _) e3)
            have E3 := hid e3
            clear e3
            go_wp2_with fail
            rw [← E3.out]
            refine bodyPost_ret ?_ rfl hpo.out
            simp [results, Tryz.results36, go_sem, z0, z1, z2]
end Go.Proofs.YtekmcoflagajkaaGreatDoor
