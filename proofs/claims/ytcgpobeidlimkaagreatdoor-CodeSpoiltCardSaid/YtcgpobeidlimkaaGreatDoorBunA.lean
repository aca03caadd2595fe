/- The waking program, and rows of one. No program in sight. -/
import Derived.Test.YtcgpobeidlimkaaGreatDoorCmp
import Derived.Test.YtcgpobeidlimkaaGreatDoorFwd
import Derived.Test.YtcgpobeidlimkaaGreatDoorCmq
import Derived.Deep.CutRange
import Derived.Deep.CutBlock
namespace Go.Proofs.YtcgpobeidlimkaaGreatDoor
open Go.RowKit

theorem one_str {w : World} {S : Nat → Prop} {b : Nat} {s : ByteArray} (hb : S b) (hc : w.cell? ⟨b, 0, none⟩ = some (.string s)) : VrIn w S (some ⟨b, 0, none⟩) 1 1 [s] := by
  refine ⟨rfl, ⟨Nat.le_refl _, by decide, fun _ => ⟨b, 0, rfl, hb, fun i hi j hj => ?_⟩⟩⟩
  obtain rfl : i = 0 := by simpa using hi
  obtain rfl : j = 0 := by omega
  simpa using hc
theorem one_st {w : World} {S : Nat → Prop} {b : Nat} {cs : List Value} {x : St} (hb : S b) (hc : ∀ j, j < 13 → w.cell? ⟨b, j, none⟩ = cs[j]?) (hx : StIn w S cs x) : StRow w S (some ⟨b, 0, none⟩) 1 1 [x] := by
  refine ⟨rfl, fun _ => cs, ⟨Nat.le_refl _, by decide, fun _ => ⟨b, 0, rfl, hb, fun i hi j hj => ?_⟩⟩, fun i hi => ?_⟩
  · obtain rfl : i = 0 := by simpa using hi
    simpa using hc j hj
  · obtain rfl : i = 0 := by simpa using hi
    exact hx
theorem one_ts {w : World} {S : Nat → Prop} {b : Nat} {a : Option Addr} {l : List St} {k : Nat} (hb : S b) (hc : w.cell? ⟨b, 0, none⟩ = some (.slice a l.length k)) (hl : StRow w S a l.length k l) : TsIn w S (some ⟨b, 0, none⟩) 1 1 [l] := by
  refine ⟨rfl, fun _ => a, fun _ => k, ⟨Nat.le_refl _, by decide, fun _ => ⟨b, 0, rfl, hb, fun i hi j hj => ?_⟩⟩, fun i hi => ?_⟩
  · obtain rfl : i = 0 := by simpa using hi
    obtain rfl : j = 0 := by omega
    simpa using hc
  · obtain rfl : i = 0 := by simpa using hi
    exact hl

def stL : St := .mk 1 0 0 exZ exZ [] []
def stW : St := .mk 11 0 0 (.mk 1 1 0 []) exZ [stL] []
def awP : Pg := ⟨[⟨#[120]⟩], 4, [[stW]]⟩
def awC : List Ins := [⟨12, 0, 0, .mk 1 1 0 [], exZ, 3⟩, ⟨1, 0, 0, exZ, exZ, 0⟩, ⟨13, 0, 0, exZ, exZ, 0⟩]
theorem cmpL_one (x : St) (at_ : Nat) : cmpL [x] at_ = cmpS x at_ := by unfold cmpL; simp
theorem awT : cmpT awP.ths = [awC] := by
  unfold cmpT awP
  simp only [List.map_cons, List.map_nil, cmpL_one]
  rw [cmpS_eq, cmpF_w _ _ _ rfl]
  show [brI (.mk 1 1 0 []) (0 + 2 + (cmpL [stL] (0 + 1)).length) :: cmpL [stL] (0 + 1) ++ [juI 0]] = _
  rw [cmpL_one, cmpS_eq, cmpF_o _ _ _ (by decide) (by decide)]
  rfl
theorem awN : nameB ⟨#[120]⟩ = true := by decide +kernel
theorem awCnt : cntT awP.ths = 2 := by
  unfold cntT awP
  simp only [List.map_cons, List.map_nil, List.sum_cons, List.sum_nil]
  unfold cntL
  simp only [List.map_cons, List.map_nil, List.sum_cons, List.sum_nil]
  rw [cntS_eq]
  show 1 + cntL [stL] + cntL [] + 0 + 0 = 2
  unfold cntL
  simp only [List.map_cons, List.map_nil, List.sum_cons, List.sum_nil]
  rw [cntS_eq]
  rfl
theorem awR : rightP awP = true := by
  unfold rightP sumT
  rw [awCnt]
  have h1 : awP.vars.all nameB = true := by show (nameB ⟨#[120]⟩ && true) = true; rw [awN]; rfl
  have h2 : decide awP.vars.Nodup = true := by decide
  have h3 : okT awP.vars.length awP.dom awP.ths = true := by decide +kernel
  rw [h1, h2, h3]
  rfl
theorem aw_right : rightL 1 4 [awC] = true := by decide +kernel
theorem aw_forward : forwardL 1 4 [awC] = false := by decide +kernel
theorem aw_stores : storesL awC = 0 := by decide +kernel
theorem nilP_not : rightP ⟨[], 0, []⟩ = false := rfl
end Go.Proofs.YtcgpobeidlimkaaGreatDoor
namespace Go.Proofs.YtcgpobeidlimkaaGreatDoor
open Go.RowKit

theorem CmpPost.ok {p : Pg} {w w' : World} {e : Ending} (h : CmpPost p w e w') (hr : rightP p = true) : ∃ a cap, e = .returned (.tuple #[.agg #[.int .i64 p.vars.length, .int .i64 p.dom, .slice a (cmpT p.ths).length cap], .int .i64 0]) ∧ ThsIn w' (In_ w') a (cmpT p.ths).length cap (cmpT p.ths) ∧ Below w.heap.size w w' := by
  obtain ⟨v, rfl, hT, hb⟩ := h
  rw [hr] at hT
  obtain ⟨a, cap, rfl, ht⟩ := hT.ths
  refine ⟨a, cap, by rw [hr]; rfl, ht.widen fun b hb' => ?_, hb⟩
  rcases hb' with h | h
  · exact Nat.lt_of_lt_of_le h hb.size
  · exact h.2
theorem CmpPost.no {p : Pg} {w w' : World} {e : Ending} (h : CmpPost p w e w') (hr : rightP p = false) : ∃ a cap, e = .returned (.tuple #[.agg #[.int .i64 0, .int .i64 0, .slice a 0 cap], .int .i64 1]) ∧ ThsIn w' (In_ w') a 0 cap [] ∧ Below w.heap.size w w' := by
  obtain ⟨v, rfl, hT, hb⟩ := h
  rw [hr] at hT
  obtain ⟨a, cap, rfl, ht⟩ := hT.ths
  refine ⟨a, cap, by rw [hr]; rfl, ht.widen fun b hb' => ?_, hb⟩
  rcases hb' with h | h
  · exact Nat.lt_of_lt_of_le h hb.size
  · exact h.2

set_option maxRecDepth 100000 in
set_option maxHeartbeats 16000000 in
theorem awake_any (w : World) : Calls Tryz.prog 10 #[] w fun e w' => e = .returned (.bool true) ∧ Below w.heap.size w w' := by
  go_enter Tryz.func10, Tryz.ntmps10
  go_wp2_with fail
  generalize hV : World.alloc (World.alloc (World.alloc (World.alloc (World.alloc w _) _) _) _) _ = V
  have hB : Below w.heap.size w V := by
    subst hV
    exact (((((Below.refl _ _).alloc (Nat.le_refl _) _).alloc (by simp) _).alloc (by simp; omega) _).alloc (by simp; omega) _).alloc (by simp; omega) _
  have zV : V.heap.size = w.heap.size + 5 := by subst hV; simp
  have b0 : V.cell? ⟨w.heap.size, 0, none⟩ = some (.string ⟨#[120]⟩) := by subst hV; go_simp
  have b1 : ∀ j, j < 13 → V.cell? ⟨w.heap.size + 1, j, none⟩ = [Value.int .i64 1, .int .i64 0, .int .i64 0, .int .i64 0, .int .i64 0, .int .u8 0, .slice none 0 0, .int .i64 0, .int .i64 0, .int .u8 0, .slice none 0 0, .slice none 0 0, .slice none 0 0][j]? := by
    subst hV; intro j hj
    match j, hj with
    | 0, _ | 1, _ | 2, _ | 3, _ | 4, _ | 5, _ | 6, _ | 7, _ | 8, _ | 9, _ | 10, _ | 11, _ | 12, _ => go_simp
  have b2 : ∀ j, j < 13 → V.cell? ⟨w.heap.size + 1 + 1, j, none⟩ = [Value.int .i64 11, .int .i64 0, .int .i64 0, .int .i64 1, .int .i64 1, .int .u8 0, .slice none 0 0, .int .i64 0, .int .i64 0, .int .u8 0, .slice none 0 0, .slice (some ⟨w.heap.size + 1, 0, none⟩) 1 1, .slice none 0 0][j]? := by
    subst hV; intro j hj
    match j, hj with
    | 0, _ | 1, _ | 2, _ | 3, _ | 4, _ | 5, _ | 6, _ | 7, _ | 8, _ | 9, _ | 10, _ | 11, _ | 12, _ => go_simp
  have b3 : V.cell? ⟨w.heap.size + 1 + 1 + 1, 0, none⟩ = some (.slice (some ⟨w.heap.size + 1 + 1, 0, none⟩) 1 1) := by subst hV; go_simp
  clear hV
  have hP : Hid (PgIn V (In_ V) [.slice (some ⟨w.heap.size, 0, none⟩) 1 1, .int .i64 4, .slice (some ⟨w.heap.size + 1 + 1 + 1, 0, none⟩) 1 1] awP) := by
    have i0 : In_ V w.heap.size := by show _ < _; omega
    have i1 : In_ V (w.heap.size + 1) := by show _ < _; omega
    have i2 : In_ V (w.heap.size + 1 + 1) := by show _ < _; omega
    have i3 : In_ V (w.heap.size + 1 + 1 + 1) := by show _ < _; omega
    have hl : StRow V (In_ V) (some ⟨w.heap.size + 1, 0, none⟩) 1 1 [stL] := one_st i1 b1 (StIn.mk 1 0 0 _ _ _ _ _ _ _ _ exZ exZ none none 0 0 [] [] (fun _ => []) (fun _ => []) (by decide) (by decide) (by decide) (ExIn.leaf _ _ 0 0 0 (by decide) (by decide) (by decide)) (ExIn.leaf _ _ 0 0 0 (by decide) (by decide) (by decide)) Sl.nil Sl.nil (fun i hi => absurd hi (by simp)) (fun i hi => absurd hi (by simp)))
    obtain ⟨-, C, hl1, hl2⟩ := hl
    have hw : StRow V (In_ V) (some ⟨w.heap.size + 1 + 1, 0, none⟩) 1 1 [stW] := one_st i2 b2 (StIn.mk 11 0 0 _ _ _ _ _ _ _ _ (.mk 1 1 0 []) exZ (some ⟨w.heap.size + 1, 0, none⟩) none 1 0 [stL] [] C (fun _ => []) (by decide) (by decide) (by decide) (ExIn.leaf _ _ 1 1 0 (by decide) (by decide) (by decide)) (ExIn.leaf _ _ 0 0 0 (by decide) (by decide) (by decide)) hl1 Sl.nil hl2 (fun i hi => absurd hi (by simp)))
    exact ⟨_, _, _, _, rfl, one_str i0 b0, one_ts i3 b3 hw, by decide⟩
  have hC := hid (pCompile_any awP _ V hP.out)
  have HB := hid hB
  clear b0 b1 b2 b3 hP hB
  refine hC.out.mono ?_
  intro e w1 hp1
  obtain ⟨a1, c1, rfl, hT1, hb1⟩ := hp1.ok awR
  rw [awT] at hT1 ⊢
  rw [show (awP.vars.length : Int) = 1 from rfl, show awP.dom = 4 from rfl]
  have HT1 := hid hT1
  have HB1 := hid (HB.out.trans (hb1.mono HB.out.size))
  have z1 : w.heap.size < w1.heap.size := by have := hb1.size; omega
  clear hp1 hT1 hb1 hC HB
  go_wp2_with fail
  generalize hV2 : World.alloc w1 _ = W2
  have hB2 : Below w1.heap.size w1 W2 := by subst hV2; exact (Below.refl _ _).alloc (Nat.le_refl _) _
  have z2 : w1.heap.size < W2.heap.size := by subst hV2; simp
  have x0 : W2.cell? ⟨w1.heap.size, 0, none⟩ = some (.int .i64 1) := by subst hV2; go_simp
  have x1 : W2.cell? ⟨w1.heap.size, 1, none⟩ = some (.int .i64 4) := by subst hV2; go_simp
  have x2 : W2.cell? ⟨w1.heap.size, 2, none⟩ = some (.slice a1 1 c1) := by subst hV2; go_simp
  clear hV2
  have HB2 := hid (HB1.out.trans (hB2.mono (by omega)))
  have HT2 := hid ((Kp.of hB2).ths HT1.out)
  clear HT1 HB1 hB2
  refine (pCompile_any ⟨[], 0, []⟩ [.slice none 0 0, .int .i64 0, .slice none 0 0] W2 ⟨none, 0, none, 0, rfl, VrIn.nil_, TsIn.nil_, by decide⟩).mono ?_
  intro e w3 hp3
  obtain ⟨a3, c3, rfl, -, hb3⟩ := hp3.no nilP_not
  have HB3 := hid (HB2.out.trans (hb3.mono HB2.out.size))
  have HT3 := hid ((Kp.of hb3).ths HT2.out)
  have y0 := (hb3.cell (p := ⟨w1.heap.size, 0, none⟩) z2).trans x0
  have y1 := (hb3.cell (p := ⟨w1.heap.size, 1, none⟩) z2).trans x1
  have y2 := (hb3.cell (p := ⟨w1.heap.size, 2, none⟩) z2).trans x2
  have z3 : w1.heap.size < w3.heap.size := Nat.lt_of_lt_of_le z2 hb3.size
  clear hp3 hb3 HB2 HT2 x0 x1 x2 z2
  generalize hV4 : w3.alloc (.cells #[.int .i64 0, .int .i64 0, .slice a3 0 c3] 30) = W4
  have hB4 : Below w3.heap.size w3 W4 := by subst hV4; exact (Below.refl _ _).alloc (Nat.le_refl _) _
  have hV4x := hid hV4
  have k0 := (hB4.cell (p := ⟨w1.heap.size, 0, none⟩) z3).trans y0
  have k1 := (hB4.cell (p := ⟨w1.heap.size, 1, none⟩) z3).trans y1
  have k2 := (hB4.cell (p := ⟨w1.heap.size, 2, none⟩) z3).trans y2
  have z4 : w1.heap.size < W4.heap.size := Nat.lt_of_lt_of_le z3 hB4.size
  have HB4 := hid (HB3.out.trans (hB4.mono HB3.out.size))
  have HT4 := hid ((Kp.of hB4).ths HT3.out)
  clear hV4 hB4 HB3 HT3 y0 y1 y2
  obtain ⟨b, off, ar, kr, rfl, hb, e0, hrow⟩ := HT4.out.at_ 0 (by simp)
  have e0' : W4.cell? ⟨b, off, none⟩ = some (.slice ar 3 kr) := e0
  have hrow' : InsRow W4 (In_ W4) ar 3 kr awC := hrow
  obtain ⟨br, or, u0, u1, u2, u3, v0, v1, v2, v3, rfl, hbr, -, -, -, t11, -⟩ := hrow'.at_ 0 (by decide)
  obtain ⟨b', or', p0, p1, p2, p3, q0, q1, q2, q3, e, hbr', ⟨t0, -⟩, -⟩ := hrow'.at_ 2 (by decide)
  simp only [Option.some.injEq, Addr.mk.injEq, and_true] at e
  obtain ⟨rfl, rfl⟩ := e
  have t11' : W4.cell? ⟨br, or + 11, none⟩ = some (.int .i64 3) := t11
  have t0' : W4.cell? ⟨br, or + 24, none⟩ = some (.int .i64 13) := t0
  have kr3 : 3 ≤ kr := hrow'.le
  have c1le : 1 ≤ c1 := HT4.out.le
  clear t11 t0 e0 hrow
  have h1 : Hid (∀ W, Kp W4 W → Calls Tryz.prog 21 #[.agg #[.int .i64 1, .int .i64 4, .slice (some ⟨b, off, none⟩) 1 c1]] W fun e w' => e = .returned (.bool true) ∧ Below W.heap.size W w') := fun W hW => by
    have h := right_any 1 4 (some ⟨b, off, none⟩) _ c1 [awC] W (hW.ths HT4.out)
    rwa [aw_right] at h
  have h2 : Hid (∀ W, Kp W4 W → Calls Tryz.prog 22 #[.agg #[.int .i64 1, .int .i64 4, .slice (some ⟨b, off, none⟩) 1 c1]] W fun e w' => e = .returned (.bool false) ∧ Below W.heap.size W w') := fun W hW => by
    have h := pforward_any 1 4 (some ⟨b, off, none⟩) _ c1 [awC] W (hW.ths HT4.out)
    rwa [aw_forward] at h
  have h3 : Hid (∀ W, Kp W4 W → Calls Tryz.prog 24 #[.slice (some ⟨br, or, none⟩) 3 kr] W fun e w' => e = .returned (.int .i64 0) ∧ Below W.heap.size W w') := fun W hW => by
    have h := pstores_any awC (some ⟨br, or, none⟩) kr W (hW.row hrow')
    rwa [aw_stores] at h
  have gb : b < W4.heap.size := hb
  have gbr : br < W4.heap.size := hbr
  clear HT4 hb hbr hbr'
  go_upto_region 4 with fail
  rw [hV4x.out]
  go_wp2_with (first
    | (go_at_call 21
       with_reducible refine (h1.out _ (Kp.refl _)).mono ?_
       rintro e w5 ⟨rfl, hb5⟩
       have hK5 : Kp W4 w5 := Kp.of hb5
       have s5 := hb5.size
       have n0 := (hK5.2 w1.heap.size 0 z4).trans k0
       have n1 := (hK5.2 w1.heap.size 1 z4).trans k1
       have n2 := (hK5.2 w1.heap.size 2 z4).trans k2
       clear hb5)
    | (go_at_call 22
       with_reducible refine (h2.out _ hK5).mono ?_
       rintro e w6 ⟨rfl, hb6⟩
       have hK6 : Kp W4 w6 := Kp.next hK5 hb6
       have s6 := hK6.1.size
       have o2 := (hK6.2 w1.heap.size 2 z4).trans k2
       clear hb6)
    | (go_at_call 24
       with_reducible refine (h3.out _ hK6).mono ?_
       rintro e w7 ⟨rfl, hb7⟩
       have HK7 := hid (Kp.next hK6 hb7)
       clear hb7)
    | fail)
  go_ret
  exact ⟨rfl, Kp.fin HB4.out HK7.out⟩
end Go.Proofs.YtcgpobeidlimkaaGreatDoor
