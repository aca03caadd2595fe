/- The waking program, its text, its tokens; rows of one. No program in sight. -/
import Derived.Test.YtphlbbnmligadaaGreatDoorBunI
import Derived.Test.YtphlbbnmligadaaGreatDoorPrT
import Derived.Test.YtphlbbnmligadaaGreatDoorBunH
import Derived.Test.YtphlbbnmligadaaGreatDoorBunY
import Derived.Test.YtphlbbnmligadaaGreatDoorPrP
import Derived.Test.YtphlbbnmligadaaGreatDoorBunE
import Derived.Test.YtphlbbnmligadaaGreatDoorSmS
import Derived.Deep.RegionHeld3
namespace Go.Proofs.YtphlbbnmligadaaGreatDoor
open Go.RowKit

theorem bytes_self (s : ByteArray) : (s == s) = true := by cases s; exact beq_self_eq_true (α := Array UInt8) _
theorem one_str {w : World} {S : Nat → Prop} {b : Nat} {s : ByteArray} (hb : S b) (hc : w.cell? ⟨b, 0, none⟩ = some (.string s)) : VrIn w S (some ⟨b, 0, none⟩) 1 1 [s] := by
  refine ⟨rfl, ⟨Nat.le_refl _, by decide, fun _ => ⟨b, 0, rfl, hb, fun i hi j hj => ?_⟩⟩⟩
  obtain rfl : i = 0 := by simpa using hi
  obtain rfl : j = 0 := by omega
  simpa using hc
theorem one_st {w : World} {S : Nat → Prop} {b : Nat} {cs : List Value} {x : St} (hb : S b) (hc : ∀ j, j < 13 → w.cell? ⟨b, j, none⟩ = cs[j]?) (hx : StIn w S cs x) : StRow w S (some ⟨b, 0, none⟩) 1 1 [x] := by
  refine ⟨rfl, fun _ => cs, ⟨Nat.le_refl _, by decide, fun _ => ⟨b, 0, rfl, hb, fun i hi j hj => ?_⟩⟩, fun i hi => ?_⟩
  · obtain rfl : i = 0 := by simpa using hi
    simpa using hc j hj
  · obtain rfl : i = 0 := by simpa using hi
    exact hx
theorem one_ts {w : World} {S : Nat → Prop} {b : Nat} {a : Option Addr} {l : List St} {k : Nat} (hb : S b) (hc : w.cell? ⟨b, 0, none⟩ = some (.slice a l.length k)) (hl : StRow w S a l.length k l) : TsIn w S (some ⟨b, 0, none⟩) 1 1 [l] := by
  refine ⟨rfl, fun _ => a, fun _ => k, ⟨Nat.le_refl _, by decide, fun _ => ⟨b, 0, rfl, hb, fun i hi j hj => ?_⟩⟩, fun i hi => ?_⟩
  · obtain rfl : i = 0 := by simpa using hi
    obtain rfl : j = 0 := by omega
    simpa using hc
  · obtain rfl : i = 0 := by simpa using hi
    exact hl

def ex1 : Ex := .mk 1 1 0 []
def stW : St := .mk 2 0 0 ex1 exZ [] []
def awP : Pg := ⟨[⟨#[120]⟩], 2, [[stW]]⟩
def nilP : Pg := ⟨[], 0, []⟩
def awS : ByteArray := ⟨#[118, 97, 114, 115, 32, 120, 59, 10, 100, 111, 109, 97, 105, 110, 32, 50, 59, 10, 116, 104, 114, 101, 97, 100, 32, 123, 10, 120, 32, 61, 32, 49, 59, 10, 125, 10]⟩
theorem awN : nameB ⟨#[120]⟩ = true := by decide +kernel
theorem awCnt : cntT awP.ths = 1 := by
  unfold cntT awP
  simp only [List.map_cons, List.map_nil, List.sum_cons, List.sum_nil]
  unfold cntL
  simp only [List.map_cons, List.map_nil, List.sum_cons, List.sum_nil]
  rw [cntS_eq]
  rfl
theorem awR : rightP awP = true := by
  unfold rightP sumT
  rw [awCnt]
  have h1 : awP.vars.all nameB = true := by show (nameB ⟨#[120]⟩ && true) = true; rw [awN]; rfl
  have h2 : decide awP.vars.Nodup = true := by decide
  have h3 : okT awP.vars.length awP.dom awP.ths = true := by decide +kernel
  rw [h1, h2, h3]
  rfl
theorem nilP_not : rightP nilP = false := rfl
theorem awTxt : prB awP = [118, 97, 114, 115, 32, 120, 59, 10, 100, 111, 109, 97, 105, 110, 32, 50, 59, 10, 116, 104, 114, 101, 97, 100, 32, 123, 10, 120, 32, 61, 32, 49, 59, 10, 125, 10] := by
  have h : stB awP.vars stW = [120, 32, 61, 32, 49, 59] := by
    rw [stB_eq]
    show nmB awP.vars 0 ++ [32, 61, 32] ++ ex1.txt ++ [59] = _
    unfold ex1
    rw [Ex.txt_num]
    rfl
  rw [prB_eq]
  unfold tsB awP
  simp only [List.foldl_cons, List.foldl_nil, blkB, lnsB]
  rw [show stB [⟨#[120]⟩] stW = [120, 32, 61, 32, 49, 59] from h]
  rfl
theorem awPr : prS awP = .tuple #[.string awS, .int .i64 0] := by
  unfold prS
  rw [awR, awTxt]
  rfl
theorem nilPr : prS nilP = .tuple #[.string ⟨#[]⟩, .int .i64 1] := by
  unfold prS
  rw [nilP_not]
  rfl
theorem awSame : eqP awP awP = true := (eqP_iff _ _).2 rfl
theorem awNot : eqP awP nilP = false := by
  rw [Bool.eq_false_iff]
  intro h
  have := congrArg Pg.dom ((eqP_iff _ _).1 h)
  exact absurd this (by decide)
theorem awE1 : ex1.fit 2 20 = true := by decide +kernel
theorem awE2 : (Ex.mk 1 2 0 []).fit 2 20 = false := by decide +kernel
theorem awLx : (Lx.lexR awS.data.toList).2.1 = 0 := by kernel_rfl
end Go.Proofs.YtphlbbnmligadaaGreatDoor
namespace Go.Proofs.YtphlbbnmligadaaGreatDoor
open Go.RowKit

set_option maxRecDepth 100000 in
set_option maxHeartbeats 16000000 in
theorem awake_any (w : World) (hv : Lx.Vars w) : Calls Tryz.prog 9 #[] w fun e w' => e = .returned (.bool true) ∧ Below w.heap.size w w' := by
  go_enter Tryz.func9, Tryz.ntmps9
  go_wp2_with fail
  refine (num_any 1 _).mono ?_
  rintro e w1 ⟨rfl, hb1⟩
  have hB1 : Below w.heap.size w w1 := ((Below.refl _ _).alloc (Nat.le_refl _) _).trans (hb1.mono (by simp))
  have z1 : w.heap.size < w1.heap.size := by have := hb1.size; simp at this; omega
  have b0 : w1.cell? ⟨w.heap.size, 0, none⟩ = some (.string ⟨#[120]⟩) := by
    rw [hb1.cell (p := ⟨w.heap.size, 0, none⟩) (by simp)]
    go_simp
  have HB1 := hid hB1
  clear hb1 hB1
  go_wp2_with fail
  generalize hV : World.alloc (World.alloc (World.alloc w1 _) _) _ = V
  have hBV : Below w1.heap.size w1 V := by
    subst hV
    exact (((Below.refl _ _).alloc (Nat.le_refl _) _).alloc (by simp) _).alloc (by simp; omega) _
  have zV : V.heap.size = w1.heap.size + 3 := by subst hV; simp
  have a0 : V.cell? ⟨w.heap.size, 0, none⟩ = some (.string ⟨#[120]⟩) := (hBV.cell (p := ⟨w.heap.size, 0, none⟩) z1).trans b0
  have a1 : ∀ j, j < 13 → V.cell? ⟨w1.heap.size, j, none⟩ = [Value.int .i64 2, .int .i64 0, .int .i64 0, .int .i64 1, .int .i64 1, .int .u8 0, .slice none 0 0, .int .i64 0, .int .i64 0, .int .u8 0, .slice none 0 0, .slice none 0 0, .slice none 0 0][j]? := by
    subst hV; intro j hj
    match j, hj with
    | 0, _ | 1, _ | 2, _ | 3, _ | 4, _ | 5, _ | 6, _ | 7, _ | 8, _ | 9, _ | 10, _ | 11, _ | 12, _ => go_simp
  have a2 : V.cell? ⟨w1.heap.size + 1, 0, none⟩ = some (.slice (some ⟨w1.heap.size, 0, none⟩) 1 1) := by subst hV; go_simp
  have c0 : V.cell? ⟨w1.heap.size + 2, 0, none⟩ = some (.slice (some ⟨w.heap.size, 0, none⟩) 1 1) := by subst hV; go_simp
  have c1 : V.cell? ⟨w1.heap.size + 2, 1, none⟩ = some (.int .i64 2) := by subst hV; go_simp
  have c2 : V.cell? ⟨w1.heap.size + 2, 2, none⟩ = some (.slice (some ⟨w1.heap.size + 1, 0, none⟩) 1 1) := by subst hV; go_simp
  clear hV b0
  have hP : PgIn V (In_ V) [.slice (some ⟨w.heap.size, 0, none⟩) 1 1, .int .i64 2, .slice (some ⟨w1.heap.size + 1, 0, none⟩) 1 1] awP := by
    have i0 : In_ V w.heap.size := by show _ < _; omega
    have i1 : In_ V w1.heap.size := by show _ < _; omega
    have i2 : In_ V (w1.heap.size + 1) := by show _ < _; omega
    have hl : StRow V (In_ V) (some ⟨w1.heap.size, 0, none⟩) 1 1 [stW] := one_st i1 a1 (StIn.mk 2 0 0 _ _ _ _ _ _ _ _ ex1 exZ none none 0 0 [] [] (fun _ => []) (fun _ => []) (by decide) (by decide) (by decide) (ExIn.leaf _ _ 1 1 0 (by decide) (by decide) (by decide)) (ExIn.leaf _ _ 0 0 0 (by decide) (by decide) (by decide)) Sl.nil Sl.nil (fun i hi => absurd hi (by simp)) (fun i hi => absurd hi (by simp)))
    exact ⟨_, _, _, _, rfl, one_str i0 a0, one_ts i2 a2 hl, by decide⟩
  have hN : ∀ W : World, PgIn W (In_ W) [.slice none 0 0, .int .i64 0, .slice none 0 0] nilP := fun W => ⟨none, 0, none, 0, rfl, VrIn.nil_, TsIn.nil_, by decide⟩
  have hX : ∀ (n : Int) (W : World), (Lit.int .i64 n).wf = true → ExIn W (In_ W) [.int .i64 1, .int .i64 n, .int .u8 0, .slice none 0 0] (.mk 1 n 0 []) := fun n W h => ExIn.leaf _ _ 1 n 0 (by decide) h (by decide)
  have h1 : Hid (∀ W, Kp V W → Calls Tryz.prog 12 #[.agg #[.slice (some ⟨w.heap.size, 0, none⟩) 1 1, .int .i64 2, .slice (some ⟨w1.heap.size + 1, 0, none⟩) 1 1]] W fun e w' => e = .returned (.tuple #[.string awS, .int .i64 0]) ∧ Below W.heap.size W w') := fun W hW => by
    have h := pPrint_any awP _ W (hW.pg hP); rw [awPr] at h; exact h
  have h2 : Hid (∀ W, Kp V W → Calls Tryz.prog 12 #[.agg #[.slice none 0 0, .int .i64 0, .slice none 0 0]] W fun e w' => e = .returned (.tuple #[.string ⟨#[]⟩, .int .i64 1]) ∧ Below W.heap.size W w') := fun W hW => by
    have h := pPrint_any nilP _ W (hN W); rw [nilPr] at h; exact h
  have h3 : Hid (∀ W, Kp V W → Calls Tryz.prog 13 #[.string awS] W fun e w' => ∃ a n cap z, e = .returned (.tuple #[.slice a n cap, .int .i64 0, .int .i64 z]) ∧ Below W.heap.size W w') := fun W hW => by
    refine (Lx.lex_any awS W ((hv.next HB1.out |>.next hBV).next hW.1)).mono ?_
    rintro e w' ⟨a, cap, rfl, -, hb⟩
    exact ⟨a, _, cap, _, by rw [awLx], hb⟩
  have h4 : Hid (∀ W, Kp V W → Calls Tryz.prog 22 #[.agg #[.slice (some ⟨w.heap.size, 0, none⟩) 1 1, .int .i64 2, .slice (some ⟨w1.heap.size + 1, 0, none⟩) 1 1]] W fun e w' => e = .returned (.bool true) ∧ Below W.heap.size W w') := fun W hW => by
    have h := pRight_any awP _ W (hW.pg hP); rw [awR] at h; exact h
  have h5 : Hid (∀ W, Kp V W → Calls Tryz.prog 14 #[.agg #[.slice (some ⟨w.heap.size, 0, none⟩) 1 1, .int .i64 2, .slice (some ⟨w1.heap.size + 1, 0, none⟩) 1 1], .agg #[.slice (some ⟨w.heap.size, 0, none⟩) 1 1, .int .i64 2, .slice (some ⟨w1.heap.size + 1, 0, none⟩) 1 1]] W fun e w' => e = .returned (.bool true) ∧ Below W.heap.size W w') := fun W hW => by
    have h := pSame_any awP awP _ _ W (hW.pg hP) (hW.pg hP); rw [awSame] at h; exact h
  have h6 : Hid (∀ W, Kp V W → Calls Tryz.prog 14 #[.agg #[.slice (some ⟨w.heap.size, 0, none⟩) 1 1, .int .i64 2, .slice (some ⟨w1.heap.size + 1, 0, none⟩) 1 1], .agg #[.slice none 0 0, .int .i64 0, .slice none 0 0]] W fun e w' => e = .returned (.bool false) ∧ Below W.heap.size W w') := fun W hW => by
    have h := pSame_any awP nilP _ _ W (hW.pg hP) (hN W); rw [awNot] at h; exact h
  have h7 : Hid (∀ W, Kp V W → Calls Tryz.prog 16 #[.agg #[.int .i64 1, .int .i64 1, .int .u8 0, .slice none 0 0], .int .i64 2] W fun e w' => e = .returned (.bool true) ∧ Below W.heap.size W w') := fun W _ => by
    have h := pExpr_any 2 ex1 _ W (hX 1 W (by decide)); rw [awE1] at h; exact h
  have h8 : Hid (∀ W, Kp V W → Calls Tryz.prog 16 #[.agg #[.int .i64 1, .int .i64 2, .int .u8 0, .slice none 0 0], .int .i64 2] W fun e w' => e = .returned (.bool false) ∧ Below W.heap.size W w') := fun W _ => by
    have h := pExpr_any 2 (.mk 1 2 0 []) _ W (hX 2 W (by decide)); rw [awE2] at h; exact h
  have HB := hid (HB1.out.trans (hBV.mono (Nat.le_of_lt z1)))
  have s0 : w1.heap.size + 2 < V.heap.size := by omega
  have hss : (awS.toList == [118, 97, 114, 115, 32, 120, 59, 10, 100, 111, 109, 97, 105, 110, 32, 50, 59, 10, 116, 104, 114, 101, 97, 100, 32, 123, 10, 120, 32, 61, 32, 49, 59, 10, 125, 10]) = true := by rw [show awS.toList = [118, 97, 114, 115, 32, 120, 59, 10, 100, 111, 109, 97, 105, 110, 32, 50, 59, 10, 116, 104, 114, 101, 97, 100, 32, 123, 10, 120, 32, 61, 32, 49, 59, 10, 125, 10] from Lib.toList_data _]; exact beq_self_eq_true _
  clear hP hN hX a0 a1 a2 hBV HB1 zV
  refine (h1.out V (Kp.refl _)).mono ?_
  rintro e w2 ⟨rfl, hb2⟩
  have HK2 := hid (Kp.of hb2)
  clear hb2 h1
  go_wp2_with fail
  refine (h2.out w2 HK2.out).mono ?_
  rintro e w3 ⟨rfl, hb3⟩
  have HK3 := hid (HK2.out.next hb3)
  clear hb3 h2 HK2
  go_wp2_with fail
  refine (h3.out w3 HK3.out).mono ?_
  rintro e w4 ⟨la, ln, lc, lz, rfl, hb4⟩
  have hk4 := HK3.out.next hb4
  have HK4 := hid hk4
  have s4 : w1.heap.size + 2 < w4.heap.size := Nat.lt_of_lt_of_le s0 hk4.1.size
  clear hb4 h3 HK3
  go_wp2_with (first
    | (go_at_call 22
       with_reducible refine (h4.out _ hk4).mono ?_
       rintro e w5 ⟨rfl, hb5⟩
       have hk5 := Kp.next hk4 hb5
       have s5 : w1.heap.size + 2 < w5.heap.size := Nat.lt_of_lt_of_le s0 hk5.1.size
       clear hb5)
    | (go_at_call 14
       with_reducible refine (h5.out _ hk5).mono ?_
       rintro e w6 ⟨rfl, hb6⟩
       have hk6 := Kp.next hk5 hb6
       have s6 : w1.heap.size + 2 < w6.heap.size := Nat.lt_of_lt_of_le s0 hk6.1.size
       clear hb6)
    | (go_at_call 14
       with_reducible refine (h6.out _ hk6).mono ?_
       rintro e w7 ⟨rfl, hb7⟩
       have hk7 := Kp.next hk6 hb7
       clear hb7)
    | (go_at_call 21
       with_reducible refine (num_any 1 _).mono ?_
       rintro e w8 ⟨rfl, hb8⟩
       have hk8 := Kp.next hk7 hb8
       clear hb8)
    | (go_at_call 16
       with_reducible refine (h7.out _ hk8).mono ?_
       rintro e w9 ⟨rfl, hb9⟩
       have hk9 := Kp.next hk8 hb9
       clear hb9)
    | (go_at_call 21
       with_reducible refine (num_any 2 _).mono ?_
       rintro e w10 ⟨rfl, hb10⟩
       have hk10 := Kp.next hk9 hb10
       clear hb10)
    | (go_at_call 16
       with_reducible refine (h8.out _ hk10).mono ?_
       rintro e w11 ⟨rfl, hb11⟩
       have hk11 := hid (Kp.next hk10 hb11)
       clear hb11)
    | fail)
  go_ret
  exact ⟨rfl, Kp.fin HB.out hk11.out⟩
end Go.Proofs.YtphlbbnmligadaaGreatDoor
namespace Go.Proofs.YtphlbbnmligadaaGreatDoor
open Go.RowKit

theorem prS_two (p : Pg) : ∃ (s : ByteArray) (e : Int), prS p = .tuple #[.string s, .int .i64 e] := by
  unfold prS
  cases rightP p
  · exact ⟨_, _, rfl⟩
  · exact ⟨_, _, rfl⟩

set_option maxRecDepth 100000 in
set_option maxHeartbeats 16000000 in
theorem same_any (p q : Pg) (x : Ex) (cs ds us : List Value) (w : World) (hp : PgIn w (In_ w) cs p) (hq : PgIn w (In_ w) ds q) (hx : ExIn w (In_ w) us x) :
    Calls Tryz.prog 20 #[.agg cs.toArray, .agg ds.toArray, .agg us.toArray] w fun e w' => e = .returned (.bool true) ∧ Below w.heap.size w w' := by
  obtain ⟨u0, u1, u2, u3, rfl⟩ := hx.four
  have hp0 := hp
  have hq0 := hq
  obtain ⟨va, cv, ta, ct, rfl, -, -, -⟩ := hp
  obtain ⟨vb, cw, tb, cu, rfl, -, -, -⟩ := hq
  obtain ⟨s, en, hps⟩ := prS_two p
  obtain ⟨W0, hW⟩ : ∃ W0, W0 = ((w.alloc (.cells #[.slice va p.vars.length cv, .int .i64 p.dom, .slice ta p.ths.length ct] 27)).alloc (.cells #[.slice vb q.vars.length cw, .int .i64 q.dom, .slice tb q.ths.length cu] 27)).alloc (.cells #[u0, u1, u2, u3] 44) := ⟨_, rfl⟩
  have hB : Below w.heap.size w W0 := by subst hW; exact (((Below.refl _ _).alloc (Nat.le_refl _) _).alloc (by simp) _).alloc (by simp; omega) _
  have z2 : w.heap.size + 1 + 1 < W0.heap.size := by subst hW; simp
  have z1 : w.heap.size + 1 < W0.heap.size := by omega
  have z0 : w.heap.size < W0.heap.size := by omega
  have c0 : W0.cell? ⟨w.heap.size, 0, none⟩ = some (.slice va p.vars.length cv) := by subst hW; go_simp
  have c1 : W0.cell? ⟨w.heap.size, 1, none⟩ = some (.int .i64 p.dom) := by subst hW; go_simp
  have c2 : W0.cell? ⟨w.heap.size, 2, none⟩ = some (.slice ta p.ths.length ct) := by subst hW; go_simp
  have d0 : W0.cell? ⟨w.heap.size + 1, 0, none⟩ = some (.slice vb q.vars.length cw) := by subst hW; go_simp
  have d1 : W0.cell? ⟨w.heap.size + 1, 1, none⟩ = some (.int .i64 q.dom) := by subst hW; go_simp
  have d2 : W0.cell? ⟨w.heap.size + 1, 2, none⟩ = some (.slice tb q.ths.length cu) := by subst hW; go_simp
  have e0 : W0.cell? ⟨w.heap.size + 1 + 1, 0, none⟩ = some u0 := by subst hW; go_simp
  have e1 : W0.cell? ⟨w.heap.size + 1 + 1, 1, none⟩ = some u1 := by subst hW; go_simp
  have e2 : W0.cell? ⟨w.heap.size + 1 + 1, 2, none⟩ = some u2 := by subst hW; go_simp
  have e3 : W0.cell? ⟨w.heap.size + 1 + 1, 3, none⟩ = some u3 := by subst hW; go_simp
  have hK0 : Kp w W0 := Kp.of hB
  have hP := hK0.pg hp0
  have hQ := hK0.pg hq0
  have hX := hK0.ex hx
  have h1 : Hid (∀ W, Kp W0 W → Calls Tryz.prog 12 #[.agg #[.slice va p.vars.length cv, .int .i64 p.dom, .slice ta p.ths.length ct]] W fun e w' => e = .returned (.tuple #[.string s, .int .i64 en]) ∧ Below W.heap.size W w') := fun W hW => by
    have h := pPrint_any p _ W (hW.pg hP); rw [hps] at h; exact h
  have h2 : Hid (∀ W, Kp W0 W → Calls Tryz.prog 37 #[.agg #[.slice va p.vars.length cv, .int .i64 p.dom, .slice ta p.ths.length ct]] W fun e w' => e = .returned (.tuple #[.string s, .int .i64 en]) ∧ Below W.heap.size W w') := fun W hW => by
    have h := rPrint_any p _ W (hW.pg hP); rw [hps] at h; exact h
  have h3 : Hid (∀ W, Kp W0 W → Calls Tryz.prog 22 #[.agg #[.slice va p.vars.length cv, .int .i64 p.dom, .slice ta p.ths.length ct]] W fun e w' => e = .returned (.bool (rightP p)) ∧ Below W.heap.size W w') := fun W hW => pRight_any p _ W (hW.pg hP)
  have h4 : Hid (∀ W, Kp W0 W → Calls Tryz.prog 38 #[.agg #[.slice va p.vars.length cv, .int .i64 p.dom, .slice ta p.ths.length ct]] W fun e w' => e = .returned (.bool (rightP p)) ∧ Below W.heap.size W w') := fun W hW => rRight_any p _ W (hW.pg hP)
  have h5 : Hid (∀ W, Kp W0 W → Calls Tryz.prog 14 #[.agg #[.slice va p.vars.length cv, .int .i64 p.dom, .slice ta p.ths.length ct], .agg #[.slice vb q.vars.length cw, .int .i64 q.dom, .slice tb q.ths.length cu]] W fun e w' => e = .returned (.bool (eqP p q)) ∧ Below W.heap.size W w') := fun W hW => pSame_any p q _ _ W (hW.pg hP) (hW.pg hQ)
  have h6 : Hid (∀ W, Kp W0 W → Calls Tryz.prog 39 #[.agg #[.slice va p.vars.length cv, .int .i64 p.dom, .slice ta p.ths.length ct], .agg #[.slice vb q.vars.length cw, .int .i64 q.dom, .slice tb q.ths.length cu]] W fun e w' => e = .returned (.bool (eqP p q)) ∧ Below W.heap.size W w') := fun W hW => rSame_any p q _ _ W (hW.pg hP) (hW.pg hQ)
  have h7 : Hid (∀ W, Kp W0 W → Calls Tryz.prog 16 #[.agg #[u0, u1, u2, u3], .int .i64 p.dom] W fun e w' => e = .returned (.bool (x.fit p.dom 20)) ∧ Below W.heap.size W w') := fun W hW => pExpr_any p.dom x _ W (hW.ex hX)
  have h8 : Hid (∀ W, Kp W0 W → Calls Tryz.prog 17 #[.agg #[u0, u1, u2, u3], .int .i64 p.dom] W fun e w' => e = .returned (.bool (x.fit p.dom 20)) ∧ Below W.heap.size W w') := fun W hW => expr_any p.dom x _ W (hW.ex hX)
  have HB := hid hB
  have hWx := hid hW
  clear hW hB hp0 hq0 hx hK0 hP hQ hX hps
  generalize rightP p = r at *
  generalize eqP p q = b at *
  generalize x.fit p.dom 20 = f at *
  generalize p.vars.length = n1 at *
  generalize p.ths.length = n2 at *
  generalize p.dom = n3 at *
  generalize q.vars.length = n4 at *
  generalize q.ths.length = n5 at *
  generalize q.dom = n6 at *
  have hrr : (r == r) = true := by cases r <;> rfl
  have hbb : (b == b) = true := by cases b <;> rfl
  have hff : (f == f) = true := by cases f <;> rfl
  have hss : (s == s) = true := bytes_self s
  have hee : (en == en) = true := by rw [beq_iff_eq]
  go_enter Tryz.func20, Tryz.ntmps20
  go_wp2_with fail
  rw [← hWx.out]
  clear hWx
  go_wp2_with fail
  refine (h1.out _ (Kp.refl _)).mono ?_
  rintro e w1 ⟨rfl, hb1⟩
  have hk1 : Kp W0 w1 := Kp.of hb1
  have HK1 := hid hk1
  have t0 : w.heap.size < w1.heap.size := Nat.lt_of_lt_of_le z0 hk1.1.size
  clear hb1 h1
  go_wp2_with fail
  refine (h2.out _ HK1.out).mono ?_
  rintro e w2 ⟨rfl, hb2⟩
  have hk2 : Kp W0 w2 := HK1.out.next hb2
  have HK2 := hid hk2
  have t1 : w.heap.size < w2.heap.size := Nat.lt_of_lt_of_le z0 hk2.1.size
  have t2 : w.heap.size + 1 < w2.heap.size := Nat.lt_of_lt_of_le z1 hk2.1.size
  have t3 : w.heap.size + 1 + 1 < w2.heap.size := Nat.lt_of_lt_of_le z2 hk2.1.size
  clear hb2 h2 hk1
  go_wp2_with fail
  go_region_held3 (Kp W0)
    (first | exact Kp.drew hk2 | assumption)
    (first
      | (go_at_call 22
         with_reducible refine (h3.out _ ?_).mono ?_
         (focus assumption)
         rintro e w3 ⟨rfl, hb3⟩
         have hk3 : Kp W0 w3 := Kp.next (by assumption) hb3)
      | (go_at_call 38
         with_reducible refine (h4.out _ ?_).mono ?_
         (focus assumption)
         rintro e w4 ⟨rfl, hb4⟩
         have hk4 : Kp W0 w4 := Kp.next (by assumption) hb4)
      | (go_at_call 14
         with_reducible refine (h5.out _ ?_).mono ?_
         (focus assumption)
         rintro e w5 ⟨rfl, hb5⟩
         have hk5 : Kp W0 w5 := Kp.next (by assumption) hb5)
      | (go_at_call 39
         with_reducible refine (h6.out _ ?_).mono ?_
         (focus assumption)
         rintro e w6 ⟨rfl, hb6⟩
         have hk6 : Kp W0 w6 := Kp.next (by assumption) hb6)
      | (go_at_call 16
         with_reducible refine (h7.out _ ?_).mono ?_
         (focus assumption)
         rintro e w7 ⟨rfl, hb7⟩
         have hk7 : Kp W0 w7 := Kp.next (by assumption) hb7)
      | (go_at_call 17
         with_reducible refine (h8.out _ ?_).mono ?_
         (focus assumption)
         rintro e w8 ⟨rfl, hb8⟩
         have hk8 : Kp W0 w8 := Kp.next (by assumption) hb8)
      | fail)
  all_goals
    go_wp2_with fail
    go_ret
    first
      | exact ⟨ret_bool (by cases f <;> rfl), Kp.fin HB.out hk8⟩
      | exact ⟨ret_bool (by cases f <;> rfl), Kp.fin HB.out hk7⟩
end Go.Proofs.YtphlbbnmligadaaGreatDoor
