/- PackWalk, walked: the states that are come to, and what is handed. -/
import Derived.Test.YtekmcoflagajkaaGreatDoorWk
import Derived.Test.YtekmcoflagajkaaGreatDoorBunY
import Derived.Test.YtekmcoflagajkaaGreatDoorBunR
import Derived.Test.YtekmcoflagajkaaGreatDoorCzM
namespace Go.Proofs.YtekmcoflagajkaaGreatDoor
open Go.RowKit

theorem machineR_any (n : Nat) (hn : n < 256) (w : World) : Calls Tryz.prog 8 #[.int .u8 n] w fun e w' => (∃ m b : Int, e = .returned (.agg #[.int .i64 m, .int .i64 b]) ∧ 0 ≤ m ∧ m ≤ 2 ∧ 1 ≤ b ∧ b ≤ 8) ∧ Below w.heap.size w w' := by
  go_enter Tryz.func8, Tryz.ntmps8
  go_wp2_with fail
  have e1 : wrap64 (n : Int) = n := IntWalk.wrap64_in _ (by omega)
  have e2 : wrap64 ((n : Int).tdiv 3) = (n : Int) / 3 := by rw [Int.tdiv_eq_ediv_of_nonneg (by omega)]; exact IntWalk.wrap64_in _ (by omega)
  have e4 : ((n : Int)).tmod 3 = (n : Int) % 3 := Int.tmod_eq_emod_of_nonneg (by omega)
  have e5 : ((n : Int) / 3).tmod 3 = (n : Int) / 3 % 3 := Int.tmod_eq_emod_of_nonneg (by omega)
  have e3 : wrap64 (1 + (n : Int) / 3 % 3) = 1 + (n : Int) / 3 % 3 := IntWalk.wrap64_in _ (by omega)
  refine bodyPost_ret (v := .agg #[.int .i64 ((wrap64 (n : Int)).tmod 3), .int .i64 (wrap64 (1 + (wrap64 ((wrap64 (n : Int)).tdiv 3)).tmod 3))]) ?_ rfl ⟨⟨_, _, rfl, ?_⟩, (Below.refl _ _).alloc (Nat.le_refl _) _⟩
  · rw [e1, e2, e4, e5, e3]
    simp [results, Tryz.results8, go_sem]
    try rw [e1, e2, e4, e5, e3]
    try exact ⟨rfl, rfl⟩
  · rw [e1, e2, e4, e5, e3]
    omega
/-- What is known of what was come to. -/
theorem come_facts {vars dom m b : Int} {t : List (List Ins)} {th : List Thr} {mem : List Int} (h : fitsL vars dom t m b th mem = true) (hb : ∀ x ∈ th, x.buf.length ≤ 30) :
    (∀ x ∈ th, x.buf.length ≤ 1000) ∧ th.length ≤ 4 ∧ mem.length ≤ 4 ∧ (∀ bad, (packB th mem bad).length ≤ 10000) := by
  have h3 : (∀ x ∈ th, x.buf.length ≤ 1000) := fun x hx => by have := hb x hx; omega
  obtain ⟨f1, f2, f3, -, -⟩ := fits_open h
  have h2 : vars ≤ 4 ∧ t.length ≤ 4 := by
    unfold mayL at f1
    simp only [Bool.and_eq_true, decide_eq_true_eq] at f1
    have h2 := f1.1.1.1.1
    unfold rightL at h2
    simp only [Bool.and_eq_true, decide_eq_true_eq] at h2
    omega
  refine ⟨h3, by omega, by omega, fun bad => ?_⟩
  have := flat_len th h3
  unfold packB
  simp only [List.length_append, List.length_map, List.length_cons, List.length_nil]
  omega
end Go.Proofs.YtekmcoflagajkaaGreatDoor
namespace Go.Proofs.YtekmcoflagajkaaGreatDoor
open Go.RowKit

theorem conv_one_d (W : World) (o : Int) : (convert 22 9 (.slice (some ⟨W.heap.size, 0, none⟩) 1 1)).run Tryz.prog (W.alloc (.cells #[.int .u8 o] 5)).drew = .ok (.string ⟨#[UInt8.ofNat o.toNat]⟩) (W.alloc (.cells #[.int .u8 o] 5)).drew := by
  have h := run_convert_bytes_arg (P := Tryz.prog) (W.alloc (.cells #[.int .u8 o] 5)).drew 22 5 Tryz.underlying22 Tryz.underlying5 W.heap.size 0 1 1 [o] rfl (fun i hi => by
    have : i = 0 := by omega
    subst this
    simp) 9 Tryz.underlying9
  simpa [strOfNums] using h
theorem cat_any {a b : ByteArray} (h : a.size + b.size ≤ 1000000) : ∃ c : ByteArray, c.size = a.size + b.size ∧ ∀ W, (Op.stringOp .add a b).run Tryz.prog W = .ok (.string c) W :=
  ⟨a ++ b, by simp, fun W => run_string_add_sum W a b (by omega)⟩

/-- What PackWalk has in hand. -/
structure PwB (W : World) (cb sb : Nat) (vars dom : Int) (cv : Value) (m b : Int) (hv mv : Value) (bad : Bool) : Prop where
  c0 : W.cell? ⟨cb, 0, none⟩ = some (.int .i64 vars)
  c1 : W.cell? ⟨cb, 1, none⟩ = some (.int .i64 dom)
  c2 : W.cell? ⟨cb, 2, none⟩ = some cv
  m0 : W.cell? ⟨cb + 1, 0, none⟩ = some (.int .i64 m)
  m1 : W.cell? ⟨cb + 1, 1, none⟩ = some (.int .i64 b)
  s0 : W.cell? ⟨sb, 0, none⟩ = some hv
  s1 : W.cell? ⟨sb, 1, none⟩ = some mv
  s2 : W.cell? ⟨sb, 2, none⟩ = some (.bool bad)
  y0 : cb < W.heap.size
  y1 : cb + 1 < W.heap.size
  y5 : sb < W.heap.size
theorem PwB.later {W W' : World} {cb sb : Nat} {vars dom : Int} {cv : Value} {m b : Int} {hv mv : Value} {bad : Bool} (h : PwB W cb sb vars dom cv m b hv mv bad) (hK : Kp W W') : PwB W' cb sb vars dom cv m b hv mv bad :=
  ⟨(hK.2 _ 0 h.y0).trans h.c0, (hK.2 _ 1 h.y0).trans h.c1, (hK.2 _ 2 h.y0).trans h.c2, (hK.2 _ 0 h.y1).trans h.m0, (hK.2 _ 1 h.y1).trans h.m1, (hK.2 _ 0 h.y5).trans h.s0, (hK.2 _ 1 h.y5).trans h.s1, (hK.2 _ 2 h.y5).trans h.s2,
    Nat.lt_of_lt_of_le h.y0 hK.1.size, Nat.lt_of_lt_of_le h.y1 hK.1.size, Nat.lt_of_lt_of_le h.y5 hK.1.size⟩

set_option maxRecDepth 100000 in
set_option maxHeartbeats 16000000 in
theorem packWalk_walk (la : Option Addr) (ln lc : Nat) (n : Nat) (xa : Option Addr) (xn xc : Nat) (at_ by_ how : Nat) (w : World) (hl : U8s w (In_ w) la ln lc) (hx : U8s w (In_ w) xa xn xc) (hn : n < 256) (hat : at_ < 256) (_hby : by_ < 256) (hhow : how < 256) :
    Calls Tryz.prog 3 #[.slice la ln lc, .int .u8 n, .slice xa xn xc, .int .u8 at_, .int .u8 by_, .int .u8 how] w fun e w' => e = .returned (.bool true) ∧ Below w.heap.size w w' := by
  have Hl := hid hl
  have Hx := hid hx
  clear hl hx
  go_enter Tryz.func3, Tryz.ntmps3
  go_wp2_with fail
  refine (kinds_any w).mono ?_
  rintro e w2 ⟨rfl, hK2, hb2⟩
  have HK2 := hid (Kp.of hb2)
  have hl2 : U8s w2 (In_ w2) la ln lc := (Hl.out.keep fun b o hb => HK2.out.2 b o hb).widen (In_.mono HK2.out.1.size)
  have hmade := hid (madeC_any w2 la ln lc _ 13 13 hl2 hK2)
  clear hl2 hK2 hb2 Hl
  go_wp2_with fail
  refine hmade.out.mono ?_
  intro e w3 hp3
  obtain ⟨p, n0, v, rfl, hright, -, -, -, hT, hn0, hn1, hb3⟩ := hp3
  obtain ⟨ta, tc, hv, hTh⟩ := hT.ths
  subst hv
  have HK3 := hid (HK2.out.next hb3)
  have hTh3 : ThsIn w3 (In_ w3) ta (cmpT p.ths).length tc (cmpT p.ths) := hTh.widen fun b hb => by
    rcases hb with hb | hb
    · have hb' : b < n0 := hb
      show b < _; omega
    · exact hb.2
  have HT3 := hid hTh3
  have wv : (Lit.int .i64 (p.vars.length : Int)).wf = true := by
    unfold rightP at hright
    simp only [Bool.and_eq_true, decide_eq_true_eq] at hright
    exact WalkArith.wf_i64 (by omega)
  have hrl := rightL_cmp hright
  clear hT hTh hTh3 hb3 hmade HK2 hright hn0 hn1
  generalize cmpT p.ths = T at *
  generalize (p.vars.length : Int) = vars at *
  generalize p.dom = dom at *
  go_wp2_with fail
  refine (machineR_any n hn w3).mono ?_
  rintro e w4 ⟨⟨m, b, rfl, hm0, hm2, hb1, hb8⟩, hb4⟩
  have hmay : Hid (mayL vars dom T m b = true) := by
    show _ = _
    unfold mayL
    simp only [hrl, hm0, hm2, hb1, hb8, decide_true, Bool.and_self]
  have HK4 := hid (HK3.out.next hb4)
  have HT4 := hid ((Kp.of hb4).ths HT3.out)
  clear hb4 HK3 HT3 hm0 hm2 hb1 hb8 hrl hn
  generalize hW : (w4.alloc (.cells #[.int .i64 vars, .int .i64 dom, .slice ta T.length tc] 25)).alloc (.cells #[.int .i64 m, .int .i64 b] 30) = W0
  have hB : Below w4.heap.size w4 W0 := by subst hW; exact ((Below.refl _ _).alloc (Nat.le_refl _) _).alloc (by simp) _
  have z0 : w4.heap.size < W0.heap.size := by subst hW; simp; omega
  have z1 : w4.heap.size + 1 < W0.heap.size := by subst hW; simp
  have c0 : W0.cell? ⟨w4.heap.size, 0, none⟩ = some (.int .i64 vars) := by subst hW; go_simp
  have c1 : W0.cell? ⟨w4.heap.size, 1, none⟩ = some (.int .i64 dom) := by subst hW; go_simp
  have c2 : W0.cell? ⟨w4.heap.size, 2, none⟩ = some (.slice ta T.length tc) := by subst hW; go_simp
  have m0 : W0.cell? ⟨w4.heap.size + 1, 0, none⟩ = some (.int .i64 m) := by subst hW; go_simp
  have m1 : W0.cell? ⟨w4.heap.size + 1, 1, none⟩ = some (.int .i64 b) := by subst hW; go_simp
  have HT0 := hid ((Kp.of hB).ths HT4.out)
  have HB := hid (HK4.out.next hB)
  have hWx := hid hW
  have hx0 : U8s W0 (In_ W0) xa xn xc := (Hx.out.keep fun b o hb => HB.out.2 b o hb).widen (In_.mono HB.out.1.size)
  have hwk := hid (walk_any vars dom m b ta T.length tc T xa xn xc W0 HT0.out hx0 hmay.out)
  clear hW hB HT4 HK4 hx0 Hx
  go_upto_region 2 with fail
  rw [hWx.out]
  clear hWx
  go_wp2_with fail
  refine hwk.out.mono ?_
  rintro e w5 ⟨a1, c5, th, a2, d5, mem, bad, rfl, hh5, hm5, hfit, hbuf, hb5⟩
  replace hh5 := hh5.widen (S' := In_ w5) fun k hk => hk.2
  replace hm5 := hm5.widen (S' := In_ w5) fun k hk => hk.2
  obtain ⟨hb1000, hthl, hmel, hpl⟩ := come_facts hfit hbuf
  generalize hW6 : w5.alloc (.cells #[.slice a1 th.length c5, .slice a2 mem.length d5, .bool bad] 34) = W6
  have hB6 : Below w5.heap.size w5 W6 := by subst hW6; exact (Below.refl _ _).alloc (Nat.le_refl _) _
  have s0 : W6.cell? ⟨w5.heap.size, 0, none⟩ = some (.slice a1 th.length c5) := by subst hW6; go_simp
  have s1 : W6.cell? ⟨w5.heap.size, 1, none⟩ = some (.slice a2 mem.length d5) := by subst hW6; go_simp
  have s2 : W6.cell? ⟨w5.heap.size, 2, none⟩ = some (.bool bad) := by subst hW6; go_simp
  have z5 : w5.heap.size < W6.heap.size := by subst hW6; simp
  have hK6 : Kp W0 W6 := Kp.of (hb5.trans (hB6.mono hb5.size))
  replace c0 := (hK6.2 _ 0 z0).trans c0
  replace c1 := (hK6.2 _ 1 z0).trans c1
  replace c2 := (hK6.2 _ 2 z0).trans c2
  replace m0 := (hK6.2 _ 0 z1).trans m0
  replace m1 := (hK6.2 _ 1 z1).trans m1
  replace z0 : w4.heap.size < W6.heap.size := by have := hK6.1.size; omega
  replace z1 : w4.heap.size + 1 < W6.heap.size := by have := hK6.1.size; omega
  have HT6 := hid (hK6.ths HT0.out)
  have Hh6 := hid ((Kp.of hB6).thr hh5)
  have Hm6 := hid ((Kp.of hB6).ints hm5)
  have HB6 := hid (HB.out.next hK6.1)
  have hpk : Hid (Calls Tryz.prog 10 #[.agg #[.int .i64 vars, .int .i64 dom, .slice ta T.length tc], .agg #[.int .i64 m, .int .i64 b], .agg #[.slice a1 th.length c5, .slice a2 mem.length d5, .bool bad]] W6 fun e w' => ∃ S : ByteArray, e = .returned (.tuple #[.string S, .int .i64 0]) ∧ 0 < S.size ∧ S.size ≤ 10000 ∧ Below W6.heap.size W6 w') := by
    have h := refPack_any vars dom m b ta T.length tc T a1 th.length c5 th a2 mem.length d5 mem bad W6 HT6.out Hh6.out Hm6.out hb1000 (by omega) (by omega)
    refine h.mono ?_
    rintro e w' ⟨rfl, hb⟩
    rw [hfit]
    exact ⟨strOfNums (packB th mem bad), rfl, by rw [strOfNums_size]; exact packB_pos _ _ _, by rw [strOfNums_size]; exact hpl bad, hb⟩
  have hsame : Hid (∀ (W : World) (U : ByteArray), Kp W6 W → U.size ≤ 100000 → Calls Tryz.prog 11 #[.agg #[.int .i64 vars, .int .i64 dom, .slice ta T.length tc], .agg #[.int .i64 m, .int .i64 b], .agg #[.slice a1 th.length c5, .slice a2 mem.length d5, .bool bad], .string U] W fun e w' => e = .returned (.bool true) ∧ Below W.heap.size W w') := fun W U hK hU =>
    same_any vars dom m b ta T.length tc T a1 th.length c5 th a2 mem.length d5 mem bad U W (hK.ths HT6.out) (hK.thr Hh6.out) (hK.ints Hm6.out) hb1000 (by omega) (by omega) hU wv
  have hW6x := hid hW6
  clear hW6 hB6 hK6 hwk hb5 hh5 hm5 HT0 HB hfit hbuf hb1000 hthl hmel hpl HT6 Hh6 Hm6 hmay wv
  go_upto_region 3 with fail
  rw [hW6x.out]
  clear hW6x
  generalize w5.heap.size = sb at *
  generalize w4.heap.size = cb at *
  go_wp2_with fail
  refine hpk.out.mono ?_
  rintro e w7 ⟨S, rfl, hS0, hS1, hb7⟩
  have hK7 : Kp W6 w7 := Kp.of hb7
  have HK7 := hid hK7
  have HB7 := hid (HB6.out.next hb7)
  replace c0 := (hK7.2 _ 0 z0).trans c0
  replace c1 := (hK7.2 _ 1 z0).trans c1
  replace c2 := (hK7.2 _ 2 z0).trans c2
  replace m0 := (hK7.2 _ 0 z1).trans m0
  replace m1 := (hK7.2 _ 1 z1).trans m1
  replace s0 := (hK7.2 _ 0 z5).trans s0
  replace s1 := (hK7.2 _ 1 z5).trans s1
  replace s2 := (hK7.2 _ 2 z5).trans s2
  have y0 : cb < w7.heap.size := by have := hK7.1.size; omega
  have y1 : cb + 1 < w7.heap.size := by have := hK7.1.size; omega
  have y5 : sb < w7.heap.size := by have := hK7.1.size; omega
  have hse : S.toList.isEmpty = false := by
    rw [Lib.toList_data]
    obtain ⟨⟨l⟩⟩ := S
    cases l with
    | nil => simp [ByteArray.size] at hS0
    | cons x l => rfl
  have hsm := hid (hsame.out w7 S HK7.out (by omega))
  clear hK7 hb7 hpk HB6
  go_wp2_with fail
  refine hsm.out.mono ?_
  rintro e w8 ⟨rfl, hb8⟩
  have hK8 : Kp w7 w8 := Kp.of hb8
  have HK8 := hid (HK7.out.next hb8)
  have HB8 := hid (HB7.out.next hb8)
  replace c0 := (hK8.2 _ 0 y0).trans c0
  replace c1 := (hK8.2 _ 1 y0).trans c1
  replace c2 := (hK8.2 _ 2 y0).trans c2
  replace m0 := (hK8.2 _ 0 y1).trans m0
  replace m1 := (hK8.2 _ 1 y1).trans m1
  replace s0 := (hK8.2 _ 0 y5).trans s0
  replace s1 := (hK8.2 _ 1 y5).trans s1
  replace s2 := (hK8.2 _ 2 y5).trans s2
  replace y0 : cb < w8.heap.size := by have := hK8.1.size; omega
  replace y1 : cb + 1 < w8.heap.size := by have := hK8.1.size; omega
  replace y5 : sb < w8.heap.size := by have := hK8.1.size; omega
  clear hK8 hb8 hsm HK7 HB7 w7
  have hSz : (0 : Int) < S.size := by omega
  have hSz1 : (S.size : Int) ≤ 10000 := by omega
  have hSne : ¬ S.size = 0 := by omega
  obtain ⟨k, hk⟩ : ∃ k, k = at_ % S.size := ⟨_, rfl⟩
  have hkS : k < S.size := by rw [hk]; exact Nat.mod_lt _ hS0
  have hkm : (IntKind.i64.wrap (at_ : Int)).tmod (S.size : Int) = (k : Int) := by
    rw [show IntKind.i64.wrap (at_ : Int) = (at_ : Int) from IntWalk.i64_in _ (by omega), Int.tmod_eq_emod_of_nonneg (by omega), hk]
    rfl
  have k0 : (0 : Int) ≤ k := by omega
  have k1 : (k : Int) < S.size := by omega
  have k2 : (k : Int) + 1 ≤ S.size := by omega
  clear hk
  go_wp2_with fail
  have hkm2 : (at_ : Int) % (S.size : Int) = (k : Int) := by rw [← hkm, show IntKind.i64.wrap (at_ : Int) = (at_ : Int) from IntWalk.i64_in _ (by omega), Int.tmod_eq_emod_of_nonneg (by omega)]
  rw [hkm2]
  clear hkm hkm2
  have hc := fun W => conv_one W (by_ : Int)
  have hd := fun W => conv_one_d W (by_ : Int)
  have hb1 : (⟨#[UInt8.ofNat (by_ : Int).toNat]⟩ : ByteArray).size = 1 := rfl
  generalize (⟨#[UInt8.ofNat (by_ : Int).toNat]⟩ : ByteArray) = B1 at *
  have hp0 : (S.extract 0 k).size = k := by simp; omega
  have hq0 : (S.extract (k + 1) S.size).size = S.size - (k + 1) := by simp
  have hk5 : (0 : Int) ≤ (k : Int) + 1 := by omega
  have hk6 : ((k : Int) + 1).toNat = k + 1 := by omega
  obtain ⟨U1, hu1, ha1⟩ := cat_any (a := S.extract 0 k) (b := B1) (by omega)
  obtain ⟨U2, hu2, ha2⟩ := cat_any (a := U1) (b := S.extract (k + 1) S.size) (by omega)
  have hPw : Hid (PwB w8 cb sb vars dom (.slice ta T.length tc) m b (.slice a1 th.length c5) (.slice a2 mem.length d5) bad) := hid ⟨c0, c1, c2, m0, m1, s0, s1, s2, y0, y1, y5⟩
  clear c0 c1 c2 m0 m1 s0 s1 s2 y0 y1 y5
  go_region
  generalize hW9 : World.drew (World.alloc w8 _) = w9
  have hK9 : Kp w8 w9 := by rw [← hW9]; exact Kp.drew (Kp.alloc (Kp.refl _) _)
  have HK9 := hid (HK8.out.next hK9.1)
  have HB9 := hid (HB8.out.next hK9.1)
  have hP9 := hid (hPw.out.later hK9)
  clear hK9 hW9 hPw HK8 HB8 ha1 ha2
  have hj : ∃ j : Nat, j < 4 ∧ (how : Int) % 4 = j := ⟨how % 4, Nat.mod_lt _ (by omega), by omega⟩
  obtain ⟨j, hj4, hj⟩ := hj
  have hjs : j = 0 ∨ j = 1 ∨ j = 2 ∨ j = 3 := by omega
  obtain ⟨U3, hu3, ha3⟩ := cat_any (a := S.extract 0 k) (b := S.extract (k + 1) S.size) (by omega)
  have hq1 : (S.extract k S.size).size = S.size - k := by simp
  obtain ⟨U4, hu4, ha4⟩ := cat_any (a := S.extract 0 k) (b := B1) (by omega)
  obtain ⟨U5, hu5, ha5⟩ := cat_any (a := U4) (b := S.extract k S.size) (by omega)
  rcases hjs with rfl | rfl | rfl | rfl
  · clear hc hd ha3 ha4 ha5
    go_wp2_with fail
    obtain ⟨wa, hwa⟩ : ∃ wa, wa = w9 := ⟨_, rfl⟩
    rw [← hwa]
    have hUz : U2.size ≤ 100000 := by omega
    have hKa : Kp w9 wa := by rw [hwa]; exact Kp.refl _
    have HKa := hid (HK9.out.next hKa.1)
    have HBa := hid (HB9.out.next hKa.1)
    have hPa := hid (hP9.out.later hKa)
    clear hKa
    refine (awake_any wa).mono ?_
    rintro e wb ⟨rfl, hbb⟩
    have hKb : Kp wa wb := Kp.of hbb
    have HKb := hid (HKa.out.next hbb)
    have HBb := hid (HBa.out.next hbb)
    obtain ⟨c0, c1, c2, m0, m1, s0, s1, s2, y0, y1, y5⟩ := hPa.out.later hKb
    have hsm := hid (hsame.out wb U2 HKb.out hUz)
    clear hKb hbb HKa HBa hPa
    go_wp2_with fail
    refine hsm.out.mono ?_
    rintro e wc ⟨rfl, hbc⟩
    have hfin := hid (HBb.out.next hbc).1
    clear hbc hsm
    go_wp2_with fail
    go_ret
    exact ⟨rfl, hfin.out⟩
  · clear hc hd ha4 ha5
    go_wp2_with fail
    go_region
    go_wp2_with fail
    obtain ⟨wa, hwa⟩ : ∃ wa, wa = w9.drew := ⟨_, rfl⟩
    rw [← hwa]
    have hUz : U3.size ≤ 100000 := by omega
    have hKa : Kp w9 wa := by rw [hwa]; exact Kp.drew (Kp.refl _)
    have HKa := hid (HK9.out.next hKa.1)
    have HBa := hid (HB9.out.next hKa.1)
    have hPa := hid (hP9.out.later hKa)
    clear hKa
    refine (awake_any wa).mono ?_
    rintro e wb ⟨rfl, hbb⟩
    have hKb : Kp wa wb := Kp.of hbb
    have HKb := hid (HKa.out.next hbb)
    have HBb := hid (HBa.out.next hbb)
    obtain ⟨c0, c1, c2, m0, m1, s0, s1, s2, y0, y1, y5⟩ := hPa.out.later hKb
    have hsm := hid (hsame.out wb U3 HKb.out hUz)
    clear hKb hbb HKa HBa hPa
    go_wp2_with fail
    refine hsm.out.mono ?_
    rintro e wc ⟨rfl, hbc⟩
    have hfin := hid (HBb.out.next hbc).1
    clear hbc hsm
    go_wp2_with fail
    go_ret
    exact ⟨rfl, hfin.out⟩
  · clear hc hd ha3 ha4 ha5
    go_wp2_with fail
    obtain ⟨wa, hwa⟩ : ∃ wa, wa = w9 := ⟨_, rfl⟩
    rw [← hwa]
    have hUz : (S.extract 0 k).size ≤ 100000 := by omega
    have hKa : Kp w9 wa := by rw [hwa]; exact Kp.refl _
    have HKa := hid (HK9.out.next hKa.1)
    have HBa := hid (HB9.out.next hKa.1)
    have hPa := hid (hP9.out.later hKa)
    clear hKa
    refine (awake_any wa).mono ?_
    rintro e wb ⟨rfl, hbb⟩
    have hKb : Kp wa wb := Kp.of hbb
    have HKb := hid (HKa.out.next hbb)
    have HBb := hid (HBa.out.next hbb)
    obtain ⟨c0, c1, c2, m0, m1, s0, s1, s2, y0, y1, y5⟩ := hPa.out.later hKb
    have hsm := hid (hsame.out wb (S.extract 0 k) HKb.out hUz)
    clear hKb hbb HKa HBa hPa
    go_wp2_with fail
    refine hsm.out.mono ?_
    rintro e wc ⟨rfl, hbc⟩
    have hfin := hid (HBb.out.next hbc).1
    clear hbc hsm
    go_wp2_with fail
    go_ret
    exact ⟨rfl, hfin.out⟩
  · clear ha3
    go_wp2_with fail
    go_region
    clear hc hd ha4 ha5
    go_wp2_with fail
    obtain ⟨wa, hwa⟩ : ∃ wa, wa = (w9.alloc (.cells #[.int .u8 by_] 5)).drew := ⟨_, rfl⟩
    rw [← hwa]
    have hUz : U5.size ≤ 100000 := by omega
    have hKa : Kp w9 wa := by rw [hwa]; exact Kp.drew (Kp.alloc (Kp.refl _) _)
    have HKa := hid (HK9.out.next hKa.1)
    have HBa := hid (HB9.out.next hKa.1)
    have hPa := hid (hP9.out.later hKa)
    clear hKa
    refine (awake_any wa).mono ?_
    rintro e wb ⟨rfl, hbb⟩
    have hKb : Kp wa wb := Kp.of hbb
    have HKb := hid (HKa.out.next hbb)
    have HBb := hid (HBa.out.next hbb)
    obtain ⟨c0, c1, c2, m0, m1, s0, s1, s2, y0, y1, y5⟩ := hPa.out.later hKb
    have hsm := hid (hsame.out wb U5 HKb.out hUz)
    clear hKb hbb HKa HBa hPa
    go_wp2_with fail
    refine hsm.out.mono ?_
    rintro e wc ⟨rfl, hbc⟩
    have hfin := hid (HBb.out.next hbc).1
    clear hbc hsm
    go_wp2_with fail
    go_ret
    exact ⟨rfl, hfin.out⟩
end Go.Proofs.YtekmcoflagajkaaGreatDoor
