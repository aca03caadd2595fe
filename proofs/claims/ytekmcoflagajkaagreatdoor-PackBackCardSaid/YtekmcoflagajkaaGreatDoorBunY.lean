/- Awake: what any right program answers. -/
import Derived.Test.YtekmcoflagajkaaGreatDoorUnpP
import Derived.Test.YtekmcoflagajkaaGreatDoorBunQ
import Derived.Test.YtekmcoflagajkaaGreatDoorPakC
import Derived.Test.YtekmcoflagajkaaGreatDoorBunP
import Derived.Test.YtekmcoflagajkaaGreatDoorBunV
namespace Go.Proofs.YtekmcoflagajkaaGreatDoor
open Go.RowKit

def zerosL : List Int := List.replicate 17 0
theorem dek_right : rightL 2 2 dekL = true := by decide
theorem dek_may : mayL 2 2 dekL 1 1 = true := by decide
theorem dek_fits : fitsL 2 2 dekL 1 1 [.zero, .zero] [0, 0] = true := by decide
theorem dek_misfits : fitsL 2 2 dekL 1 1 [] [] = false := by decide
theorem dek_pack : packB [.zero, .zero] [0, 0] false = zerosL := by decide
theorem dek_unpack : unpS 2 2 dekL 1 1 zerosL = ((false, [0, 0], [.zero, .zero]), 0) := by rfl
theorem dek_unpack_x : unpS 2 2 dekL 1 1 (zerosL ++ [120]) = ((false, [], []), 60) := by rfl

theorem bytL_of (L : List Int) (h : ∀ x ∈ L, 0 ≤ x ∧ x < 256) : bytL (strOfNums L) = L := by
  unfold bytL
  rw [strOfNums_data, List.map_map]
  conv => rhs; rw [← List.map_id L]
  refine List.map_congr_left fun x hx => ?_
  obtain ⟨h0, h1⟩ := h x hx
  show ((UInt8.ofNat x.toNat).toNat : Int) = x
  rw [UInt8.toNat_ofNat_of_lt' (by show x.toNat < 256; omega)]
  omega
theorem text_zeros : bytL (strOfNums zerosL) = zerosL := bytL_of _ (by decide)

set_option maxRecDepth 100000 in
set_option maxHeartbeats 8000000 in
theorem awake_any (w : World) : Calls Tryz.prog 12 #[] w fun e w' => e = .returned (.bool true) ∧ Below w.heap.size w w' := by
  go_enter Tryz.func12, Tryz.ntmps12
  go_wp2_with fail
  refine (dekker_any _).mono ?_
  rintro e w1 ⟨a, rfl, hth, hb1⟩
  have HB1 := hid hb1
  have HTH := hid hth
  have hz1 := hb1.size
  clear hb1 hth
  go_wp2_with fail
  generalize hV : World.alloc (World.alloc w1 _) _ = V
  have hBV : Below w1.heap.size w1 V := by rw [← hV]; exact ((Below.refl _ _).alloc (Nat.le_refl _) _).alloc (by simp) _
  have hKV : Hid (Kp w1 V) := Kp.of hBV
  have hzV : V.heap.size = w1.heap.size + 1 + 1 := by rw [← hV]; simp
  have c0 : V.cell? ⟨w1.heap.size, 0, none⟩ = some (.int .i64 2) := by subst hV; go_simp
  have c1 : V.cell? ⟨w1.heap.size, 1, none⟩ = some (.int .i64 2) := by subst hV; go_simp
  have c2 : V.cell? ⟨w1.heap.size, 2, none⟩ = some (.slice a 2 2) := by subst hV; go_simp
  have m0 : V.cell? ⟨w1.heap.size + 1, 0, none⟩ = some (.int .i64 1) := by subst hV; go_simp
  have m1 : V.cell? ⟨w1.heap.size + 1, 1, none⟩ = some (.int .i64 1) := by subst hV; go_simp
  have HTV := hid (hKV.out.ths HTH.out)
  have hst : Hid (Calls Tryz.prog 18 #[.agg #[.int .i64 2, .int .i64 2, .slice a 2 2]] V (StartPost V [.zero, .zero] [0, 0])) := by
    have h := start_any 2 2 a 2 2 dekL V HTV.out
    rw [dek_right] at h
    exact h
  clear hV hBV
  refine hst.out.mono ?_
  rintro e w2 ⟨ah, caph, am, capm, rfl, hh2, hm2, hb2⟩
  replace hh2 := hh2.widen (S' := In_ w2) fun b hb => hb.2
  replace hm2 := hm2.widen (S' := In_ w2) fun b hb => hb.2
  have hk2 : Kp V w2 := Kp.of hb2
  have HK2 := hid hk2
  have hz2 := hb2.size
  have z0 : w1.heap.size < V.heap.size := by omega
  have z1 : w1.heap.size + 1 < V.heap.size := by omega
  have z0' : w1.heap.size < w2.heap.size := by omega
  have z1' : w1.heap.size + 1 < w2.heap.size := by omega
  have Hh2 := hid hh2
  have Hm2 := hid hm2
  clear hb2 hst hh2 hm2
  go_wp2_with fail
  generalize hV3 : World.alloc w2 _ = V3
  have hk3 : Kp V V3 := by rw [← hV3]; exact HK2.out.alloc _
  have HK3 := hid hk3
  have hz3 : V3.heap.size = w2.heap.size + 1 := by rw [← hV3]; simp
  have s0 : V3.cell? ⟨w2.heap.size, 0, none⟩ = some (.slice ah 2 caph) := by subst hV3; go_simp
  have s1 : V3.cell? ⟨w2.heap.size, 1, none⟩ = some (.slice am 2 capm) := by subst hV3; go_simp
  have s2 : V3.cell? ⟨w2.heap.size, 2, none⟩ = some (.bool false) := by subst hV3; go_simp
  have hk23 : Hid (Kp w2 V3) := by rw [← hV3]; exact (Kp.refl w2).alloc _
  clear hV3
  have hpk : Hid (Calls Tryz.prog 13 #[.agg #[.int .i64 2, .int .i64 2, .slice a 2 2], .agg #[.int .i64 1, .int .i64 1], .agg #[.slice ah 2 caph, .slice am 2 capm, .bool false]] V3 fun e w' => e = .returned (.tuple #[.string (strOfNums zerosL), .int .i64 0]) ∧ Below V3.heap.size V3 w') := by
    have h := pack_any 2 2 1 1 a 2 2 dekL ah 2 caph [.zero, .zero] am 2 capm [0, 0] false V3 (HK3.out.ths HTV.out) (hk23.out.thr Hh2.out) (hk23.out.ints Hm2.out) (by decide) (by decide) (by decide)
    rw [dek_fits, dek_pack] at h
    exact h
  have htz : ∃ tx : ByteArray, tx = strOfNums zerosL := ⟨_, rfl⟩
  obtain ⟨tx, htx⟩ := htz
  rw [← htx] at hpk
  have htb : Hid (bytL tx = zerosL) := by rw [htx]; exact text_zeros
  have hts : Hid (tx.size = 17) := by rw [htx, strOfNums_size]; rfl
  have hk3' := HK3.out
  clear htx
  refine hpk.out.mono ?_
  rintro e w4 ⟨rfl, hb4⟩
  have hk4 := hk3'.next hb4
  have HK4 := hid hk4
  have HB4 := hid hb4
  have hz4 := hb4.size
  have z0'' : w1.heap.size < w4.heap.size := by omega
  have z1'' : w1.heap.size + 1 < w4.heap.size := by omega
  have hun : Hid (Calls Tryz.prog 14 #[.agg #[.int .i64 2, .int .i64 2, .slice a 2 2], .agg #[.int .i64 1, .int .i64 1], .string tx] w4 (UnpPost w4 ((false, [0, 0], [.zero, .zero]), 0))) := by
    have h := unpack_any 2 2 1 1 a 2 2 dekL tx w4 (HK4.out.ths HTV.out) (by rw [hts.out]; decide) (by decide)
    rw [htb.out, dek_unpack] at h
    exact h
  clear hpk hk2 hk3 hk3' hb4
  go_wp2_with fail
  refine hun.out.mono ?_
  rintro e w5 ⟨ah5, caph5, am5, capm5, rfl, hh5, hm5, hb5⟩
  have hk5 := hk4.next hb5
  have HK5 := hid hk5
  have HB5 := hid hb5
  have hz5 := hb5.size
  have Hh5 := hid hh5
  have Hm5 := hid hm5
  have z05 : w1.heap.size < w5.heap.size := by omega
  have hcat : tx.size ≤ 100 := by have := hts.out; omega
  have hcat2 : tx.size + 1 ≤ 9223372036854775807 := by omega
  have z15 : w1.heap.size + 1 < w5.heap.size := by omega
  clear hun hk4 hb5 hh5 hm5
  go_wp2_with fail
  generalize hV6 : World.alloc w5 _ = V6
  have hk6 : Kp V V6 := by rw [← hV6]; exact hk5.alloc _
  have HK6 := hid hk6
  have hz6 : V6.heap.size = w5.heap.size + 1 := by rw [← hV6]; simp
  have u0 : V6.cell? ⟨w5.heap.size, 0, none⟩ = some (.slice ah5 2 caph5) := by subst hV6; go_simp
  have u1 : V6.cell? ⟨w5.heap.size, 1, none⟩ = some (.slice am5 2 capm5) := by subst hV6; go_simp
  have u2 : V6.cell? ⟨w5.heap.size, 2, none⟩ = some (.bool false) := by subst hV6; go_simp
  have hk56 : Hid (Kp w5 V6) := by rw [← hV6]; exact (Kp.refl w5).alloc _
  clear hV6 hk5
  have htb2 : bytL (tx ++ { data := #[120] }) = zerosL ++ [120] := by
    have h : bytL (tx ++ { data := #[120] }) = bytL tx ++ [120] := by unfold bytL; simp
    rw [h, htb.out]
  have hux : Hid (Calls Tryz.prog 14 #[.agg #[.int .i64 2, .int .i64 2, .slice a 2 2], .agg #[.int .i64 1, .int .i64 1], .string (tx ++ { data := #[120] })] V6 (UnpPost V6 ((false, [], []), 60))) := by
    have h := unpack_any 2 2 1 1 a 2 2 dekL (tx ++ { data := #[120] }) V6 (HK6.out.ths HTV.out) (by rw [ByteArray.size_append]; have := hts.out; show _ + 1 ≤ _; omega) (by decide)
    rw [htb2, dek_unpack_x] at h
    exact h
  clear htb2
  refine hux.out.mono ?_
  rintro e w7 ⟨ah7, caph7, am7, capm7, rfl, -, -, hb7⟩
  have hk7 := hk6.next hb7
  have HK7 := hid hk7
  have HB7 := hid hb7
  have hz7 := hb7.size
  have z07 : w1.heap.size < w7.heap.size := by omega
  have z17 : w1.heap.size + 1 < w7.heap.size := by omega
  clear hux hk6 hb7 hcat hcat2
  go_wp2_with fail
  generalize hV8 : World.alloc w7 _ = V8
  have hk8 : Kp V V8 := by rw [← hV8]; exact hk7.alloc _
  have HK8 := hid hk8
  have hz8 : V8.heap.size = w7.heap.size + 1 := by rw [← hV8]; simp
  have hk78 : Hid (Kp V6 V8) := by rw [← hV8]; exact (Kp.of HB7.out).alloc _
  clear hV8 hk7
  have hmis : Hid (Calls Tryz.prog 13 #[.agg #[.int .i64 2, .int .i64 2, .slice a 2 2], .agg #[.int .i64 1, .int .i64 1], .agg #[.slice none 0 0, .slice none 0 0, .bool false]] V8 fun e w' => e = .returned (.tuple #[.string { data := #[] }, .int .i64 1]) ∧ Below V8.heap.size V8 w') := by
    have h := pack_any 2 2 1 1 a 2 2 dekL none 0 0 [] none 0 0 [] false V8 (HK8.out.ths HTV.out) ThrIn.nil_ IntIn.nil_ (by decide) (by decide) (by decide)
    rw [dek_misfits] at h
    exact h
  refine hmis.out.mono ?_
  rintro e w9 ⟨rfl, hb9⟩
  have hk9 := hk8.next hb9
  have HK9 := hid hk9
  have hz9 := hb9.size
  have hk69 : Hid (Kp V6 w9) := hk78.out.next hb9
  have hk59 : Hid (Kp w5 w9) := hk56.out.next hk69.out.1
  have hk39 : Hid (Kp V3 w9) := ((Kp.of HB4.out).next HB5.out).next hk59.out.1
  have hk29 : Hid (Kp w2 w9) := hk23.out.next hk39.out.1
  have y0 : w9.cell? ⟨w2.heap.size, 0, none⟩ = some (.slice ah 2 caph) := (hk39.out.2 _ _ (by omega)).trans s0
  have y1 : w9.cell? ⟨w2.heap.size, 1, none⟩ = some (.slice am 2 capm) := (hk39.out.2 _ _ (by omega)).trans s1
  have y2 : w9.cell? ⟨w2.heap.size, 2, none⟩ = some (.bool false) := (hk39.out.2 _ _ (by omega)).trans s2
  have y3 : w9.cell? ⟨w5.heap.size, 0, none⟩ = some (.slice ah5 2 caph5) := (hk69.out.2 _ _ (by omega)).trans u0
  have y4 : w9.cell? ⟨w5.heap.size, 1, none⟩ = some (.slice am5 2 capm5) := (hk69.out.2 _ _ (by omega)).trans u1
  have y5 : w9.cell? ⟨w5.heap.size, 2, none⟩ = some (.bool false) := (hk69.out.2 _ _ (by omega)).trans u2
  have hsame : Hid (Calls Tryz.prog 15 #[.agg #[.slice ah 2 caph, .slice am 2 capm, .bool false], .agg #[.slice ah5 2 caph5, .slice am5 2 capm5, .bool false]] w9 fun e w' => e = .returned (.bool true) ∧ Below w9.heap.size w9 w') :=
    stSame_eq ah ah5 caph caph5 [.zero, .zero] am am5 capm capm5 [0, 0] false w9 (hk29.out.thr Hh2.out) (hk29.out.ints Hm2.out) (hk59.out.thr Hh5.out) (hk59.out.ints Hm5.out)
  have h17 : ((tx.size : Int) == 17) = true := by rw [beq_iff_eq]; have := hts.out; omega
  have hfin9 : Hid (Below w.heap.size w w9) := (HB1.out.trans (hKV.out.1.mono hz1)).trans (HK9.out.1.mono (by omega))
  clear hmis hk8 hb9
  go_wp2_with fail
  refine hsame.out.mono ?_
  rintro e wf ⟨rfl, hbf⟩
  have hF := hid (hfin9.out.trans (hbf.mono (by have := hfin9.out.size; exact this)))
  clear hbf
  go_wp2_with fail
  go_ret
  exact ⟨rfl, hF.out⟩
end Go.Proofs.YtekmcoflagajkaaGreatDoor
namespace Go.Proofs.YtekmcoflagajkaaGreatDoor
open Go.RowKit

theorem packS_two (b : Bool) (l : List Int) : ∃ (s : ByteArray) (n : Int), packS b l = .tuple #[.string s, .int .i64 n] := by
  cases b <;> exact ⟨_, _, rfl⟩

set_option maxRecDepth 100000 in
set_option maxHeartbeats 16000000 in
theorem same_any (vars dom m b : Int) (ac : Option Addr) (nc capc : Nat) (t : List (List Ins)) (ah : Option Addr) (nh caph : Nat) (th : List Thr) (am : Option Addr) (nm capm : Nat) (mem : List Int) (bad : Bool) (s : ByteArray) (w : World)
    (hc : ThsIn w (In_ w) ac nc capc t) (hh : ThrIn w (In_ w) ah nh caph th) (hm : IntIn w (In_ w) am nm capm mem) (hbuf : ∀ x ∈ th, x.buf.length ≤ 1000) (hth : th.length ≤ 1000) (hml : mem.length ≤ 1000)
    (hs : s.size ≤ 100000) (wv : (Lit.int .i64 vars).wf = true) :
    Calls Tryz.prog 11 #[.agg #[.int .i64 vars, .int .i64 dom, .slice ac nc capc], .agg #[.int .i64 m, .int .i64 b], .agg #[.slice ah nh caph, .slice am nm capm, .bool bad], .string s] w
      fun e w' => e = .returned (.bool true) ∧ Below w.heap.size w w' := by
  obtain ⟨W0, hW⟩ : ∃ W0, W0 = ((w.alloc (.cells #[.int .i64 vars, .int .i64 dom, .slice ac nc capc] 25)).alloc (.cells #[.int .i64 m, .int .i64 b] 30)).alloc (.cells #[.slice ah nh caph, .slice am nm capm, .bool bad] 34) := ⟨_, rfl⟩
  have hB : Below w.heap.size w W0 := by subst hW; exact (((Below.refl _ _).alloc (Nat.le_refl _) _).alloc (by simp) _).alloc (by simp; omega) _
  have z2 : w.heap.size + 1 + 1 < W0.heap.size := by subst hW; simp
  have z1 : w.heap.size + 1 < W0.heap.size := by omega
  have z0 : w.heap.size < W0.heap.size := by omega
  have c0 : W0.cell? ⟨w.heap.size, 0, none⟩ = some (.int .i64 vars) := by subst hW; go_simp
  have c1 : W0.cell? ⟨w.heap.size, 1, none⟩ = some (.int .i64 dom) := by subst hW; go_simp
  have c2 : W0.cell? ⟨w.heap.size, 2, none⟩ = some (.slice ac nc capc) := by subst hW; go_simp
  have m0 : W0.cell? ⟨w.heap.size + 1, 0, none⟩ = some (.int .i64 m) := by subst hW; go_simp
  have m1 : W0.cell? ⟨w.heap.size + 1, 1, none⟩ = some (.int .i64 b) := by subst hW; go_simp
  have s0 : W0.cell? ⟨w.heap.size + 1 + 1, 0, none⟩ = some (.slice ah nh caph) := by subst hW; go_simp
  have s1 : W0.cell? ⟨w.heap.size + 1 + 1, 1, none⟩ = some (.slice am nm capm) := by subst hW; go_simp
  have s2 : W0.cell? ⟨w.heap.size + 1 + 1, 2, none⟩ = some (.bool bad) := by subst hW; go_simp
  obtain ⟨S, n, hp⟩ := packS_two (fitsL vars dom t m b th mem) (packB th mem bad)
  have hpk : Hid (Calls Tryz.prog 13 #[.agg #[.int .i64 vars, .int .i64 dom, .slice ac nc capc], .agg #[.int .i64 m, .int .i64 b], .agg #[.slice ah nh caph, .slice am nm capm, .bool bad]] W0
      fun e w' => e = .returned (.tuple #[.string S, .int .i64 n]) ∧ Below W0.heap.size W0 w') := by
    have h := pack_any vars dom m b ac nc capc t ah nh caph th am nm capm mem bad W0 ((Kp.of hB).ths hc) ((Kp.of hB).thr hh) ((Kp.of hB).ints hm) hbuf hth hml
    rw [hp] at h
    exact h
  have hrp : Hid (∀ W, Kp W0 W → Calls Tryz.prog 10 #[.agg #[.int .i64 vars, .int .i64 dom, .slice ac nc capc], .agg #[.int .i64 m, .int .i64 b], .agg #[.slice ah nh caph, .slice am nm capm, .bool bad]] W
      fun e w' => e = .returned (.tuple #[.string S, .int .i64 n]) ∧ Below W.heap.size W w') := fun W hK => by
    have h := refPack_any vars dom m b ac nc capc t ah nh caph th am nm capm mem bad W (hK.ths ((Kp.of hB).ths hc)) (hK.thr ((Kp.of hB).thr hh)) (hK.ints ((Kp.of hB).ints hm)) hbuf hth hml
    rw [hp] at h
    exact h
  obtain ⟨⟨⟨bd, me, te⟩, er⟩, hr⟩ : ∃ r, r = unpS vars dom t m b (bytL s) := ⟨_, rfl⟩
  have hun : Hid (∀ W, Kp W0 W → Calls Tryz.prog 14 #[.agg #[.int .i64 vars, .int .i64 dom, .slice ac nc capc], .agg #[.int .i64 m, .int .i64 b], .string s] W (UnpPost W ((bd, me, te), er))) := fun W hK => by
    have h := unpack_any vars dom m b ac nc capc t s W (hK.ths ((Kp.of hB).ths hc)) hs wv
    rw [← hr] at h
    exact h
  have hru : Hid (∀ W, Kp W0 W → Calls Tryz.prog 22 #[.agg #[.int .i64 vars, .int .i64 dom, .slice ac nc capc], .agg #[.int .i64 m, .int .i64 b], .string s] W (UnpPost W ((bd, me, te), er))) := fun W hK => by
    have h := refUnpack_any vars dom m b ac nc capc t s W (hK.ths ((Kp.of hB).ths hc)) hs wv
    rw [← hr] at h
    exact h
  have HB := hid hB
  have hWx := hid hW
  have hz0 := hB.size
  clear hW hB hc hh hm hbuf hth hml hs wv hr hp
  go_enter Tryz.func11, Tryz.ntmps11
  go_wp2_with fail
  rw [← hWx.out]
  go_wp2_with fail
  refine hpk.out.mono ?_
  rintro e w1 ⟨rfl, hb1⟩
  have hk1 : Kp W0 w1 := Kp.of hb1
  have HK1 := hid hk1
  clear hb1 hpk
  go_wp2_with fail
  refine (hrp.out _ HK1.out).mono ?_
  rintro e w2 ⟨rfl, hb2⟩
  have hk2 := HK1.out.next hb2
  have HK2 := hid hk2
  clear hb2 hk1 hrp
  go_wp2_with fail
  refine (hun.out _ HK2.out).mono ?_
  rintro e w3 ⟨a3, p3, b3, q3, rfl, hh3, hm3, hb3⟩
  have hk3 := HK2.out.next hb3
  have HK3 := hid hk3
  have x0 : w.heap.size < w3.heap.size := by have := hk3.1.size; omega
  have x1 : w.heap.size + 1 < w3.heap.size := by have := hk3.1.size; omega
  have Hh3 := hid hh3
  have Hm3 := hid hm3
  clear hb3 hk2 hun hh3 hm3
  go_wp2_with fail
  generalize hV : World.alloc w3 _ = V
  have hkV : Kp W0 V := by rw [← hV]; exact HK3.out.alloc _
  have HKV := hid hkV
  have hzV : V.heap.size = w3.heap.size + 1 := by rw [← hV]; simp
  have u0 : V.cell? ⟨w3.heap.size, 0, none⟩ = some (.slice a3 te.length p3) := by subst hV; go_simp
  have u1 : V.cell? ⟨w3.heap.size, 1, none⟩ = some (.slice b3 me.length q3) := by subst hV; go_simp
  have u2 : V.cell? ⟨w3.heap.size, 2, none⟩ = some (.bool bd) := by subst hV; go_simp
  have i0 : w.heap.size < V.heap.size := by have := hkV.1.size; omega
  have i1 : w.heap.size + 1 < V.heap.size := by have := hkV.1.size; omega
  have hk3V : Hid (Kp w3 V) := by rw [← hV]; exact (Kp.refl w3).alloc _
  clear hV hk3
  go_wp2_with fail
  refine (hru.out _ HKV.out).mono ?_
  rintro e w4 ⟨a4, p4, b4, q4, rfl, hh4, hm4, hb4⟩
  have hk4 := HKV.out.next hb4
  have HK4 := hid hk4
  have HB4 := hid hb4
  have hz4 := hb4.size
  have e0 : w3.heap.size < w4.heap.size := by omega
  have Hh4 := hid hh4
  have Hm4 := hid hm4
  have k0 : w4.cell? ⟨w3.heap.size, 0, none⟩ = some (.slice a3 te.length p3) := ((Kp.of HB4.out).2 _ _ (by omega)).trans u0
  have k1 : w4.cell? ⟨w3.heap.size, 1, none⟩ = some (.slice b3 me.length q3) := ((Kp.of HB4.out).2 _ _ (by omega)).trans u1
  have k2 : w4.cell? ⟨w3.heap.size, 2, none⟩ = some (.bool bd) := ((Kp.of HB4.out).2 _ _ (by omega)).trans u2
  clear hb4 hkV hru hh4 hm4
  go_wp2_with fail
  generalize hY : World.alloc w4 _ = Y
  have hkY : Kp W0 Y := by rw [← hY]; exact HK4.out.alloc _
  have HKY := hid hkY
  have hzY : Y.heap.size = w4.heap.size + 1 := by rw [← hY]; simp
  have v0 : Y.cell? ⟨w4.heap.size, 0, none⟩ = some (.slice a4 te.length p4) := by subst hY; go_simp
  have v1 : Y.cell? ⟨w4.heap.size, 1, none⟩ = some (.slice b4 me.length q4) := by subst hY; go_simp
  have v2 : Y.cell? ⟨w4.heap.size, 2, none⟩ = some (.bool bd) := by subst hY; go_simp
  have j0 : w.heap.size < Y.heap.size := by have := hkY.1.size; omega
  have j1 : w.heap.size + 1 < Y.heap.size := by have := hkY.1.size; omega
  have hk4Y : Hid (Kp w4 Y) := by rw [← hY]; exact (Kp.refl w4).alloc _
  have hkVY : Hid (Kp V Y) := by rw [← hY]; exact (Kp.of HB4.out).alloc _
  clear hY hk4
  have y0 : Y.cell? ⟨w3.heap.size, 0, none⟩ = some (.slice a3 te.length p3) := (hkVY.out.2 _ _ (by omega)).trans u0
  have y1 : Y.cell? ⟨w3.heap.size, 1, none⟩ = some (.slice b3 me.length q3) := (hkVY.out.2 _ _ (by omega)).trans u1
  have y2 : Y.cell? ⟨w3.heap.size, 2, none⟩ = some (.bool bd) := (hkVY.out.2 _ _ (by omega)).trans u2
  clear u0 u1 u2
  have hsame : Hid (Calls Tryz.prog 15 #[.agg #[.slice a3 te.length p3, .slice b3 me.length q3, .bool bd], .agg #[.slice a4 te.length p4, .slice b4 me.length q4, .bool bd]] Y fun e w' => e = .returned (.bool true) ∧ Below Y.heap.size Y w') :=
    stSame_eq a3 a4 p3 p4 te b3 b4 q3 q4 me bd Y ((hk3V.out.next HB4.out |>.next hk4Y.out.1).thr Hh3.out) ((hk3V.out.next HB4.out |>.next hk4Y.out.1).ints Hm3.out) (hk4Y.out.thr Hh4.out) (hk4Y.out.ints Hm4.out)
  have hfin : Hid (Below w.heap.size w Y) := HB.out.trans (HKY.out.1.mono hz0)
  have hzf := hfin.out.size
  clear Hh3 Hm3 Hh4 Hm4
  go_wp2_with fail
  refine hsame.out.mono ?_
  rintro e wf ⟨rfl, hbf⟩
  have hF := hid (hfin.out.trans (hbf.mono hzf))
  clear hbf hsame
  go_wp2_with fail
  go_ret
  exact ⟨rfl, hF.out⟩
end Go.Proofs.YtekmcoflagajkaaGreatDoor
namespace Go.Proofs.YtekmcoflagajkaaGreatDoor
open Go.RowKit

theorem strOfNums_bytL (s : ByteArray) : strOfNums (bytL s) = s := by
  obtain ⟨⟨l⟩⟩ := s
  have h2 : ∀ l : List UInt8, (l.map fun c => (c.toNat : Int)).map (fun x => UInt8.ofNat x.toNat) = l := by
    intro l
    rw [List.map_map]
    refine (List.map_congr_left fun x _ => ?_).trans (List.map_id _)
    simp
  unfold strOfNums bytL
  rw [h2]
theorem bytL_bytes (s : ByteArray) : BytesL (bytL s) := fun x hx => by
  unfold bytL at hx
  obtain ⟨c, -, rfl⟩ := List.mem_map.1 hx
  have := c.toNat_lt
  omega
/-- What is unpacked is packed to the same. -/
theorem unp_pack {vars dom m b : Int} {t : List (List Ins)} {s : ByteArray} {bad : Bool} {mem : List Int} {th : List Thr} (h : unpS vars dom t m b (bytL s) = ((bad, mem, th), 0)) :
    packS (fitsL vars dom t m b th mem) (packB th mem bad) = .tuple #[.string s, .int .i64 0] ∧ (∀ x ∈ th, x.buf.length ≤ 1000) ∧ th.length ≤ 1000 ∧ mem.length ≤ 1000 := by
  unfold unpS at h
  cases hm : mayL vars dom t m b with
  | false => rw [hm] at h; cases h
  | true =>
    rw [hm] at h
    simp only [if_true] at h
    cases hu : unpL vars.toNat t.length (bytL s) with
    | none => rw [hu] at h; cases h
    | some r =>
      obtain ⟨bad', mem', th'⟩ := r
      rw [hu] at h
      simp only at h
      cases hf : fitsL vars dom t m b th' mem' with
      | false => rw [hf] at h; cases h
      | true =>
        rw [hf] at h
        simp only [if_true, Prod.mk.injEq, and_true] at h
        obtain ⟨rfl, rfl, rfl⟩ := h
        obtain ⟨e1, e2, e3, e4⟩ := unpL_inv (bytL_bytes s) hu
        have hmf := may_facts hm
        rw [hf, e1]
        refine ⟨?_, fun x hx => by have := e2 x hx; omega, by omega, by omega⟩
        unfold packS
        rw [strOfNums_bytL]
        rfl

theorem machine_any (n : Nat) (w : World) : Calls Tryz.prog 8 #[.int .u8 n] w fun e w' => (∃ m b : Int, e = .returned (.agg #[.int .i64 m, .int .i64 b])) ∧ Below w.heap.size w w' := by
  go_enter Tryz.func8, Tryz.ntmps8
  go_wp2_with fail
  refine bodyPost_ret (v := .agg #[.int .i64 ((wrap64 (n : Int)).tmod 3), .int .i64 (wrap64 (1 + (wrap64 ((wrap64 (n : Int)).tdiv 3)).tmod 3))]) ?_ rfl ⟨⟨_, _, rfl⟩, (Below.refl _ _).alloc (Nat.le_refl _) _⟩
  simp [results, Tryz.results8, go_sem]

set_option maxRecDepth 100000 in
set_option maxHeartbeats 16000000 in
theorem packBytes_walk (la : Option Addr) (ln lc : Nat) (n : Nat) (s : ByteArray) (w : World) (hl : U8s w (In_ w) la ln lc) (_hn : n < 256) :
    Calls Tryz.prog 5 #[.slice la ln lc, .int .u8 n, .string s] w fun e w' => e = .returned (.bool true) ∧ Below w.heap.size w w' := by
  have Hl := hid hl
  clear hl
  go_enter Tryz.func5, Tryz.ntmps5
  go_wp2_with fail
  refine (awake_any w).mono ?_
  rintro e w1 ⟨rfl, hb1⟩
  have HK1 := hid (Kp.of hb1)
  clear hb1
  go_wp2_with fail
  refine (kinds_any w1).mono ?_
  rintro e w2 ⟨rfl, hK2, hb2⟩
  have HK2 := hid (HK1.out.next hb2)
  have hl2 : U8s w2 (In_ w2) la ln lc := (Hl.out.keep fun b o hb => HK2.out.2 b o hb).widen (In_.mono HK2.out.1.size)
  have hmade := hid (madeC_any w2 la ln lc _ 13 13 hl2 hK2)
  clear hl2 hK2 hb2 Hl HK1
  go_wp2_with fail
  refine hmade.out.mono ?_
  intro e w3 hp3
  obtain ⟨p, n0, v, rfl, hright, -, -, -, hT, hn0, hn1, hb3⟩ := hp3
  obtain ⟨ta, tc, hv, hTh⟩ := hT.ths
  subst hv
  have HK3 := hid (HK2.out.next hb3)
  have hTh3 : ThsIn w3 (In_ w3) ta (cmpT p.ths).length tc (cmpT p.ths) := hTh.widen fun b hb => by
    rcases hb with hb | hb
    · have hb' : b < n0 := hb
      show b < _; omega
    · exact hb.2
  have HT3 := hid hTh3
  have wv : (Lit.int .i64 (p.vars.length : Int)).wf = true := by
    unfold rightP at hright
    simp only [Bool.and_eq_true, decide_eq_true_eq] at hright
    exact WalkArith.wf_i64 (by omega)
  clear hT hTh hTh3 hb3 hmade HK2 hright hn0 hn1
  generalize cmpT p.ths = T at *
  generalize (p.vars.length : Int) = vars at *
  generalize p.dom = dom at *
  go_wp2_with fail
  refine (machine_any n w3).mono ?_
  rintro e w4 ⟨⟨m, b, rfl⟩, hb4⟩
  have HK4 := hid (HK3.out.next hb4)
  have HT4 := hid ((Kp.of hb4).ths HT3.out)
  clear hb4 HK3 HT3
  generalize hW : (w4.alloc (.cells #[.int .i64 vars, .int .i64 dom, .slice ta T.length tc] 25)).alloc (.cells #[.int .i64 m, .int .i64 b] 30) = W0
  have hB : Below w4.heap.size w4 W0 := by subst hW; exact ((Below.refl _ _).alloc (Nat.le_refl _) _).alloc (by simp) _
  have z0 : w4.heap.size < W0.heap.size := by subst hW; simp; omega
  have z1 : w4.heap.size + 1 < W0.heap.size := by subst hW; simp
  have c0 : W0.cell? ⟨w4.heap.size, 0, none⟩ = some (.int .i64 vars) := by subst hW; go_simp
  have c1 : W0.cell? ⟨w4.heap.size, 1, none⟩ = some (.int .i64 dom) := by subst hW; go_simp
  have c2 : W0.cell? ⟨w4.heap.size, 2, none⟩ = some (.slice ta T.length tc) := by subst hW; go_simp
  have m0 : W0.cell? ⟨w4.heap.size + 1, 0, none⟩ = some (.int .i64 m) := by subst hW; go_simp
  have m1 : W0.cell? ⟨w4.heap.size + 1, 1, none⟩ = some (.int .i64 b) := by subst hW; go_simp
  have HT0 := hid ((Kp.of hB).ths HT4.out)
  have HB := hid (HK4.out.next hB)
  have hWx := hid hW
  clear hW hB HT4 HK4
  go_upto_region 5 with fail
  rw [hWx.out]
  by_cases hs : (100 : Int) < s.size
  · go_wp2_with fail
    go_ret
    exact ⟨rfl, HB.out.1⟩
  go_wp2_with fail
  go_loopw [10, 11] (fun v i wr => ∃ (k : Nat) (L : List Int) (a1 : Option Addr) (n1 c1 : Nat), k ≤ s.size ∧ i = .int .i64 k ∧ v = .slice a1 n1 c1 ∧ Hid (L.length = k) ∧ Hid (wr.ownsRow W0.heap.size 5 1 (.slice a1 n1 c1) L.length (L.map (Value.int .u8))) ∧ Hid (k = 0 → Value.slice a1 n1 c1 = .slice none 0 0) ∧ Kp W0 wr) (fun _ i _ => s.size - (intOf i).toNat)
  case atStart => exact ⟨0, [], none, 0, 0, Nat.zero_le _, rfl, rfl, rfl, World.ownsRow_nil _ _ _ _, fun _ => rfl, Kp.refl _⟩
  case round =>
    obtain ⟨k, L, a1, n1, c3, hk, rfl, rfl, hL, hown, hz, hK⟩ := hrel
    by_cases hlt : k < s.size
    · have k0 : (0 : Int) ≤ k := by omega
      have k1 : (k : Int) < s.size := by omega
      have g0 := hK.1.size
      have hLk := hL.out
      clear hz
      go_wp2_with (first
        | (at_builtin
           refine list_by (base := W0.heap.size) (.tmp 36) (.tmp 41) (.slice a1 n1 c3) L.length (L.map (Value.int .u8)) 1 [.int .u8 ((s[k].toNat : Int) % 2)] ?_ ?_ ?_ ?_ ?_ ?_ ?_ ?_ ?_
           (focus rfl); (focus rfl); (focus rfl); (focus exact hown.out.alloc _); (focus (first | exact ⟨_, _, rfl, src_new rfl⟩ | exact ⟨_, _, rfl, src_at rfl rfl⟩)); (focus exact one_by); (focus omega); (focus (simp; omega))
           intro v2 w2 hown2 hg2 hat2
           have hk1 : Kp W0 w2 := Kp.grown (hK.alloc _) hg2 (fun k hk => (hown.out.lt k hk).1)
           obtain ⟨a2, n2, c4, rfl⟩ := own_slice hown2
           have hO2 := hid (OutIs.app (L := L) (news := [(s[k].toNat : Int) % 2]) hown2)
           have HK1 := hid hk1
           clear hown2 hg2 hat2 hk1)
        | fail)
      go_roundw
      case rel => exact ⟨k + 1, _, _, _, _, by omega, by simp, rfl, by simp [Hid, hLk], hO2.out.2, fun h => absurd h (by omega), HK1.out⟩
      case measure => simp [intOf]; omega
    · obtain rfl : k = s.size := by omega
      obtain ⟨s2, hcv, hs2⟩ : ∃ s2 : ByteArray, (convert 22 9 (.slice a1 n1 c3)).run Tryz.prog wr = .ok (.string s2) wr ∧ s2.size ≤ 100 := by
        by_cases h0 : 0 < L.length
        · exact ⟨_, conv_row hown.out h0, by rw [strOfNums_size, hL.out]; omega⟩
        · have e := hz.out (by rw [← hL.out]; omega)
          rw [e]
          exact ⟨⟨#[]⟩, rfl, by decide⟩
      have g0 := hK.1.size
      generalize hW5 : wr.alloc (.cells #[.string s, .string s2] 9) = W5
      have hB5 : Below wr.heap.size wr W5 := by subst hW5; exact (Below.refl _ _).alloc (Nat.le_refl _) _
      have d0 : W5.cell? ⟨wr.heap.size, 0, none⟩ = some (.string s) := by subst hW5; go_simp
      have d1 : W5.cell? ⟨wr.heap.size, 1, none⟩ = some (.string s2) := by subst hW5; go_simp
      have z5 : wr.heap.size < W5.heap.size := by subst hW5; simp
      have hK5 := hK.next hB5
      have y0 := (hK5.2 _ 0 z0).trans c0
      have y1 := (hK5.2 _ 1 z0).trans c1
      have y2 := (hK5.2 _ 2 z0).trans c2
      have y3 := (hK5.2 _ 0 z1).trans m0
      have y4 := (hK5.2 _ 1 z1).trans m1
      have z6 : w4.heap.size < W5.heap.size := by omega
      have z7 : w4.heap.size + 1 < W5.heap.size := by omega
      have HT5 := hid (hK5.ths HT0.out)
      have HK5 := hid hK5
      have hW5x := hid hW5
      have hel : ∀ r : Nat, r < 2 → ∃ t : ByteArray, W5.cell? ⟨wr.heap.size, r, none⟩ = some (.string t) ∧ t.size ≤ 100 := fun r hr => by
        have : r = 0 ∨ r = 1 := by omega
        rcases this with rfl | rfl
        · exact ⟨s, d0, by omega⟩
        · exact ⟨s2, d1, hs2⟩
      have Hel := hid hel
      clear hel hW5 hB5 hK5 hL hown hz hK d0 d1 hs2 c0 c1 c2 m0 m1 HT0
      go_upto_region 13 with fail
      rw [hW5x.out]
      clear hW5x
      generalize wr.heap.size = sb at *
      go_loopw [48] (fun i wr => ∃ r : Nat, r ≤ 2 ∧ i = .int .i64 r ∧ Kp W5 wr) (fun i _ => 2 - (intOf i).toNat)
      case atStart => exact ⟨0, by omega, rfl, Kp.refl _⟩
      case round =>
        obtain ⟨r, hr, rfl, hKx⟩ := hrel
        have g1 := hKx.1.size
        by_cases hr2 : r < 2
        · obtain ⟨t, ht, hts⟩ := Hel.out r hr2
          have r0 : (0 : Int) ≤ r := by omega
          have r1 : (r : Int) < 2 := by omega
          have g2 : sb < wr.heap.size := by omega
          have g3 : w4.heap.size < wr.heap.size := by omega
          have g4 : w4.heap.size + 1 < wr.heap.size := by omega
          have hun := hid (unpack_any vars dom m b ta T.length tc T t wr (hKx.ths HT5.out) (by omega) wv)
          have hpl := hid (fun bad mem th => unp_pack (vars := vars) (dom := dom) (m := m) (b := b) (t := T) (s := t) (bad := bad) (mem := mem) (th := th))
          obtain ⟨⟨⟨bd, me, te⟩, er⟩, hrr⟩ : ∃ r, r = unpS vars dom T m b (bytL t) := ⟨_, rfl⟩
          rw [← hrr] at hun hpl
          have HKx := hid hKx
          by_cases her : er = 0
          · subst her
            obtain ⟨hp1, hp2, hp3, hp4⟩ := hpl.out bd me te rfl
            have hpk : Hid (∀ W a1 c1 a2 c2, ThsIn W (In_ W) ta T.length tc T → ThrIn W (In_ W) a1 te.length c1 te → IntIn W (In_ W) a2 me.length c2 me → Calls Tryz.prog 13 #[.agg #[.int .i64 vars, .int .i64 dom, .slice ta T.length tc], .agg #[.int .i64 m, .int .i64 b], .agg #[.slice a1 te.length c1, .slice a2 me.length c2, .bool bd]] W fun e w' => e = .returned (.tuple #[.string t, .int .i64 0]) ∧ Below W.heap.size W w') := fun W a1 c1 a2 c2 h1 h2 h3 => by
              have h := pack_any vars dom m b ta T.length tc T a1 te.length c1 te a2 me.length c2 me bd W h1 h2 h3 hp2 hp3 hp4
              rw [hp1] at h
              exact h
            clear hp1 hp2 hp3 hp4 hpl hrr
            go_wp2_with fail
            refine hun.out.mono ?_
            rintro e w6 ⟨a1, c1, a2, c2, rfl, hh6, hm6, hb6⟩
            have hK6 := HKx.out.next hb6
            have HK6 := hid hK6
            generalize hW7 : w6.alloc (.cells #[.slice a1 te.length c1, .slice a2 me.length c2, .bool bd] 34) = W7
            have hB7 : Below w6.heap.size w6 W7 := by subst hW7; exact (Below.refl _ _).alloc (Nat.le_refl _) _
            have u0 : W7.cell? ⟨w6.heap.size, 0, none⟩ = some (.slice a1 te.length c1) := by subst hW7; go_simp
            have u1 : W7.cell? ⟨w6.heap.size, 1, none⟩ = some (.slice a2 me.length c2) := by subst hW7; go_simp
            have u2 : W7.cell? ⟨w6.heap.size, 2, none⟩ = some (.bool bd) := by subst hW7; go_simp
            have z8 : w6.heap.size < W7.heap.size := by subst hW7; simp
            have hK7 := hK6.next hB7
            have hcall := hid (hpk.out W7 a1 c1 a2 c2 (hK7.ths HT5.out) ((Kp.of hB7).thr hh6) ((Kp.of hB7).ints hm6))
            have v0 := (hK7.2 _ 0 z6).trans y0
            have v1 := (hK7.2 _ 1 z6).trans y1
            have v2 := (hK7.2 _ 2 z6).trans y2
            have v3 := (hK7.2 _ 0 z7).trans y3
            have v4 := (hK7.2 _ 1 z7).trans y4
            have z9 : w4.heap.size < W7.heap.size := by have := hK7.1.size; omega
            have z10 : w4.heap.size + 1 < W7.heap.size := by have := hK7.1.size; omega
            have HK7 := hid hK7
            have hW7x := hid hW7
            clear hW7 hB7 hK7 hK6 hKx hh6 hm6 hb6 hun hpk
            go_upto_region 16 with fail
            rw [hW7x.out]
            go_wp2_with fail
            refine hcall.out.mono ?_
            rintro e w8 ⟨rfl, hb8⟩
            have HK8 := hid (HK7.out.next hb8)
            clear hb8 u0 u1 u2 v0 v1 v2 v3 v4
            go_wp2_with fail
            go_roundw
            case rel => exact ⟨r + 1, by omega, by simp, HK8.out⟩
            case measure => simp [intOf]; omega
          · have hne : (er == 0) = false := by simpa using her
            clear hpl hrr her
            go_wp2_with fail
            refine hun.out.mono ?_
            rintro e w6 ⟨a1, c1, a2, c2, rfl, -, -, hb6⟩
            have HK6 := hid ((HKx.out.next hb6).alloc (.cells #[.slice a1 te.length c1, .slice a2 me.length c2, .bool bd] 34))
            clear hb6 hKx
            go_wp2_with fail
            go_roundw
            case rel => exact ⟨r + 1, by omega, by simp, HK6.out⟩
            case measure => simp [intOf]; omega
        · obtain rfl : r = 2 := by omega
          have HKx := hid hKx
          clear hKx
          go_wp2_with fail
          go_ret
          exact ⟨rfl, (HB.out.next (HK5.out.next HKx.out.1 |>.1)).1⟩
end Go.Proofs.YtekmcoflagajkaaGreatDoor
