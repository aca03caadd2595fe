/- Awake: what any right program answers. -/
import Derived.Test.YtekmcoflagajkaaGreatDoorUnpP
import Derived.Test.YtekmcoflagajkaaGreatDoorBunQ
namespace Go.Proofs.YtekmcoflagajkaaGreatDoor
open Go.RowKit

def zerosL : List Int := List.replicate 17 0
theorem dek_right : rightL 2 2 dekL = true := by decide
theorem dek_may : mayL 2 2 dekL 1 1 = true := by decide
theorem dek_fits : fitsL 2 2 dekL 1 1 [.zero, .zero] [0, 0] = true := by decide
theorem dek_misfits : fitsL 2 2 dekL 1 1 [] [] = false := by decide
theorem dek_pack : packB [.zero, .zero] [0, 0] false = zerosL := by decide
theorem dek_unpack : unpS 2 2 dekL 1 1 zerosL = ((false, [0, 0], [.zero, .zero]), 0) := by rfl
theorem dek_unpack_x : unpS 2 2 dekL 1 1 (zerosL ++ [120]) = ((false, [], []), 60) := by rfl

theorem bytL_of (L : List Int) (h : ∀ x ∈ L, 0 ≤ x ∧ x < 256) : bytL (strOfNums L) = L := by
  unfold bytL
  rw [strOfNums_data, List.map_map]
  conv => rhs; rw [← List.map_id L]
  refine List.map_congr_left fun x hx => ?_
  obtain ⟨h0, h1⟩ := h x hx
  show ((UInt8.ofNat x.toNat).toNat : Int) = x
  rw [UInt8.toNat_ofNat_of_lt' (by show x.toNat < 256; omega)]
  omega
theorem text_zeros : bytL (strOfNums zerosL) = zerosL := bytL_of _ (by decide)

set_option maxRecDepth 100000 in
set_option maxHeartbeats 8000000 in
theorem awake_any (w : World) : Calls Tryz.prog 12 #[] w fun e w' => e = .returned (.bool true) ∧ Below w.heap.size w w' := by
  go_enter Tryz.func12, Tryz.ntmps12
  go_wp2_with fail
  refine (dekker_any _).mono ?_
  rintro e w1 ⟨a, rfl, hth, hb1⟩
  have HB1 := hid hb1
  have HTH := hid hth
  have hz1 := hb1.size
  clear hb1 hth
  go_wp2_with fail
  generalize hV : World.alloc (World.alloc w1 _) _ = V
  have hBV : Below w1.heap.size w1 V := by rw [← hV]; exact ((Below.refl _ _).alloc (Nat.le_refl _) _).alloc (by simp) _
  have hKV : Hid (Kp w1 V) := Kp.of hBV
  have hzV : V.heap.size = w1.heap.size + 1 + 1 := by rw [← hV]; simp
  have c0 : V.cell? ⟨w1.heap.size, 0, none⟩ = some (.int .i64 2) := by subst hV; go_simp
  have c1 : V.cell? ⟨w1.heap.size, 1, none⟩ = some (.int .i64 2) := by subst hV; go_simp
  have c2 : V.cell? ⟨w1.heap.size, 2, none⟩ = some (.slice a 2 2) := by subst hV; go_simp
  have m0 : V.cell? ⟨w1.heap.size + 1, 0, none⟩ = some (.int .i64 1) := by subst hV; go_simp
  have m1 : V.cell? ⟨w1.heap.size + 1, 1, none⟩ = some (.int .i64 1) := by subst hV; go_simp
  have HTV := hid (hKV.out.ths HTH.out)
  have hst : Hid (Calls Tryz.prog 18 #[.agg #[.int .i64 2, .int .i64 2, .slice a 2 2]] V (StartPost V [.zero, .zero] [0, 0])) := by
    have h := start_any 2 2 a 2 2 dekL V HTV.out
    rw [dek_right] at h
    exact h
  clear hV hBV
  refine hst.out.mono ?_
  rintro e w2 ⟨ah, caph, am, capm, rfl, hh2, hm2, hb2⟩
  have hk2 : Kp V w2 := Kp.of hb2
  have HK2 := hid hk2
  have hz2 := hb2.size
  have z0 : w1.heap.size < V.heap.size := by omega
  have z1 : w1.heap.size + 1 < V.heap.size := by omega
  have z0' : w1.heap.size < w2.heap.size := by omega
  have z1' : w1.heap.size + 1 < w2.heap.size := by omega
  have Hh2 := hid hh2
  have Hm2 := hid hm2
  clear hb2 hst hh2 hm2
  go_wp2_with fail
  generalize hV3 : World.alloc w2 _ = V3
  have hk3 : Kp V V3 := by rw [← hV3]; exact HK2.out.alloc _
  have HK3 := hid hk3
  have hz3 : V3.heap.size = w2.heap.size + 1 := by rw [← hV3]; simp
  have s0 : V3.cell? ⟨w2.heap.size, 0, none⟩ = some (.slice ah 2 caph) := by subst hV3; go_simp
  have s1 : V3.cell? ⟨w2.heap.size, 1, none⟩ = some (.slice am 2 capm) := by subst hV3; go_simp
  have s2 : V3.cell? ⟨w2.heap.size, 2, none⟩ = some (.bool false) := by subst hV3; go_simp
  have hk23 : Hid (Kp w2 V3) := by rw [← hV3]; exact (Kp.refl w2).alloc _
  clear hV3
  have hpk : Hid (Calls Tryz.prog 13 #[.agg #[.int .i64 2, .int .i64 2, .slice a 2 2], .agg #[.int .i64 1, .int .i64 1], .agg #[.slice ah 2 caph, .slice am 2 capm, .bool false]] V3 fun e w' => e = .returned (.tuple #[.string (strOfNums zerosL), .int .i64 0]) ∧ Below V3.heap.size V3 w') := by
    have h := pack_any 2 2 1 1 a 2 2 dekL ah 2 caph [.zero, .zero] am 2 capm [0, 0] false V3 (HK3.out.ths HTV.out) (hk23.out.thr Hh2.out) (hk23.out.ints Hm2.out) (by decide) (by decide) (by decide)
    rw [dek_fits, dek_pack] at h
    exact h
  have htz : ∃ tx : ByteArray, tx = strOfNums zerosL := ⟨_, rfl⟩
  obtain ⟨tx, htx⟩ := htz
  rw [← htx] at hpk
  have htb : Hid (bytL tx = zerosL) := by rw [htx]; exact text_zeros
  have hts : Hid (tx.size = 17) := by rw [htx, strOfNums_size]; rfl
  have hk3' := HK3.out
  clear htx
  refine hpk.out.mono ?_
  rintro e w4 ⟨rfl, hb4⟩
  have hk4 := hk3'.next hb4
  have HK4 := hid hk4
  have HB4 := hid hb4
  have hz4 := hb4.size
  have z0'' : w1.heap.size < w4.heap.size := by omega
  have z1'' : w1.heap.size + 1 < w4.heap.size := by omega
  have hun : Hid (Calls Tryz.prog 14 #[.agg #[.int .i64 2, .int .i64 2, .slice a 2 2], .agg #[.int .i64 1, .int .i64 1], .string tx] w4 (UnpPost w4 ((false, [0, 0], [.zero, .zero]), 0))) := by
    have h := unpack_any 2 2 1 1 a 2 2 dekL tx w4 (HK4.out.ths HTV.out) (by rw [hts.out]; decide) (by decide)
    rw [htb.out, dek_unpack] at h
    exact h
  clear hpk hk2 hk3 hk3' hb4
  go_wp2_with fail
  refine hun.out.mono ?_
  rintro e w5 ⟨ah5, caph5, am5, capm5, rfl, hh5, hm5, hb5⟩
  have hk5 := hk4.next hb5
  have HK5 := hid hk5
  have HB5 := hid hb5
  have hz5 := hb5.size
  have Hh5 := hid hh5
  have Hm5 := hid hm5
  have z05 : w1.heap.size < w5.heap.size := by omega
  have hcat : tx.size ≤ 100 := by have := hts.out; omega
  have hcat2 : tx.size + 1 ≤ 9223372036854775807 := by omega
  have z15 : w1.heap.size + 1 < w5.heap.size := by omega
  clear hun hk4 hb5 hh5 hm5
  go_wp2_with fail
  generalize hV6 : World.alloc w5 _ = V6
  have hk6 : Kp V V6 := by rw [← hV6]; exact hk5.alloc _
  have HK6 := hid hk6
  have hz6 : V6.heap.size = w5.heap.size + 1 := by rw [← hV6]; simp
  have u0 : V6.cell? ⟨w5.heap.size, 0, none⟩ = some (.slice ah5 2 caph5) := by subst hV6; go_simp
  have u1 : V6.cell? ⟨w5.heap.size, 1, none⟩ = some (.slice am5 2 capm5) := by subst hV6; go_simp
  have u2 : V6.cell? ⟨w5.heap.size, 2, none⟩ = some (.bool false) := by subst hV6; go_simp
  have hk56 : Hid (Kp w5 V6) := by rw [← hV6]; exact (Kp.refl w5).alloc _
  clear hV6 hk5
  have htb2 : bytL (tx ++ { data := #[120] }) = zerosL ++ [120] := by
    have h : bytL (tx ++ { data := #[120] }) = bytL tx ++ [120] := by unfold bytL; simp
    rw [h, htb.out]
  have hux : Hid (Calls Tryz.prog 14 #[.agg #[.int .i64 2, .int .i64 2, .slice a 2 2], .agg #[.int .i64 1, .int .i64 1], .string (tx ++ { data := #[120] })] V6 (UnpPost V6 ((false, [], []), 60))) := by
    have h := unpack_any 2 2 1 1 a 2 2 dekL (tx ++ { data := #[120] }) V6 (HK6.out.ths HTV.out) (by rw [ByteArray.size_append]; have := hts.out; show _ + 1 ≤ _; omega) (by decide)
    rw [htb2, dek_unpack_x] at h
    exact h
  clear htb2
  refine hux.out.mono ?_
  rintro e w7 ⟨ah7, caph7, am7, capm7, rfl, -, -, hb7⟩
  have hk7 := hk6.next hb7
  have HK7 := hid hk7
  have HB7 := hid hb7
  have hz7 := hb7.size
  have z07 : w1.heap.size < w7.heap.size := by omega
  have z17 : w1.heap.size + 1 < w7.heap.size := by omega
  clear hux hk6 hb7 hcat hcat2
  go_wp2_with fail
  generalize hV8 : World.alloc w7 _ = V8
  have hk8 : Kp V V8 := by rw [← hV8]; exact hk7.alloc _
  have HK8 := hid hk8
  have hz8 : V8.heap.size = w7.heap.size + 1 := by rw [← hV8]; simp
  have hk78 : Hid (Kp V6 V8) := by rw [← hV8]; exact (Kp.of HB7.out).alloc _
  clear hV8 hk7
  have hmis : Hid (Calls Tryz.prog 13 #[.agg #[.int .i64 2, .int .i64 2, .slice a 2 2], .agg #[.int .i64 1, .int .i64 1], .agg #[.slice none 0 0, .slice none 0 0, .bool false]] V8 fun e w' => e = .returned (.tuple #[.string { data := #[] }, .int .i64 1]) ∧ Below V8.heap.size V8 w') := by
    have h := pack_any 2 2 1 1 a 2 2 dekL none 0 0 [] none 0 0 [] false V8 (HK8.out.ths HTV.out) ThrIn.nil_ IntIn.nil_ (by decide) (by decide) (by decide)
    rw [dek_misfits] at h
    exact h
  refine hmis.out.mono ?_
  rintro e w9 ⟨rfl, hb9⟩
  have hk9 := hk8.next hb9
  have HK9 := hid hk9
  have hz9 := hb9.size
  have hk69 : Hid (Kp V6 w9) := hk78.out.next hb9
  have hk59 : Hid (Kp w5 w9) := hk56.out.next hk69.out.1
  have hk39 : Hid (Kp V3 w9) := ((Kp.of HB4.out).next HB5.out).next hk59.out.1
  have hk29 : Hid (Kp w2 w9) := hk23.out.next hk39.out.1
  have y0 : w9.cell? ⟨w2.heap.size, 0, none⟩ = some (.slice ah 2 caph) := (hk39.out.2 _ _ (by omega)).trans s0
  have y1 : w9.cell? ⟨w2.heap.size, 1, none⟩ = some (.slice am 2 capm) := (hk39.out.2 _ _ (by omega)).trans s1
  have y2 : w9.cell? ⟨w2.heap.size, 2, none⟩ = some (.bool false) := (hk39.out.2 _ _ (by omega)).trans s2
  have y3 : w9.cell? ⟨w5.heap.size, 0, none⟩ = some (.slice ah5 2 caph5) := (hk69.out.2 _ _ (by omega)).trans u0
  have y4 : w9.cell? ⟨w5.heap.size, 1, none⟩ = some (.slice am5 2 capm5) := (hk69.out.2 _ _ (by omega)).trans u1
  have y5 : w9.cell? ⟨w5.heap.size, 2, none⟩ = some (.bool false) := (hk69.out.2 _ _ (by omega)).trans u2
  have hsame : Hid (Calls Tryz.prog 15 #[.agg #[.slice ah 2 caph, .slice am 2 capm, .bool false], .agg #[.slice ah5 2 caph5, .slice am5 2 capm5, .bool false]] w9 fun e w' => e = .returned (.bool true) ∧ Below w9.heap.size w9 w') :=
    stSame_eq ah ah5 caph caph5 [.zero, .zero] am am5 capm capm5 [0, 0] false w9 (hk29.out.thr Hh2.out) (hk29.out.ints Hm2.out) (hk59.out.thr Hh5.out) (hk59.out.ints Hm5.out)
  have h17 : ((tx.size : Int) == 17) = true := by rw [beq_iff_eq]; have := hts.out; omega
  have hfin9 : Hid (Below w.heap.size w w9) := (HB1.out.trans (hKV.out.1.mono hz1)).trans (HK9.out.1.mono (by omega))
  clear hmis hk8 hb9
  go_wp2_with fail
  refine hsame.out.mono ?_
  rintro e wf ⟨rfl, hbf⟩
  have hF := hid (hfin9.out.trans (hbf.mono (by have := hfin9.out.size; exact this)))
  clear hbf
  go_wp2_with fail
  go_ret
  exact ⟨rfl, hF.out⟩
end Go.Proofs.YtekmcoflagajkaaGreatDoor
