/- Same: are a state's bytes, and the state of bytes, the document's? -/
import Derived.Test.YtekmcoflagajkaaDoorPkAw
import Derived.Test.YtekmcoflagajkaaDoorPakC
namespace Go.Proofs.YtekmcoflagajkaaDoor
open Go.RowKit

theorem packS_two (b : Bool) (l : List Int) : ∃ (s : ByteArray) (n : Int), packS b l = .tuple #[.string s, .int .i64 n] := by
  cases b <;> exact ⟨_, _, rfl⟩

set_option maxRecDepth 100000 in
set_option maxHeartbeats 16000000 in
theorem same_any (vars dom m b : Int) (ac : Option Addr) (nc capc : Nat) (t : List (List Ins)) (ah : Option Addr) (nh caph : Nat) (th : List Thr) (am : Option Addr) (nm capm : Nat) (mem : List Int) (bad : Bool) (s : ByteArray) (w : World)
    (hc : ThsIn w (In_ w) ac nc capc t) (hh : ThrIn w (In_ w) ah nh caph th) (hm : IntIn w (In_ w) am nm capm mem) (hbuf : ∀ x ∈ th, x.buf.length ≤ 1000) (hth : th.length ≤ 1000) (hml : mem.length ≤ 1000)
    (hs : s.size ≤ 100000) (wv : (Lit.int .i64 vars).wf = true) :
    Calls Tryd.prog 6 #[.agg #[.int .i64 vars, .int .i64 dom, .slice ac nc capc], .agg #[.int .i64 m, .int .i64 b], .agg #[.slice ah nh caph, .slice am nm capm, .bool bad], .string s] w
      fun e w' => e = .returned (.bool true) ∧ Below w.heap.size w w' := by
  obtain ⟨W0, hW⟩ : ∃ W0, W0 = ((w.alloc (.cells #[.int .i64 vars, .int .i64 dom, .slice ac nc capc] 24)).alloc (.cells #[.int .i64 m, .int .i64 b] 26)).alloc (.cells #[.slice ah nh caph, .slice am nm capm, .bool bad] 30) := ⟨_, rfl⟩
  have hB : Below w.heap.size w W0 := by subst hW; exact (((Below.refl _ _).alloc (Nat.le_refl _) _).alloc (by simp) _).alloc (by simp; omega) _
  have z2 : w.heap.size + 1 + 1 < W0.heap.size := by subst hW; simp
  have z1 : w.heap.size + 1 < W0.heap.size := by omega
  have z0 : w.heap.size < W0.heap.size := by omega
  have c0 : W0.cell? ⟨w.heap.size, 0, none⟩ = some (.int .i64 vars) := by subst hW; go_simp
  have c1 : W0.cell? ⟨w.heap.size, 1, none⟩ = some (.int .i64 dom) := by subst hW; go_simp
  have c2 : W0.cell? ⟨w.heap.size, 2, none⟩ = some (.slice ac nc capc) := by subst hW; go_simp
  have m0 : W0.cell? ⟨w.heap.size + 1, 0, none⟩ = some (.int .i64 m) := by subst hW; go_simp
  have m1 : W0.cell? ⟨w.heap.size + 1, 1, none⟩ = some (.int .i64 b) := by subst hW; go_simp
  have s0 : W0.cell? ⟨w.heap.size + 1 + 1, 0, none⟩ = some (.slice ah nh caph) := by subst hW; go_simp
  have s1 : W0.cell? ⟨w.heap.size + 1 + 1, 1, none⟩ = some (.slice am nm capm) := by subst hW; go_simp
  have s2 : W0.cell? ⟨w.heap.size + 1 + 1, 2, none⟩ = some (.bool bad) := by subst hW; go_simp
  obtain ⟨S, n, hp⟩ := packS_two (fitsL vars dom t m b th mem) (packB th mem bad)
  have hpk : Hid (Calls Tryd.prog 9 #[.agg #[.int .i64 vars, .int .i64 dom, .slice ac nc capc], .agg #[.int .i64 m, .int .i64 b], .agg #[.slice ah nh caph, .slice am nm capm, .bool bad]] W0
      fun e w' => e = .returned (.tuple #[.string S, .int .i64 n]) ∧ Below W0.heap.size W0 w') := by
    have h := pack_any vars dom m b ac nc capc t ah nh caph th am nm capm mem bad W0 ((Kp.of hB).ths hc) ((Kp.of hB).thr hh) ((Kp.of hB).ints hm) hbuf hth hml
    rw [hp] at h
    exact h
  have hrp : Hid (∀ W, Kp W0 W → Calls Tryd.prog 12 #[.agg #[.int .i64 vars, .int .i64 dom, .slice ac nc capc], .agg #[.int .i64 m, .int .i64 b], .agg #[.slice ah nh caph, .slice am nm capm, .bool bad]] W
      fun e w' => e = .returned (.tuple #[.string S, .int .i64 n]) ∧ Below W.heap.size W w') := fun W hK => by
    have h := refPack_any vars dom m b ac nc capc t ah nh caph th am nm capm mem bad W (hK.ths ((Kp.of hB).ths hc)) (hK.thr ((Kp.of hB).thr hh)) (hK.ints ((Kp.of hB).ints hm)) hbuf hth hml
    rw [hp] at h
    exact h
  obtain ⟨⟨⟨bd, me, te⟩, er⟩, hr⟩ : ∃ r, r = unpS vars dom t m b (bytL s) := ⟨_, rfl⟩
  have hun : Hid (∀ W, Kp W0 W → Calls Tryd.prog 10 #[.agg #[.int .i64 vars, .int .i64 dom, .slice ac nc capc], .agg #[.int .i64 m, .int .i64 b], .string s] W (UnpPost W ((bd, me, te), er))) := fun W hK => by
    have h := unpack_any vars dom m b ac nc capc t s W (hK.ths ((Kp.of hB).ths hc)) hs wv
    rw [← hr] at h
    exact h
  have hru : Hid (∀ W, Kp W0 W → Calls Tryd.prog 13 #[.agg #[.int .i64 vars, .int .i64 dom, .slice ac nc capc], .agg #[.int .i64 m, .int .i64 b], .string s] W (UnpPost W ((bd, me, te), er))) := fun W hK => by
    have h := refUnpack_any vars dom m b ac nc capc t s W (hK.ths ((Kp.of hB).ths hc)) hs wv
    rw [← hr] at h
    exact h
  have HB := hid hB
  have hWx := hid hW
  have hz0 := hB.size
  clear hW hB hc hh hm hbuf hth hml hs wv hr hp
  go_enter Tryd.func6, Tryd.ntmps6
  go_wp2_with fail
  rw [← hWx.out]
  go_wp2_with fail
  refine hpk.out.mono ?_
  rintro e w1 ⟨rfl, hb1⟩
  have hk1 : Kp W0 w1 := Kp.of hb1
  have HK1 := hid hk1
  clear hb1 hpk
  go_wp2_with fail
  refine (hrp.out _ HK1.out).mono ?_
  rintro e w2 ⟨rfl, hb2⟩
  have hk2 := HK1.out.next hb2
  have HK2 := hid hk2
  clear hb2 hk1 hrp
  go_wp2_with fail
  refine (hun.out _ HK2.out).mono ?_
  rintro e w3 ⟨a3, p3, b3, q3, rfl, hh3, hm3, hb3⟩
  have hk3 := HK2.out.next hb3
  have HK3 := hid hk3
  have x0 : w.heap.size < w3.heap.size := by have := hk3.1.size; omega
  have x1 : w.heap.size + 1 < w3.heap.size := by have := hk3.1.size; omega
  have Hh3 := hid hh3
  have Hm3 := hid hm3
  clear hb3 hk2 hun hh3 hm3
  go_wp2_with fail
  generalize hV : World.alloc w3 _ = V
  have hkV : Kp W0 V := by rw [← hV]; exact HK3.out.alloc _
  have HKV := hid hkV
  have hzV : V.heap.size = w3.heap.size + 1 := by rw [← hV]; simp
  have u0 : V.cell? ⟨w3.heap.size, 0, none⟩ = some (.slice a3 te.length p3) := by subst hV; go_simp
  have u1 : V.cell? ⟨w3.heap.size, 1, none⟩ = some (.slice b3 me.length q3) := by subst hV; go_simp
  have u2 : V.cell? ⟨w3.heap.size, 2, none⟩ = some (.bool bd) := by subst hV; go_simp
  have i0 : w.heap.size < V.heap.size := by have := hkV.1.size; omega
  have i1 : w.heap.size + 1 < V.heap.size := by have := hkV.1.size; omega
  have hk3V : Hid (Kp w3 V) := by rw [← hV]; exact (Kp.refl w3).alloc _
  clear hV hk3
  go_wp2_with fail
  refine (hru.out _ HKV.out).mono ?_
  rintro e w4 ⟨a4, p4, b4, q4, rfl, hh4, hm4, hb4⟩
  have hk4 := HKV.out.next hb4
  have HK4 := hid hk4
  have HB4 := hid hb4
  have hz4 := hb4.size
  have e0 : w3.heap.size < w4.heap.size := by omega
  have Hh4 := hid hh4
  have Hm4 := hid hm4
  have k0 : w4.cell? ⟨w3.heap.size, 0, none⟩ = some (.slice a3 te.length p3) := ((Kp.of HB4.out).2 _ _ (by omega)).trans u0
  have k1 : w4.cell? ⟨w3.heap.size, 1, none⟩ = some (.slice b3 me.length q3) := ((Kp.of HB4.out).2 _ _ (by omega)).trans u1
  have k2 : w4.cell? ⟨w3.heap.size, 2, none⟩ = some (.bool bd) := ((Kp.of HB4.out).2 _ _ (by omega)).trans u2
  clear hb4 hkV hru hh4 hm4
  go_wp2_with fail
  generalize hY : World.alloc w4 _ = Y
  have hkY : Kp W0 Y := by rw [← hY]; exact HK4.out.alloc _
  have HKY := hid hkY
  have hzY : Y.heap.size = w4.heap.size + 1 := by rw [← hY]; simp
  have v0 : Y.cell? ⟨w4.heap.size, 0, none⟩ = some (.slice a4 te.length p4) := by subst hY; go_simp
  have v1 : Y.cell? ⟨w4.heap.size, 1, none⟩ = some (.slice b4 me.length q4) := by subst hY; go_simp
  have v2 : Y.cell? ⟨w4.heap.size, 2, none⟩ = some (.bool bd) := by subst hY; go_simp
  have j0 : w.heap.size < Y.heap.size := by have := hkY.1.size; omega
  have j1 : w.heap.size + 1 < Y.heap.size := by have := hkY.1.size; omega
  have hk4Y : Hid (Kp w4 Y) := by rw [← hY]; exact (Kp.refl w4).alloc _
  have hkVY : Hid (Kp V Y) := by rw [← hY]; exact (Kp.of HB4.out).alloc _
  clear hY hk4
  have y0 : Y.cell? ⟨w3.heap.size, 0, none⟩ = some (.slice a3 te.length p3) := (hkVY.out.2 _ _ (by omega)).trans u0
  have y1 : Y.cell? ⟨w3.heap.size, 1, none⟩ = some (.slice b3 me.length q3) := (hkVY.out.2 _ _ (by omega)).trans u1
  have y2 : Y.cell? ⟨w3.heap.size, 2, none⟩ = some (.bool bd) := (hkVY.out.2 _ _ (by omega)).trans u2
  clear u0 u1 u2
  have hsame : Hid (Calls Tryd.prog 11 #[.agg #[.slice a3 te.length p3, .slice b3 me.length q3, .bool bd], .agg #[.slice a4 te.length p4, .slice b4 me.length q4, .bool bd]] Y fun e w' => e = .returned (.bool true) ∧ Below Y.heap.size Y w') :=
    stSame_eq a3 a4 p3 p4 te b3 b4 q3 q4 me bd Y ((hk3V.out.next HB4.out |>.next hk4Y.out.1).thr Hh3.out) ((hk3V.out.next HB4.out |>.next hk4Y.out.1).ints Hm3.out) (hk4Y.out.thr Hh4.out) (hk4Y.out.ints Hm4.out)
  have hfin : Hid (Below w.heap.size w Y) := HB.out.trans (HKY.out.1.mono hz0)
  have hzf := hfin.out.size
  clear Hh3 Hm3 Hh4 Hm4
  go_wp2_with fail
  refine hsame.out.mono ?_
  rintro e wf ⟨rfl, hbf⟩
  have hF := hid (hfin.out.trans (hbf.mono hzf))
  clear hbf hsame
  go_wp2_with fail
  go_ret
  exact ⟨rfl, hF.out⟩
end Go.Proofs.YtekmcoflagajkaaDoor
