/- TreeAny, walked. -/
import Derived.Test.YtphlbbnmligadaaGreatDoorBunO
import Derived.Test.YtphlbbnmligadaaGreatDoorBunF
namespace Go.Proofs.YtphlbbnmligadaaGreatDoor
open Go.RowKit

set_option maxRecDepth 100000 in
set_option maxHeartbeats 16000000 in
theorem treeAny_walk (p q : Pg) (x : Ex) (cs ds us : List Value) (w : World) (hv : Lx.Vars w) (hp : PgIn w (In_ w) cs p) (hq : PgIn w (In_ w) ds q) (hx : ExIn w (In_ w) us x) (rp : p.ths.length ≤ 140737488355328) (rq : q.ths.length ≤ 140737488355328) :
    Calls Tryz.prog 5 #[.agg cs.toArray, .agg ds.toArray, .agg us.toArray] w fun e w' => e = .returned (.bool true) ∧ Below w.heap.size w w' := by
  obtain ⟨u0, u1, u2, u3, rfl⟩ := hx.four
  have hp0 := hp
  have hq0 := hq
  obtain ⟨va, cv, ta, ct, rfl, -, -, -⟩ := hp
  obtain ⟨vb, cw, tb, cu, rfl, -, -, -⟩ := hq
  obtain ⟨W0, hW⟩ : ∃ W0, W0 = ((w.alloc (.cells #[.slice va p.vars.length cv, .int .i64 p.dom, .slice ta p.ths.length ct] 27)).alloc (.cells #[.slice vb q.vars.length cw, .int .i64 q.dom, .slice tb q.ths.length cu] 27)).alloc (.cells #[u0, u1, u2, u3] 44) := ⟨_, rfl⟩
  have hB : Below w.heap.size w W0 := by subst hW; exact (((Below.refl _ _).alloc (Nat.le_refl _) _).alloc (by simp) _).alloc (by simp; omega) _
  have z2 : w.heap.size + 1 + 1 < W0.heap.size := by subst hW; simp
  have z1 : w.heap.size + 1 < W0.heap.size := by omega
  have z0 : w.heap.size < W0.heap.size := by omega
  have c0 : W0.cell? ⟨w.heap.size, 0, none⟩ = some (.slice va p.vars.length cv) := by subst hW; go_simp
  have c1 : W0.cell? ⟨w.heap.size, 1, none⟩ = some (.int .i64 p.dom) := by subst hW; go_simp
  have c2 : W0.cell? ⟨w.heap.size, 2, none⟩ = some (.slice ta p.ths.length ct) := by subst hW; go_simp
  have d0 : W0.cell? ⟨w.heap.size + 1, 0, none⟩ = some (.slice vb q.vars.length cw) := by subst hW; go_simp
  have d1 : W0.cell? ⟨w.heap.size + 1, 1, none⟩ = some (.int .i64 q.dom) := by subst hW; go_simp
  have d2 : W0.cell? ⟨w.heap.size + 1, 2, none⟩ = some (.slice tb q.ths.length cu) := by subst hW; go_simp
  have e0 : W0.cell? ⟨w.heap.size + 1 + 1, 0, none⟩ = some u0 := by subst hW; go_simp
  have e1 : W0.cell? ⟨w.heap.size + 1 + 1, 1, none⟩ = some u1 := by subst hW; go_simp
  have e2 : W0.cell? ⟨w.heap.size + 1 + 1, 2, none⟩ = some u2 := by subst hW; go_simp
  have e3 : W0.cell? ⟨w.heap.size + 1 + 1, 3, none⟩ = some u3 := by subst hW; go_simp
  have hK0 : Kp w W0 := Kp.of hB
  have hP := hK0.pg hp0
  have hQ := hK0.pg hq0
  have hX := hK0.ex hx
  have h1 : Hid (∀ W, Kp W0 W → Calls Tryz.prog 18 #[.agg #[.slice va p.vars.length cv, .int .i64 p.dom, .slice ta p.ths.length ct], .int .i64 2000] W (SomeB W)) := fun W hW => fewP_any p _ W (hW.pg hP) rp
  have h2 : Hid (∀ W, Kp W0 W → Calls Tryz.prog 18 #[.agg #[.slice vb q.vars.length cw, .int .i64 q.dom, .slice tb q.ths.length cu], .int .i64 2000] W (SomeB W)) := fun W hW => fewP_any q _ W (hW.pg hQ) rq
  have h3 : Hid (∀ W, Kp W0 W → Calls Tryz.prog 19 #[.agg #[u0, u1, u2, u3], .int .i64 2000] W fun e w' => ∃ r : Int, e = .returned (.int .i64 r) ∧ (-1 ≤ r ∨ r = 2000) ∧ r ≤ 2000 ∧ Below W.heap.size W w') := fun W hW => big_any x 2000 [u0, u1, u2, u3] W (by decide) (by decide) (hW.ex hX)
  have h4 : Hid (∀ W, Kp W0 W → Calls Tryz.prog 20 #[.agg #[.slice va p.vars.length cv, .int .i64 p.dom, .slice ta p.ths.length ct], .agg #[.slice vb q.vars.length cw, .int .i64 q.dom, .slice tb q.ths.length cu], .agg #[u0, u1, u2, u3]] W fun e w' => e = .returned (.bool true) ∧ Below W.heap.size W w') := fun W hW => same_any p q x _ _ [u0, u1, u2, u3] W (hW.pg hP) (hW.pg hQ) (hW.ex hX)
  have hv0 := hid (hv.next hB)
  have HB := hid hB
  have hWx := hid hW
  clear hW hB hp0 hq0 hx hK0 hP hQ hX hv rp rq
  generalize p.vars.length = n1 at *
  generalize p.ths.length = n2 at *
  generalize p.dom = n3 at *
  generalize q.vars.length = n4 at *
  generalize q.ths.length = n5 at *
  generalize q.dom = n6 at *
  go_enter Tryz.func5, Tryz.ntmps5
  go_wp2_with fail
  rw [← hWx.out]
  clear hWx
  go_wp2_with fail
  refine (awake_any W0 hv0.out).mono ?_
  rintro e w1 ⟨rfl, hb1⟩
  have hk1 : Kp W0 w1 := Kp.of hb1
  have HK1 := hid hk1
  have s0 : w.heap.size < w1.heap.size := Nat.lt_of_lt_of_le z0 hb1.size
  clear hb1
  go_wp2_with fail
  refine (h1.out _ HK1.out).mono ?_
  rintro e w2 ⟨b1, rfl, hb2⟩
  have hk2 : Kp W0 w2 := HK1.out.next hb2
  have HK2 := hid hk2
  have s1 : w.heap.size + 1 < w2.heap.size := Nat.lt_of_lt_of_le z1 hk2.1.size
  clear hb2 hk1
  cases b1
  · go_wp2_with fail
    go_ret
    exact ⟨rfl, Kp.fin HB.out HK2.out⟩
  go_wp2_with fail
  refine (h2.out _ HK2.out).mono ?_
  rintro e w3 ⟨b2, rfl, hb3⟩
  have hk3 : Kp W0 w3 := HK2.out.next hb3
  have HK3 := hid hk3
  have s2 : w.heap.size + 1 + 1 < w3.heap.size := Nat.lt_of_lt_of_le z2 hk3.1.size
  clear hb3 hk2
  cases b2
  · go_wp2_with fail
    go_ret
    exact ⟨rfl, Kp.fin HB.out HK3.out⟩
  go_wp2_with fail
  refine (h3.out _ HK3.out).mono ?_
  rintro e w4 ⟨r, rfl, -, -, hb4⟩
  have hk4 : Kp W0 w4 := HK3.out.next hb4
  have HK4 := hid hk4
  have s3 : w.heap.size < w4.heap.size := Nat.lt_of_lt_of_le z0 hk4.1.size
  have s4 : w.heap.size + 1 < w4.heap.size := Nat.lt_of_lt_of_le z1 hk4.1.size
  have s5 : w.heap.size + 1 + 1 < w4.heap.size := Nat.lt_of_lt_of_le z2 hk4.1.size
  clear hb4 hk3
  by_cases hr : r < 0
  · go_wp2_with fail
    go_ret
    exact ⟨rfl, Kp.fin HB.out HK4.out⟩
  go_wp2_with fail
  refine (h4.out _ HK4.out).mono ?_
  rintro e w5 ⟨rfl, hb5⟩
  have HK5 := hid (HK4.out.next hb5)
  clear hb5
  go_wp2_with fail
  go_ret
  exact ⟨rfl, Kp.fin HB.out HK5.out⟩
end Go.Proofs.YtphlbbnmligadaaGreatDoor
