/- CodeAny, walked. -/
import Derived.Test.YtcgpobeidlimkaaGreatDoorBunF
import Derived.Test.YtcgpobeidlimkaaGreatDoorBunQ
import Derived.Test.YtcgpobeidlimkaaGreatDoorBunA
namespace Go.Proofs.YtcgpobeidlimkaaGreatDoor
open Go.RowKit

def cmV (p : Pg) : Int := if rightP p then p.vars.length else 0
def cmD (p : Pg) : Int := if rightP p then p.dom else 0
def cmX (p : Pg) : List (List Ins) := if rightP p then cmpT p.ths else []
def cmE (p : Pg) : Int := if rightP p then 0 else 1
theorem CmpPost.any {p : Pg} {w w' : World} {e : Ending} (h : CmpPost p w e w') : ∃ a cap, e = .returned (.tuple #[.agg #[.int .i64 (cmV p), .int .i64 (cmD p), .slice a (cmX p).length cap], .int .i64 (cmE p)]) ∧ ThsIn w' (In_ w') a (cmX p).length cap (cmX p) ∧ Below w.heap.size w w' := by
  unfold cmV cmD cmX cmE
  cases hr : rightP p
  · obtain ⟨a, cap, he, ht, hb⟩ := h.no hr
    exact ⟨a, cap, he, ht, hb⟩
  · obtain ⟨a, cap, he, ht, hb⟩ := h.ok hr
    exact ⟨a, cap, he, ht, hb⟩

set_option maxRecDepth 100000 in
set_option maxHeartbeats 4000000 in
theorem codeAny_walk (p : Pg) (cs : List Value) (w : World) (hin : PgIn w (In_ w) cs p) (rt : p.ths.length ≤ 140737488355328) :
    Calls Tryz.prog 3 #[.agg cs.toArray] w fun e w' => e = .returned (.bool true) ∧ Below w.heap.size w w' := by
  have hin0 := hin
  obtain ⟨va, cv, ta, ct, rfl, -, -, -⟩ := hin
  generalize hW : w.alloc (.cells #[.slice va p.vars.length cv, .int .i64 p.dom, .slice ta p.ths.length ct] 25) = W0
  have hB : Below w.heap.size w W0 := by subst hW; exact (Below.refl _ _).alloc (Nat.le_refl _) _
  have z0 : w.heap.size < W0.heap.size := by subst hW; simp
  have c0 : W0.cell? ⟨w.heap.size, 0, none⟩ = some (.slice va p.vars.length cv) := by subst hW; go_simp
  have c1 : W0.cell? ⟨w.heap.size, 1, none⟩ = some (.int .i64 p.dom) := by subst hW; go_simp
  have c2 : W0.cell? ⟨w.heap.size, 2, none⟩ = some (.slice ta p.ths.length ct) := by subst hW; go_simp
  have hP := (Kp.of hB).pg hin0
  have h1 := hid (fun W => awake_any W)
  have h2 := hid (fewP_any p _ W0 hP rt)
  have h3 : Hid (∀ W, Kp W0 W → Calls Tryz.prog 11 #[.agg #[.slice va p.vars.length cv, .int .i64 p.dom, .slice ta p.ths.length ct]] W (CmpPost p W)) := fun W hW => pCompile_any p _ W (hW.pg hP)
  have h4 : Hid (∀ W, Kp W0 W → Calls Tryz.prog 12 #[.agg #[.slice va p.vars.length cv, .int .i64 p.dom, .slice ta p.ths.length ct]] W (CmpPost p W)) := fun W hW => rCompile_any p _ W (hW.pg hP)
  have HB := hid hB
  have hWx := hid hW
  clear hW hB hin0 hP
  generalize hX : cmX p = X
  have hany := hid (fun w w' e (h : CmpPost p w e w') => h.any)
  rw [hX] at hany
  generalize cmV p = V at *
  generalize cmD p = D at *
  generalize cmE p = E at *
  generalize p.vars.length = nv at *
  generalize p.ths.length = nt at *
  generalize p.dom = dom at *
  clear hX
  go_enter Tryz.func3, Tryz.ntmps3
  go_wp2_with fail
  rw [hWx.out]
  refine h2.out.mono ?_
  rintro e w1 ⟨b, rfl, hb1⟩
  have hK1 : Kp W0 w1 := Kp.of hb1
  have z1 : w.heap.size < w1.heap.size := Nat.lt_of_lt_of_le z0 hb1.size
  clear hb1
  cases b
  · go_wp2_with fail
    refine (h1.out w1).mono ?_
    rintro e w2 ⟨rfl, hb2⟩
    go_wp2_with fail
    go_ret
    exact ⟨rfl, Kp.fin HB.out (hK1.next hb2)⟩
  go_wp2_with fail
  refine (h3.out w1 hK1).mono ?_
  intro e w2 hp2
  obtain ⟨a2, k2, rfl, hT2, hb2⟩ := hany.out _ _ _ hp2
  have hK2 : Kp W0 w2 := hK1.next hb2
  have z2 : w.heap.size < w2.heap.size := Nat.lt_of_lt_of_le z1 hb2.size
  have HT2 := hid hT2
  clear hb2 hp2 hT2
  go_wp2_with fail
  generalize hV3 : World.alloc w2 _ = W3
  have hB3 : Below w2.heap.size w2 W3 := by subst hV3; exact (Below.refl _ _).alloc (Nat.le_refl _) _
  have y0 : W3.cell? ⟨w2.heap.size, 0, none⟩ = some (.int .i64 V) := by subst hV3; go_simp
  have y1 : W3.cell? ⟨w2.heap.size, 1, none⟩ = some (.int .i64 D) := by subst hV3; go_simp
  have y2 : W3.cell? ⟨w2.heap.size, 2, none⟩ = some (.slice a2 X.length k2) := by subst hV3; go_simp
  have z3 : w2.heap.size < W3.heap.size := by subst hV3; simp
  have hK3 : Kp W0 W3 := hK2.next hB3
  have HT3 := hid ((Kp.of hB3).ths HT2.out)
  clear hV3 hB3 HT2
  refine (h4.out W3 hK3).mono ?_
  intro e w4 hp4
  obtain ⟨a4, k4, rfl, hT4, hb4⟩ := hany.out _ _ _ hp4
  have hK4 : Kp W0 w4 := hK3.next hb4
  have z4 : w2.heap.size < w4.heap.size := Nat.lt_of_lt_of_le z3 hb4.size
  have HT4 := hid hT4
  have HT3' := hid ((Kp.of hb4).ths HT3.out)
  have x0 := (hb4.cell (p := ⟨w2.heap.size, 0, none⟩) z3).trans y0
  have x1 := (hb4.cell (p := ⟨w2.heap.size, 1, none⟩) z3).trans y1
  have x2 := (hb4.cell (p := ⟨w2.heap.size, 2, none⟩) z3).trans y2
  clear hb4 hp4 hT4 y0 y1 y2 HT3
  generalize hV5 : w4.alloc (.cells #[.int .i64 V, .int .i64 D, .slice a4 X.length k4] 30) = W5
  have hB5 : Below w4.heap.size w4 W5 := by subst hV5; exact (Below.refl _ _).alloc (Nat.le_refl _) _
  have y0 : W5.cell? ⟨w4.heap.size, 0, none⟩ = some (.int .i64 V) := by subst hV5; go_simp
  have y1 : W5.cell? ⟨w4.heap.size, 1, none⟩ = some (.int .i64 D) := by subst hV5; go_simp
  have y2 : W5.cell? ⟨w4.heap.size, 2, none⟩ = some (.slice a4 X.length k4) := by subst hV5; go_simp
  have z5 : w4.heap.size < W5.heap.size := by subst hV5; simp
  have g0 := (hB5.cell (p := ⟨w2.heap.size, 0, none⟩) z4).trans x0
  have g1 := (hB5.cell (p := ⟨w2.heap.size, 1, none⟩) z4).trans x1
  have g2 := (hB5.cell (p := ⟨w2.heap.size, 2, none⟩) z4).trans x2
  have z6 : w2.heap.size < W5.heap.size := by omega
  have hK5 : Kp W0 W5 := hK4.next hB5
  have HK5 := hid hK5
  have HS : Hid (∀ W, Kp W5 W → Calls Tryz.prog 13 #[.agg #[.int .i64 V, .int .i64 D, .slice a2 X.length k2], .agg #[.int .i64 V, .int .i64 D, .slice a4 X.length k4]] W fun e w' => e = .returned (.bool true) ∧ Below W.heap.size W w') := fun W hW =>
    sameC_any V D a2 k2 a4 k4 X W (hW.ths ((Kp.of hB5).ths HT3'.out)) (hW.ths ((Kp.of hB5).ths HT4.out))
  have hV5x := hid hV5
  clear hV5 hB5 x0 x1 x2 HT3' HT4
  go_upto_region 5 with fail
  rw [hV5x.out]
  go_wp2_with (first
    | (go_at_call 10
       with_reducible refine (h1.out W5).mono ?_
       rintro e w7 ⟨rfl, hb7⟩
       have hK7 : Kp W5 w7 := Kp.of hb7
       have s7 := hb7.size
       have n0 := (hK7.2 w2.heap.size 0 z6).trans g0
       have n1 := (hK7.2 w2.heap.size 1 z6).trans g1
       have n2 := (hK7.2 w2.heap.size 2 z6).trans g2
       have m0 := (hK7.2 w4.heap.size 0 z5).trans y0
       have m1 := (hK7.2 w4.heap.size 1 z5).trans y1
       have m2 := (hK7.2 w4.heap.size 2 z5).trans y2
       have s8 : w2.heap.size < w7.heap.size := by omega
       have s9 : w4.heap.size < w7.heap.size := by omega
       clear hb7)
    | (go_at_call 13
       with_reducible refine (HS.out _ hK7).mono ?_
       rintro e w8 ⟨rfl, hb8⟩
       have HK8 := hid (Kp.next hK7 hb8)
       clear hb8)
    | fail)
  go_ret
  exact ⟨rfl, Kp.fin (Kp.fin HB.out HK5.out) HK8.out⟩
end Go.Proofs.YtcgpobeidlimkaaGreatDoor
