/- TreeMade, walked. -/
import Derived.Test.YtphlbbnmligadaaGreatDoorBunX
import Derived.Test.YtphlbbnmligadaaGreatDoorBunO
namespace Go.Proofs.YtphlbbnmligadaaGreatDoor
open Go.RowKit

set_option maxRecDepth 100000 in
set_option maxHeartbeats 16000000 in
theorem treeMade_walk (la : Option Addr) (ln lc : Nat) (ma : Option Addr) (mn mc : Nat) (w : World) (hv : Lx.Vars w) (hl : U8s w (In_ w) la ln lc) (hm : U8s w (In_ w) ma mn mc) :
    Calls Tryz.prog 6 #[.slice la ln lc, .slice ma mn mc] w fun e w' => e = .returned (.bool true) ∧ Below w.heap.size w w' := by
  have Hl := hid hl
  have Hm := hid hm
  have HV := hid hv
  clear hl hm hv
  go_enter Tryz.func6, Tryz.ntmps6
  go_wp2_with fail
  refine (kinds_any w).mono ?_
  rintro e w1 ⟨rfl, hK1, hb1⟩
  have HK1 := hid (Kp.of hb1)
  have hl1 : U8s w1 (In_ w1) la ln lc := (Hl.out.keep fun b o hb => HK1.out.2 b o hb).widen (In_.mono hb1.size)
  have hmade := hid (madeP_any w1 la ln lc _ 13 13 hl1 hK1)
  clear hl1 hK1 hb1
  go_wp2_with fail
  refine hmade.out.mono ?_
  intro e w2 hp2
  obtain ⟨p, cs, rfl, hP, hright, -, -, -, hb2⟩ := hp2.right
  have hP0 := hP
  obtain ⟨va, cv, ta, ct, rfl, -, -, -⟩ := hP
  have HK2 := hid (HK1.out.next hb2)
  have HP2 := hid hP0
  have Hright := hid hright
  clear hp2 hb2 hmade hP0 hright
  go_wp2_with fail
  refine (kinds_any w2).mono ?_
  rintro e w3 ⟨rfl, hK3, hb3⟩
  have HK3 := hid (HK2.out.next hb3)
  have HP3 := hid ((Kp.of hb3).pg HP2.out)
  have hm3 : U8s w3 (In_ w3) ma mn mc := (Hm.out.keep fun b o hb => HK3.out.2 b o hb).widen (In_.mono HK3.out.1.size)
  have hmade := hid (madeP_any w3 ma mn mc _ 13 13 hm3 hK3)
  clear hm3 hK3 hb3 HP2
  go_wp2_with fail
  refine hmade.out.mono ?_
  intro e w4 hp4
  obtain ⟨q, ds, rfl, hQ, -, -, -, -, hb4⟩ := hp4.right
  have hQ0 := hQ
  obtain ⟨vb, cw, tb, cu, rfl, -, -, -⟩ := hQ
  have HK4 := hid (HK3.out.next hb4)
  have hP4 := (Kp.of hb4).pg HP3.out
  clear hp4 hb4 hmade
  obtain ⟨W0, hW⟩ : ∃ W0, W0 = (w4.alloc (.cells #[.slice va p.vars.length cv, .int .i64 p.dom, .slice ta p.ths.length ct] 27)).alloc (.cells #[.slice vb q.vars.length cw, .int .i64 q.dom, .slice tb q.ths.length cu] 27) := ⟨_, rfl⟩
  have hB : Below w4.heap.size w4 W0 := by subst hW; exact ((Below.refl _ _).alloc (Nat.le_refl _) _).alloc (by simp) _
  have z1 : w4.heap.size + 1 < W0.heap.size := by subst hW; simp
  have z0 : w4.heap.size < W0.heap.size := by omega
  have c0 : W0.cell? ⟨w4.heap.size, 0, none⟩ = some (.slice va p.vars.length cv) := by subst hW; go_simp
  have c1 : W0.cell? ⟨w4.heap.size, 1, none⟩ = some (.int .i64 p.dom) := by subst hW; go_simp
  have c2 : W0.cell? ⟨w4.heap.size, 2, none⟩ = some (.slice ta p.ths.length ct) := by subst hW; go_simp
  have d0 : W0.cell? ⟨w4.heap.size + 1, 0, none⟩ = some (.slice vb q.vars.length cw) := by subst hW; go_simp
  have d1 : W0.cell? ⟨w4.heap.size + 1, 1, none⟩ = some (.int .i64 q.dom) := by subst hW; go_simp
  have d2 : W0.cell? ⟨w4.heap.size + 1, 2, none⟩ = some (.slice tb q.ths.length cu) := by subst hW; go_simp
  have hPx := (Kp.of hB).pg hP4
  have hQx := (Kp.of hB).pg hQ0
  have hX0 : ∀ W : World, ExIn W (In_ W) [.int .i64 0, .int .i64 0, .int .u8 0, .slice none 0 0] exZ := fun W => ExIn.leaf _ _ 0 0 0 (by decide) (by decide) (by decide)
  have hX1 : ∀ W : World, ExIn W (In_ W) [.int .i64 1, .int .i64 1, .int .u8 0, .slice none 0 0] (.mk 1 1 0 []) := fun W => ExIn.leaf _ _ 1 1 0 (by decide) (by decide) (by decide)
  have h1 : Hid (∀ W, Kp W0 W → Calls Tryz.prog 20 #[.agg #[.slice va p.vars.length cv, .int .i64 p.dom, .slice ta p.ths.length ct], .agg #[.slice vb q.vars.length cw, .int .i64 q.dom, .slice tb q.ths.length cu], .agg #[.int .i64 0, .int .i64 0, .int .u8 0, .slice none 0 0]] W fun e w' => e = .returned (.bool true) ∧ Below W.heap.size W w') := fun W hW => same_any p q exZ _ _ _ W (hW.pg hPx) (hW.pg hQx) (hX0 W)
  have h2 : Hid (∀ W, Kp W0 W → Calls Tryz.prog 20 #[.agg #[.slice va p.vars.length cv, .int .i64 p.dom, .slice ta p.ths.length ct], .agg #[.slice va p.vars.length cv, .int .i64 p.dom, .slice ta p.ths.length ct], .agg #[.int .i64 1, .int .i64 1, .int .u8 0, .slice none 0 0]] W fun e w' => e = .returned (.bool true) ∧ Below W.heap.size W w') := fun W hW => same_any p p (.mk 1 1 0 []) _ _ _ W (hW.pg hPx) (hW.pg hPx) (hX1 W)
  have h3 : Hid (∀ W, Kp W0 W → Calls Tryz.prog 22 #[.agg #[.slice va p.vars.length cv, .int .i64 p.dom, .slice ta p.ths.length ct]] W fun e w' => e = .returned (.bool true) ∧ Below W.heap.size W w') := fun W hW => by
    have h := pRight_any p _ W (hW.pg hPx); rw [Hright.out] at h; exact h
  have h4 : Hid (∀ W, Kp W0 W → Calls Tryz.prog 9 #[] W fun e w' => e = .returned (.bool true) ∧ Below W.heap.size W w') := fun W hW => awake_any W ((HV.out.next HK4.out.1).next hB |>.next hW.1)
  have HB := hid (HK4.out.next hB)
  have hWx := hid hW
  clear hW hB hP4 hQ0 hPx hQx hX0 hX1 HP3 HV Hl Hm HK1 HK2 HK3 HK4
  generalize p.vars.length = n1 at *
  generalize p.ths.length = n2 at *
  generalize p.dom = n3 at *
  generalize q.vars.length = n4 at *
  generalize q.ths.length = n5 at *
  generalize q.dom = n6 at *
  go_upto_region 2 with fail
  rw [← hWx.out]
  clear hWx
  have hk0 : Kp W0 W0 := Kp.refl _
  go_region_held3 (Kp W0)
    (first | exact Kp.drew hk0 | assumption)
    (first
      | (go_at_call 9
         with_reducible refine (h4.out _ ?_).mono ?_
         (focus assumption)
         rintro e w5 ⟨rfl, hb5⟩
         have hk5 : Kp W0 w5 := Kp.next (by assumption) hb5)
      | (go_at_call 21
         with_reducible refine (num_any 1 _).mono ?_
         rintro e w6 ⟨rfl, hb6⟩
         have hk6 : Kp W0 w6 := Kp.next (by assumption) hb6)
      | (go_at_call 20
         with_reducible refine (h1.out _ ?_).mono ?_
         (focus assumption)
         rintro e w7 ⟨rfl, hb7⟩
         have hk7 : Kp W0 w7 := Kp.next (by assumption) hb7)
      | (go_at_call 20
         with_reducible refine (h2.out _ ?_).mono ?_
         (focus assumption)
         rintro e w8 ⟨rfl, hb8⟩
         have hk8 : Kp W0 w8 := Kp.next (by assumption) hb8)
      | (go_at_call 22
         with_reducible refine (h3.out _ ?_).mono ?_
         (focus assumption)
         rintro e w9 ⟨rfl, hb9⟩
         have hk9 : Kp W0 w9 := Kp.next (by assumption) hb9)
      | fail)
  all_goals
    go_wp2_with fail
    go_ret
    exact ⟨rfl, Kp.fin HB.out.1 hk9⟩
end Go.Proofs.YtphlbbnmligadaaGreatDoor
