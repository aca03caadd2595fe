/- The program's word on whether two statements are the same. -/
import Derived.Test.YtphlbbnmligadaaGreatDoorSmV
namespace Go.Proofs.YtphlbbnmligadaaGreatDoor
open Go.RowKit

def PSaL (l : List St) : Prop := ∀ (l' : List St) (a : Option Addr) (cap : Nat) (a' : Option Addr) (cap' : Nat) (w : World), StRow w (In_ w) a l.length cap l → StRow w (In_ w) a' l'.length cap' l' →
  Calls Tryz.prog 33 #[.slice a l.length cap, .slice a' l'.length cap'] w fun e w' => e = .returned (.bool (eqW eqS l l')) ∧ Below w.heap.size w w'
set_option maxRecDepth 100000 in
set_option maxHeartbeats 8000000 in
theorem psamL_of (l : List St) (ih : ∀ x, x ∈ l → PSaS x) : PSaL l := by
  intro l' a cap a' cap' w hin hin'
  have hcall := hid (eqFunS l l' ih a a' cap cap' w hin hin')
  clear hin hin' ih
  generalize eqW eqS l l' = bw at *
  go_enter Tryz.func33, Tryz.ntmps33
  go_wp2_with (first
    | (go_at_call 57
       with_reducible refine hcall.out.mono ?_
       rintro e w1 ⟨rfl, hb1⟩
       have HB1 := hid hb1
       clear hb1)
    | fail)
  go_ret
  exact ⟨rfl, HB1.out⟩

set_option maxRecDepth 100000 in
set_option maxHeartbeats 16000000 in
theorem psamS_step (k r v : Int) (xa xb : Ex) (t e : List St) (iht : PSaL t) (ihe : PSaL e) : PSaS (.mk k r v xa xb t e) := by
  intro y cs ds w hin hin2
  obtain ⟨k', r', v', ya, yb, t', e'⟩ := y
  have hres := eqS_eq (.mk k r v xa xb t e) (.mk k' r' v' ya yb t' e')
  simp only [St.kind, St.reg, St.var, St.a, St.b, St.t, St.e] at hres
  obtain ⟨u0, u1, u2, u3, v0, v1, v2, v3, ta, ea, tc, ec, rfl, ha, hb, ht, he⟩ := hin.open_
  obtain ⟨s0, s1, s2, s3, t0, t1, t2, t3, ta', ea', tc', ec', rfl, ha', hb', ht', he'⟩ := hin2.open_
  have ones1 := ha.ones
  have ones2 := hb.ones
  have ones3 := ha'.ones
  have ones4 := hb'.ones
  generalize hW : (w.alloc (.cells #[.int .i64 k, .int .i64 r, .int .i64 v, u0, u1, u2, u3, v0, v1, v2, v3, .slice ta t.length tc, .slice ea e.length ec] 56)).alloc (.cells #[.int .i64 k', .int .i64 r', .int .i64 v', s0, s1, s2, s3, t0, t1, t2, t3, .slice ta' t'.length tc', .slice ea' e'.length ec'] 56) = W0
  have hB : Below w.heap.size w W0 := by subst hW; exact ((Below.refl _ _).alloc (Nat.le_refl _) _).alloc (by simp) _
  have z1 : w.heap.size + 1 < W0.heap.size := by subst hW; simp
  have z0 : w.heap.size < W0.heap.size := by omega
  have HKB : Kp w W0 := Kp.of hB
  have c7 : W0.cell? ⟨w.heap.size, 7, none⟩ = some (v0) := by subst hW; go_simp
  have d7 : W0.cell? ⟨w.heap.size + 1, 7, none⟩ = some (t0) := by subst hW; go_simp
  have c8 : W0.cell? ⟨w.heap.size, 8, none⟩ = some (v1) := by subst hW; go_simp
  have d8 : W0.cell? ⟨w.heap.size + 1, 8, none⟩ = some (t1) := by subst hW; go_simp
  have c9 : W0.cell? ⟨w.heap.size, 9, none⟩ = some (v2) := by subst hW; go_simp
  have d9 : W0.cell? ⟨w.heap.size + 1, 9, none⟩ = some (t2) := by subst hW; go_simp
  have c10 : W0.cell? ⟨w.heap.size, 10, none⟩ = some (v3) := by subst hW; go_simp
  have d10 : W0.cell? ⟨w.heap.size + 1, 10, none⟩ = some (t3) := by subst hW; go_simp
  have c11 : W0.cell? ⟨w.heap.size, 11, none⟩ = some (.slice ta t.length tc) := by subst hW; go_simp
  have d11 : W0.cell? ⟨w.heap.size + 1, 11, none⟩ = some (.slice ta' t'.length tc') := by subst hW; go_simp
  have c12 : W0.cell? ⟨w.heap.size, 12, none⟩ = some (.slice ea e.length ec) := by subst hW; go_simp
  have d12 : W0.cell? ⟨w.heap.size + 1, 12, none⟩ = some (.slice ea' e'.length ec') := by subst hW; go_simp
  have hca : Hid (∀ W, Kp w W → Calls Tryz.prog 101 #[.agg #[u0, u1, u2, u3], .agg #[s0, s1, s2, s3]] W fun e w' => e = .returned (.bool (eqE xa ya)) ∧ Below W.heap.size W w') := fun W hW => psamE_any _ _ [u0, u1, u2, u3] [s0, s1, s2, s3] W (hW.ex ha) (hW.ex ha')
  have hcb : Hid (∀ W, Kp w W → Calls Tryz.prog 101 #[.agg #[v0, v1, v2, v3], .agg #[t0, t1, t2, t3]] W fun e w' => e = .returned (.bool (eqE xb yb)) ∧ Below W.heap.size W w') := fun W hW => psamE_any _ _ [v0, v1, v2, v3] [t0, t1, t2, t3] W (hW.ex hb) (hW.ex hb')
  have hct : Hid (∀ W, Kp w W → Calls Tryz.prog 33 #[.slice ta t.length tc, .slice ta' t'.length tc'] W fun e w' => e = .returned (.bool (eqW eqS t t')) ∧ Below W.heap.size W w') := fun W hW => iht _ _ _ _ _ W (hW.strow ht) (hW.strow ht')
  have hce : Hid (∀ W, Kp w W → Calls Tryz.prog 33 #[.slice ea e.length ec, .slice ea' e'.length ec'] W fun f w' => f = .returned (.bool (eqW eqS e e')) ∧ Below W.heap.size W w') := fun W hW => ihe _ _ _ _ _ W (hW.strow he) (hW.strow he')
  obtain ⟨p0, p1, p2, p3⟩ := ones1
  obtain ⟨p4, p5, p6, p7⟩ := ones2
  obtain ⟨p8, p9, p10, p11⟩ := ones3
  obtain ⟨p12, p13, p14, p15⟩ := ones4
  clear ha hb ha' hb' ht he ht' he' hin hin2 iht ihe
  have r0 := fun ad W m => run_store (P := Tryz.prog) W ad u0 m p0
  have r1 := fun ad W m => run_store (P := Tryz.prog) W ad u1 m p1
  have r2 := fun ad W m => run_store (P := Tryz.prog) W ad u2 m p2
  have r3 := fun ad W m => run_store (P := Tryz.prog) W ad u3 m p3
  have r4 := fun ad W m => run_store (P := Tryz.prog) W ad v0 m p4
  have r5 := fun ad W m => run_store (P := Tryz.prog) W ad v1 m p5
  have r6 := fun ad W m => run_store (P := Tryz.prog) W ad v2 m p6
  have r7 := fun ad W m => run_store (P := Tryz.prog) W ad v3 m p7
  have r8 := fun ad W m => run_store (P := Tryz.prog) W ad s0 m p8
  have r9 := fun ad W m => run_store (P := Tryz.prog) W ad s1 m p9
  have r10 := fun ad W m => run_store (P := Tryz.prog) W ad s2 m p10
  have r11 := fun ad W m => run_store (P := Tryz.prog) W ad s3 m p11
  have r12 := fun ad W m => run_store (P := Tryz.prog) W ad t0 m p12
  have r13 := fun ad W m => run_store (P := Tryz.prog) W ad t1 m p13
  have r14 := fun ad W m => run_store (P := Tryz.prog) W ad t2 m p14
  have r15 := fun ad W m => run_store (P := Tryz.prog) W ad t3 m p15
  clear p0 p1 p2 p3 p4 p5 p6 p7 p8 p9 p10 p11 p12 p13 p14 p15
  generalize eqS (.mk k r v xa xb t e) (.mk k' r' v' ya yb t' e') = bq at *
  generalize eqE xa ya = ba at *
  generalize eqE xb yb = bb at *
  generalize eqW eqS t t' = bt at *
  generalize eqW eqS e e' = be at *
  generalize t.length = n1 at *
  generalize e.length = n2 at *
  generalize t'.length = n3 at *
  generalize e'.length = n4 at *
  have HB := hid hB
  have HKc := hid HKB
  have hWx := hid hW
  have hcond := hid hres
  clear hW hB hres HKB
  go_enter Tryz.func58, Tryz.ntmps58
  cases e1 : (k == k')
  · have hf := hid (show bq = false by rw [hcond.out, e1] <;> simp)
    go_wp2_with fail
    rw [hWx.out]
    go_ret
    exact ⟨ret_bool (by rw [hf.out]), HB.out⟩
  cases e2 : (r == r')
  · have hf := hid (show bq = false by rw [hcond.out, e1, e2] <;> simp)
    go_wp2_with fail
    rw [hWx.out]
    go_ret
    exact ⟨ret_bool (by rw [hf.out]), HB.out⟩
  cases e3 : (v == v')
  · have hf := hid (show bq = false by rw [hcond.out, e1, e2, e3] <;> simp)
    go_wp2_with fail
    rw [hWx.out]
    go_ret
    exact ⟨ret_bool (by rw [hf.out]), HB.out⟩
  have hcond2 : Hid (bq = (ba && bb && bt && be)) := by show _ = _; rw [hcond.out, e1, e2, e3]; simp
  clear hcond
  cases ba
  · have hf := hid (show bq = false by rw [hcond2.out]; simp)
    clear hcond2
    go_wp2_with (first
      | (go_at_call 101
         rw [hWx.out]
         with_reducible refine (hca.out _ HKc.out).mono ?_
         rintro e w5 ⟨rfl, hb⟩
         have HK5 := hid (HKc.out.next hb)
         have c7w5 := (hb.cell (p := ⟨w.heap.size, 7, none⟩) z0).trans c7
         have d7w5 := (hb.cell (p := ⟨w.heap.size + 1, 7, none⟩) z1).trans d7
         have c8w5 := (hb.cell (p := ⟨w.heap.size, 8, none⟩) z0).trans c8
         have d8w5 := (hb.cell (p := ⟨w.heap.size + 1, 8, none⟩) z1).trans d8
         have c9w5 := (hb.cell (p := ⟨w.heap.size, 9, none⟩) z0).trans c9
         have d9w5 := (hb.cell (p := ⟨w.heap.size + 1, 9, none⟩) z1).trans d9
         have c10w5 := (hb.cell (p := ⟨w.heap.size, 10, none⟩) z0).trans c10
         have d10w5 := (hb.cell (p := ⟨w.heap.size + 1, 10, none⟩) z1).trans d10
         have c11w5 := (hb.cell (p := ⟨w.heap.size, 11, none⟩) z0).trans c11
         have d11w5 := (hb.cell (p := ⟨w.heap.size + 1, 11, none⟩) z1).trans d11
         have c12w5 := (hb.cell (p := ⟨w.heap.size, 12, none⟩) z0).trans c12
         have d12w5 := (hb.cell (p := ⟨w.heap.size + 1, 12, none⟩) z1).trans d12
         have z0xw5 := Nat.lt_of_lt_of_le z0 hb.size
         have z1xw5 := Nat.lt_of_lt_of_le z1 hb.size
         clear hb)
      | fail)
    go_ret
    exact ⟨ret_bool (by rw [hf.out]), HK5.out.1⟩
  cases bb
  · have hf := hid (show bq = false by rw [hcond2.out]; simp)
    clear hcond2
    go_wp2_with (first
      | (go_at_call 101
         rw [hWx.out]
         with_reducible refine (hca.out _ HKc.out).mono ?_
         rintro e w5 ⟨rfl, hb⟩
         have HK5 := hid (HKc.out.next hb)
         have c7w5 := (hb.cell (p := ⟨w.heap.size, 7, none⟩) z0).trans c7
         have d7w5 := (hb.cell (p := ⟨w.heap.size + 1, 7, none⟩) z1).trans d7
         have c8w5 := (hb.cell (p := ⟨w.heap.size, 8, none⟩) z0).trans c8
         have d8w5 := (hb.cell (p := ⟨w.heap.size + 1, 8, none⟩) z1).trans d8
         have c9w5 := (hb.cell (p := ⟨w.heap.size, 9, none⟩) z0).trans c9
         have d9w5 := (hb.cell (p := ⟨w.heap.size + 1, 9, none⟩) z1).trans d9
         have c10w5 := (hb.cell (p := ⟨w.heap.size, 10, none⟩) z0).trans c10
         have d10w5 := (hb.cell (p := ⟨w.heap.size + 1, 10, none⟩) z1).trans d10
         have c11w5 := (hb.cell (p := ⟨w.heap.size, 11, none⟩) z0).trans c11
         have d11w5 := (hb.cell (p := ⟨w.heap.size + 1, 11, none⟩) z1).trans d11
         have c12w5 := (hb.cell (p := ⟨w.heap.size, 12, none⟩) z0).trans c12
         have d12w5 := (hb.cell (p := ⟨w.heap.size + 1, 12, none⟩) z1).trans d12
         have z0xw5 := Nat.lt_of_lt_of_le z0 hb.size
         have z1xw5 := Nat.lt_of_lt_of_le z1 hb.size
         clear hb)
      | (go_at_call 101
         with_reducible refine (hcb.out _ HK5.out).mono ?_
         rintro e w6 ⟨rfl, hb⟩
         have HK6 := hid (HK5.out.next hb)
         have c11w6 := (hb.cell (p := ⟨w.heap.size, 11, none⟩) z0xw5).trans c11w5
         have d11w6 := (hb.cell (p := ⟨w.heap.size + 1, 11, none⟩) z1xw5).trans d11w5
         have c12w6 := (hb.cell (p := ⟨w.heap.size, 12, none⟩) z0xw5).trans c12w5
         have d12w6 := (hb.cell (p := ⟨w.heap.size + 1, 12, none⟩) z1xw5).trans d12w5
         have z0xw6 := Nat.lt_of_lt_of_le z0xw5 hb.size
         have z1xw6 := Nat.lt_of_lt_of_le z1xw5 hb.size
         clear hb)
      | fail)
    go_ret
    exact ⟨ret_bool (by rw [hf.out]), HK6.out.1⟩
  cases bt
  · have hf := hid (show bq = false by rw [hcond2.out]; simp)
    clear hcond2
    go_wp2_with (first
      | (go_at_call 101
         rw [hWx.out]
         with_reducible refine (hca.out _ HKc.out).mono ?_
         rintro e w5 ⟨rfl, hb⟩
         have HK5 := hid (HKc.out.next hb)
         have c7w5 := (hb.cell (p := ⟨w.heap.size, 7, none⟩) z0).trans c7
         have d7w5 := (hb.cell (p := ⟨w.heap.size + 1, 7, none⟩) z1).trans d7
         have c8w5 := (hb.cell (p := ⟨w.heap.size, 8, none⟩) z0).trans c8
         have d8w5 := (hb.cell (p := ⟨w.heap.size + 1, 8, none⟩) z1).trans d8
         have c9w5 := (hb.cell (p := ⟨w.heap.size, 9, none⟩) z0).trans c9
         have d9w5 := (hb.cell (p := ⟨w.heap.size + 1, 9, none⟩) z1).trans d9
         have c10w5 := (hb.cell (p := ⟨w.heap.size, 10, none⟩) z0).trans c10
         have d10w5 := (hb.cell (p := ⟨w.heap.size + 1, 10, none⟩) z1).trans d10
         have c11w5 := (hb.cell (p := ⟨w.heap.size, 11, none⟩) z0).trans c11
         have d11w5 := (hb.cell (p := ⟨w.heap.size + 1, 11, none⟩) z1).trans d11
         have c12w5 := (hb.cell (p := ⟨w.heap.size, 12, none⟩) z0).trans c12
         have d12w5 := (hb.cell (p := ⟨w.heap.size + 1, 12, none⟩) z1).trans d12
         have z0xw5 := Nat.lt_of_lt_of_le z0 hb.size
         have z1xw5 := Nat.lt_of_lt_of_le z1 hb.size
         clear hb)
      | (go_at_call 101
         with_reducible refine (hcb.out _ HK5.out).mono ?_
         rintro e w6 ⟨rfl, hb⟩
         have HK6 := hid (HK5.out.next hb)
         have c11w6 := (hb.cell (p := ⟨w.heap.size, 11, none⟩) z0xw5).trans c11w5
         have d11w6 := (hb.cell (p := ⟨w.heap.size + 1, 11, none⟩) z1xw5).trans d11w5
         have c12w6 := (hb.cell (p := ⟨w.heap.size, 12, none⟩) z0xw5).trans c12w5
         have d12w6 := (hb.cell (p := ⟨w.heap.size + 1, 12, none⟩) z1xw5).trans d12w5
         have z0xw6 := Nat.lt_of_lt_of_le z0xw5 hb.size
         have z1xw6 := Nat.lt_of_lt_of_le z1xw5 hb.size
         clear hb)
      | (go_at_call 33
         with_reducible refine (hct.out _ HK6.out).mono ?_
         rintro e w7 ⟨rfl, hb⟩
         have HK7 := hid (HK6.out.next hb)
         have c12w7 := (hb.cell (p := ⟨w.heap.size, 12, none⟩) z0xw6).trans c12w6
         have d12w7 := (hb.cell (p := ⟨w.heap.size + 1, 12, none⟩) z1xw6).trans d12w6
         have z0xw7 := Nat.lt_of_lt_of_le z0xw6 hb.size
         have z1xw7 := Nat.lt_of_lt_of_le z1xw6 hb.size
         clear hb)
      | fail)
    go_ret
    exact ⟨ret_bool (by rw [hf.out]), HK7.out.1⟩
  cases be
  · have hf := hid (show bq = false by rw [hcond2.out]; simp)
    clear hcond2
    go_wp2_with (first
      | (go_at_call 101
         rw [hWx.out]
         with_reducible refine (hca.out _ HKc.out).mono ?_
         rintro e w5 ⟨rfl, hb⟩
         have HK5 := hid (HKc.out.next hb)
         have c7w5 := (hb.cell (p := ⟨w.heap.size, 7, none⟩) z0).trans c7
         have d7w5 := (hb.cell (p := ⟨w.heap.size + 1, 7, none⟩) z1).trans d7
         have c8w5 := (hb.cell (p := ⟨w.heap.size, 8, none⟩) z0).trans c8
         have d8w5 := (hb.cell (p := ⟨w.heap.size + 1, 8, none⟩) z1).trans d8
         have c9w5 := (hb.cell (p := ⟨w.heap.size, 9, none⟩) z0).trans c9
         have d9w5 := (hb.cell (p := ⟨w.heap.size + 1, 9, none⟩) z1).trans d9
         have c10w5 := (hb.cell (p := ⟨w.heap.size, 10, none⟩) z0).trans c10
         have d10w5 := (hb.cell (p := ⟨w.heap.size + 1, 10, none⟩) z1).trans d10
         have c11w5 := (hb.cell (p := ⟨w.heap.size, 11, none⟩) z0).trans c11
         have d11w5 := (hb.cell (p := ⟨w.heap.size + 1, 11, none⟩) z1).trans d11
         have c12w5 := (hb.cell (p := ⟨w.heap.size, 12, none⟩) z0).trans c12
         have d12w5 := (hb.cell (p := ⟨w.heap.size + 1, 12, none⟩) z1).trans d12
         have z0xw5 := Nat.lt_of_lt_of_le z0 hb.size
         have z1xw5 := Nat.lt_of_lt_of_le z1 hb.size
         clear hb)
      | (go_at_call 101
         with_reducible refine (hcb.out _ HK5.out).mono ?_
         rintro e w6 ⟨rfl, hb⟩
         have HK6 := hid (HK5.out.next hb)
         have c11w6 := (hb.cell (p := ⟨w.heap.size, 11, none⟩) z0xw5).trans c11w5
         have d11w6 := (hb.cell (p := ⟨w.heap.size + 1, 11, none⟩) z1xw5).trans d11w5
         have c12w6 := (hb.cell (p := ⟨w.heap.size, 12, none⟩) z0xw5).trans c12w5
         have d12w6 := (hb.cell (p := ⟨w.heap.size + 1, 12, none⟩) z1xw5).trans d12w5
         have z0xw6 := Nat.lt_of_lt_of_le z0xw5 hb.size
         have z1xw6 := Nat.lt_of_lt_of_le z1xw5 hb.size
         clear hb)
      | (go_at_call 33
         with_reducible refine (hct.out _ HK6.out).mono ?_
         rintro e w7 ⟨rfl, hb⟩
         have HK7 := hid (HK6.out.next hb)
         have c12w7 := (hb.cell (p := ⟨w.heap.size, 12, none⟩) z0xw6).trans c12w6
         have d12w7 := (hb.cell (p := ⟨w.heap.size + 1, 12, none⟩) z1xw6).trans d12w6
         have z0xw7 := Nat.lt_of_lt_of_le z0xw6 hb.size
         have z1xw7 := Nat.lt_of_lt_of_le z1xw6 hb.size
         clear hb)
      | (go_at_call 33
         with_reducible refine (hce.out _ HK7.out).mono ?_
         rintro e w8 ⟨rfl, hb⟩
         have HK8 := hid (HK7.out.next hb)
         clear hb)
      | fail)
    go_ret
    exact ⟨ret_bool (by rw [hf.out]), HK8.out.1⟩
  have hg := hid (show bq = true by rw [hcond2.out]; rfl)
  clear hcond2
  go_wp2_with (first
    | (go_at_call 101
       rw [hWx.out]
       with_reducible refine (hca.out _ HKc.out).mono ?_
       rintro e w5 ⟨rfl, hb⟩
       have HK5 := hid (HKc.out.next hb)
       have c7w5 := (hb.cell (p := ⟨w.heap.size, 7, none⟩) z0).trans c7
       have d7w5 := (hb.cell (p := ⟨w.heap.size + 1, 7, none⟩) z1).trans d7
       have c8w5 := (hb.cell (p := ⟨w.heap.size, 8, none⟩) z0).trans c8
       have d8w5 := (hb.cell (p := ⟨w.heap.size + 1, 8, none⟩) z1).trans d8
       have c9w5 := (hb.cell (p := ⟨w.heap.size, 9, none⟩) z0).trans c9
       have d9w5 := (hb.cell (p := ⟨w.heap.size + 1, 9, none⟩) z1).trans d9
       have c10w5 := (hb.cell (p := ⟨w.heap.size, 10, none⟩) z0).trans c10
       have d10w5 := (hb.cell (p := ⟨w.heap.size + 1, 10, none⟩) z1).trans d10
       have c11w5 := (hb.cell (p := ⟨w.heap.size, 11, none⟩) z0).trans c11
       have d11w5 := (hb.cell (p := ⟨w.heap.size + 1, 11, none⟩) z1).trans d11
       have c12w5 := (hb.cell (p := ⟨w.heap.size, 12, none⟩) z0).trans c12
       have d12w5 := (hb.cell (p := ⟨w.heap.size + 1, 12, none⟩) z1).trans d12
       have z0xw5 := Nat.lt_of_lt_of_le z0 hb.size
       have z1xw5 := Nat.lt_of_lt_of_le z1 hb.size
       clear hb)
    | (go_at_call 101
       with_reducible refine (hcb.out _ HK5.out).mono ?_
       rintro e w6 ⟨rfl, hb⟩
       have HK6 := hid (HK5.out.next hb)
       have c11w6 := (hb.cell (p := ⟨w.heap.size, 11, none⟩) z0xw5).trans c11w5
       have d11w6 := (hb.cell (p := ⟨w.heap.size + 1, 11, none⟩) z1xw5).trans d11w5
       have c12w6 := (hb.cell (p := ⟨w.heap.size, 12, none⟩) z0xw5).trans c12w5
       have d12w6 := (hb.cell (p := ⟨w.heap.size + 1, 12, none⟩) z1xw5).trans d12w5
       have z0xw6 := Nat.lt_of_lt_of_le z0xw5 hb.size
       have z1xw6 := Nat.lt_of_lt_of_le z1xw5 hb.size
       clear hb)
    | (go_at_call 33
       with_reducible refine (hct.out _ HK6.out).mono ?_
       rintro e w7 ⟨rfl, hb⟩
       have HK7 := hid (HK6.out.next hb)
       have c12w7 := (hb.cell (p := ⟨w.heap.size, 12, none⟩) z0xw6).trans c12w6
       have d12w7 := (hb.cell (p := ⟨w.heap.size + 1, 12, none⟩) z1xw6).trans d12w6
       have z0xw7 := Nat.lt_of_lt_of_le z0xw6 hb.size
       have z1xw7 := Nat.lt_of_lt_of_le z1xw6 hb.size
       clear hb)
    | (go_at_call 33
       with_reducible refine (hce.out _ HK7.out).mono ?_
       rintro e w8 ⟨rfl, hb⟩
       have HK8 := hid (HK7.out.next hb)
       clear hb)
    | fail)
  go_ret
  exact ⟨ret_bool (by rw [hg.out]), HK8.out.1⟩
theorem psamS_any (x : St) : PSaS x := by
  induction x using St.ind with
  | h k r v a b t e iht ihe => exact psamS_step k r v a b t e (psamL_of t iht) (psamL_of e ihe)
theorem psamL_any (l : List St) : PSaL l := psamL_of l fun x _ => psamS_any x
end Go.Proofs.YtphlbbnmligadaaGreatDoor
