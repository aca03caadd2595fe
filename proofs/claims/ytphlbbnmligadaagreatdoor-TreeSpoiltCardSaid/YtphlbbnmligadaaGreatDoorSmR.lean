/- The document's word on whether statements are the same. -/
import Derived.Test.YtphlbbnmligadaaGreatDoorBunI
import Derived.Test.YtphlbbnmligadaaGreatDoorSamE
import Derived.Test.YtphlbbnmligadaaGreatDoorBunM
import Derived.BigQuiet
import Derived.Deep.QuietTactic
import Derived.Deep.CutRange
namespace Go.Proofs.YtphlbbnmligadaaGreatDoor
open Go.RowKit

/-- A statement's cells in a block of its own. -/
structure BxS (w : World) (b : Nat) (x0 x1 x2 u0 u1 u2 u3 v0 v1 v2 v3 x11 x12 : Value) : Prop where
  lt : b < w.heap.size
  c0 : w.cell? ⟨b, 0, none⟩ = some x0
  c1 : w.cell? ⟨b, 1, none⟩ = some x1
  c2 : w.cell? ⟨b, 2, none⟩ = some x2
  c3 : w.cell? ⟨b, 3, none⟩ = some u0
  c4 : w.cell? ⟨b, 4, none⟩ = some u1
  c5 : w.cell? ⟨b, 5, none⟩ = some u2
  c6 : w.cell? ⟨b, 6, none⟩ = some u3
  c7 : w.cell? ⟨b, 7, none⟩ = some v0
  c8 : w.cell? ⟨b, 8, none⟩ = some v1
  c9 : w.cell? ⟨b, 9, none⟩ = some v2
  c10 : w.cell? ⟨b, 10, none⟩ = some v3
  c11 : w.cell? ⟨b, 11, none⟩ = some x11
  c12 : w.cell? ⟨b, 12, none⟩ = some x12
def TwoS (W0 : World) (A B : World → Nat → Prop) (v7 v8 : Value) (wx : World) : Prop :=
  ∃ b7 b8, v7 = .pointer (some ⟨b7, 0, none⟩) ∧ v8 = .pointer (some ⟨b8, 0, none⟩) ∧ A wx b7 ∧ B wx b8 ∧ Kp W0 wx

theorem twoS_a {W0 w : World} {T T' : TypeId} {x0 x1 x2 u0 u1 u2 u3 v0 v1 v2 v3 x11 x12 y0 y1 y2 s0 s1 s2 s3 t0 t1 t2 t3 y11 y12 : Value} (hK : Kp W0 w) :
    TwoS W0 (fun W b => BxS W b x0 x1 x2 u0 u1 u2 u3 v0 v1 v2 v3 x11 x12) (fun W b => BxS W b y0 y1 y2 s0 s1 s2 s3 t0 t1 t2 t3 y11 y12) (.pointer (some ⟨w.heap.size, 0, none⟩)) (.pointer (some ⟨w.heap.size + 1, 0, none⟩))
      (((w.alloc (.cells #[x0, x1, x2, u0, u1, u2, u3, v0, v1, v2, v3, x11, x12] T)).alloc (.cells #[y0, y1, y2, s0, s1, s2, s3, t0, t1, t2, t3, y11, y12] T')).drew) :=
  ⟨_, _, rfl, rfl, ⟨by simp; omega, by go_simp, by go_simp, by go_simp, by go_simp, by go_simp, by go_simp, by go_simp, by go_simp, by go_simp, by go_simp, by go_simp, by go_simp, by go_simp⟩,
    ⟨by simp, by go_simp, by go_simp, by go_simp, by go_simp, by go_simp, by go_simp, by go_simp, by go_simp, by go_simp, by go_simp, by go_simp, by go_simp, by go_simp⟩, ((hK.alloc _).alloc _).drew⟩
theorem twoS_b {W0 w : World} {T T' : TypeId} {x0 x1 x2 u0 u1 u2 u3 v0 v1 v2 v3 x11 x12 y0 y1 y2 s0 s1 s2 s3 t0 t1 t2 t3 y11 y12 : Value} (hK : Kp W0 w) :
    TwoS W0 (fun W b => BxS W b x0 x1 x2 u0 u1 u2 u3 v0 v1 v2 v3 x11 x12) (fun W b => BxS W b y0 y1 y2 s0 s1 s2 s3 t0 t1 t2 t3 y11 y12) (.pointer (some ⟨w.heap.size + 1, 0, none⟩)) (.pointer (some ⟨w.heap.size, 0, none⟩))
      (((w.alloc (.cells #[y0, y1, y2, s0, s1, s2, s3, t0, t1, t2, t3, y11, y12] T')).alloc (.cells #[x0, x1, x2, u0, u1, u2, u3, v0, v1, v2, v3, x11, x12] T)).drew) :=
  ⟨_, _, rfl, rfl, ⟨by simp, by go_simp, by go_simp, by go_simp, by go_simp, by go_simp, by go_simp, by go_simp, by go_simp, by go_simp, by go_simp, by go_simp, by go_simp, by go_simp⟩,
    ⟨by simp; omega, by go_simp, by go_simp, by go_simp, by go_simp, by go_simp, by go_simp, by go_simp, by go_simp, by go_simp, by go_simp, by go_simp, by go_simp, by go_simp⟩, ((hK.alloc _).alloc _).drew⟩

def SamL (l : List St) : Prop := ∀ (l' : List St) (a : Option Addr) (cap : Nat) (a' : Option Addr) (cap' : Nat) (w : World), StRow w (In_ w) a l.length cap l → StRow w (In_ w) a' l'.length cap' l' →
  Calls Tryz.prog 67 #[.slice a l.length cap, .slice a' l'.length cap'] w fun e w' => e = .returned (.bool (eqW eqS l l')) ∧ Below w.heap.size w w'

set_option maxRecDepth 100000 in
set_option maxHeartbeats 16000000 in
theorem samL_step (l : List St) (ih : ∀ x, x ∈ l → SamL x.t ∧ SamL x.e) : SamL l := by
  intro l' a cap a' cap' w hin hin'
  have hle := hin.le
  have hmx := hin.mx
  have hle' := hin'.le
  have hmx' := hin'.mx
  unfold maxLen at hmx hmx'
  have Hin := hid hin
  have Hin' := hid hin'
  have Hih := hid ih
  clear hin hin' ih
  go_enter Tryz.func67, Tryz.ntmps67
  by_cases hl : l.length = l'.length
  case neg =>
    have e4 : ((l.length : Int) != l'.length) = true := by simpa using fun e => hl (by omega)
    go_wp2_with fail
    go_ret
    exact ⟨ret_bool (by rw [eqW_ne _ hl]), Below.refl _ _⟩
  have e4 : ((l.length : Int) != l'.length) = false := by rw [hl]; simp
  have Hl := hid hl
  clear hl
  go_wp2_with fail
  clear e4
  go_loopw [5] (fun i wr => ∃ q : Nat, q ≤ l.length ∧ i = .int .i64 q ∧ Hid (∀ i (h1 : i < l.length) (h2 : i < l'.length), i < q → eqS l[i] l'[i] = true) ∧ Kp w wr) (fun i _ => l.length - (intOf i).toNat)
  case atStart => exact ⟨0, Nat.zero_le _, rfl, fun i _ _ h => absurd h (by omega), Kp.refl _⟩
  case round =>
    obtain ⟨q, hq, rfl, hI, hK⟩ := hrel
    have g0 := hK.1.size
    by_cases hlt : q < l.length
    case neg =>
      obtain rfl : q = l.length := by omega
      have hf : Hid (eqW eqS l l' = true) := eqW_of eqS Hl.out fun i h1 h2 => hI.out i h1 h2 h1
      clear hI
      go_wp2_with fail
      go_ret
      exact ⟨ret_bool (by rw [hf.out]), hK.1⟩
    have hlt' : q < l'.length := by have := Hl.out; omega
    obtain ⟨b, o1, u0, u1, u2, u3, v0, v1, v2, v3, ta, ea, tc, ec, rfl, hb, ⟨f0, f1, f2⟩, ⟨f3, f4, f5, f6⟩, ⟨f7, f8, f9, f10⟩, ⟨f11, f12⟩, ⟨ha, hbx, ht, he⟩, -⟩ := Hin.out.at_ q hlt
    obtain ⟨b', o1', s0, s1, s2, s3, t0, t1, t2, t3, ta', ea', tc', ec', rfl, hb', ⟨h0, h1, h2⟩, ⟨h3, h4, h5, h6⟩, ⟨h7, h8, h9, h10⟩, ⟨h11, h12⟩, ⟨ha', hbx', ht', he'⟩, -⟩ := Hin'.out.at_ q hlt'
    have hb2 := hb.lt
    have hb2' := hb'.lt
    have q0 : (0 : Int) ≤ q := by omega
    have q1 : (q : Int) < l.length := by omega
    have q2 : (q : Int) < l'.length := by omega
    have i3 : b < wr.heap.size := by omega
    have i3' : b' < wr.heap.size := by omega
    have hbad := hid (fun h => eqW_bad eqS q hlt hlt' h)
    have hgood : Hid (eqS l[q] l'[q] = true → ∀ i (h1 : i < l.length) (h2 : i < l'.length), i < q + 1 → eqS l[i] l'[i] = true) := fun h i h1 h2 hi => by
      by_cases e : i = q
      · subst e; exact h
      · exact hI.out i h1 h2 (by omega)
    have hcond := hid (eqS_eq l[q] l'[q])
    clear hI
    have hca : Hid (∀ W, Kp w W → Calls Tryz.prog 109 #[.agg #[u0, u1, u2, u3], .agg #[s0, s1, s2, s3]] W fun e w' => e = .returned (.bool (eqE l[q].a l'[q].a)) ∧ Below W.heap.size W w') := fun W hW => samE_any _ _ [u0, u1, u2, u3] [s0, s1, s2, s3] W (hW.ex ha) (hW.ex ha')
    have hcb : Hid (∀ W, Kp w W → Calls Tryz.prog 109 #[.agg #[v0, v1, v2, v3], .agg #[t0, t1, t2, t3]] W fun e w' => e = .returned (.bool (eqE l[q].b l'[q].b)) ∧ Below W.heap.size W w') := fun W hW => samE_any _ _ [v0, v1, v2, v3] [t0, t1, t2, t3] W (hW.ex hbx) (hW.ex hbx')
    have hct : Hid (∀ W, Kp w W → Calls Tryz.prog 67 #[.slice ta l[q].t.length tc, .slice ta' l'[q].t.length tc'] W fun e w' => e = .returned (.bool (eqW eqS l[q].t l'[q].t)) ∧ Below W.heap.size W w') := fun W hW => (Hih.out _ (List.getElem_mem hlt)).1 _ _ _ _ _ W (hW.strow ht) (hW.strow ht')
    have hce : Hid (∀ W, Kp w W → Calls Tryz.prog 67 #[.slice ea l[q].e.length ec, .slice ea' l'[q].e.length ec'] W fun e w' => e = .returned (.bool (eqW eqS l[q].e l'[q].e)) ∧ Below W.heap.size W w') := fun W hW => (Hih.out _ (List.getElem_mem hlt)).2 _ _ _ _ _ W (hW.strow he) (hW.strow he')
    obtain ⟨p0, p1, p2, p3⟩ := ha.ones
    obtain ⟨p4, p5, p6, p7⟩ := hbx.ones
    obtain ⟨p8, p9, p10, p11⟩ := ha'.ones
    obtain ⟨p12, p13, p14, p15⟩ := hbx'.ones
    clear ha hbx ha' hbx' ht he ht' he'
    have r0 := fun ad W m => run_store (P := Tryz.prog) W ad u0 m p0
    have r1 := fun ad W m => run_store (P := Tryz.prog) W ad u1 m p1
    have r2 := fun ad W m => run_store (P := Tryz.prog) W ad u2 m p2
    have r3 := fun ad W m => run_store (P := Tryz.prog) W ad u3 m p3
    have r4 := fun ad W m => run_store (P := Tryz.prog) W ad v0 m p4
    have r5 := fun ad W m => run_store (P := Tryz.prog) W ad v1 m p5
    have r6 := fun ad W m => run_store (P := Tryz.prog) W ad v2 m p6
    have r7 := fun ad W m => run_store (P := Tryz.prog) W ad v3 m p7
    have r8 := fun ad W m => run_store (P := Tryz.prog) W ad s0 m p8
    have r9 := fun ad W m => run_store (P := Tryz.prog) W ad s1 m p9
    have r10 := fun ad W m => run_store (P := Tryz.prog) W ad s2 m p10
    have r11 := fun ad W m => run_store (P := Tryz.prog) W ad s3 m p11
    have r12 := fun ad W m => run_store (P := Tryz.prog) W ad t0 m p12
    have r13 := fun ad W m => run_store (P := Tryz.prog) W ad t1 m p13
    have r14 := fun ad W m => run_store (P := Tryz.prog) W ad t2 m p14
    have r15 := fun ad W m => run_store (P := Tryz.prog) W ad t3 m p15
    clear p0 p1 p2 p3 p4 p5 p6 p7 p8 p9 p10 p11 p12 p13 p14 p15
    generalize eqE l[q].a l'[q].a = ba at *
    generalize eqE l[q].b l'[q].b = bb at *
    generalize eqW eqS l[q].t l'[q].t = bt at *
    generalize eqW eqS l[q].e l'[q].e = be at *
    generalize eqS l[q] l'[q] = bq at *
    generalize l[q].kind = xk at *
    generalize l[q].reg = xr at *
    generalize l[q].var = xv at *
    generalize l[q].t.length = xt at *
    generalize l[q].e.length = xe at *
    generalize l'[q].kind = yk at *
    generalize l'[q].reg = yr at *
    generalize l'[q].var = yv at *
    generalize l'[q].t.length = yt at *
    generalize l'[q].e.length = ye at *
    have HH := hid hlt'
    clear hlt'
    go_wp2_with fail
    go_cut [6, 7] from 19 to 26 (fun v6 v7 wx => TwoS w (fun W b => BxS W b (.int .i64 xk) (.int .i64 xr) (.int .i64 xv) u0 u1 u2 u3 v0 v1 v2 v3 (.slice ta xt tc) (.slice ea xe ec)) (fun W b => BxS W b (.int .i64 yk) (.int .i64 yr) (.int .i64 yv) s0 s1 s2 s3 t0 t1 t2 t3 (.slice ta' yt tc') (.slice ea' ye ec')) v6 v7 wx)
    case first =>
      refine wp_region_held_drew (S := Kp w) (by kernel_rfl) hK.drew (fun hHeld => ?_)
      refine takeL (i := 0) (v := ?_) rfl (by kernel_rfl) (by kernel_rfl) (by kernel_rfl) (fun _ _ _ h => h) (Or.inl ⟨by rfl, ?_⟩) (by assumption) ?_
      rotate_left
      focus (intro w hSw; go_simp; try with_reducible rfl)
      simp only [Act.put, List.setIfInBounds_toArray, List.set_cons_zero, List.set_cons_succ]
      refine takeL (i := 1) (v := ?_) rfl (by kernel_rfl) (by kernel_rfl) (by kernel_rfl) (fun _ _ _ h => h) (Or.inl ⟨by rfl, ?_⟩) (by assumption) ?_
      rotate_left
      focus (intro w hSw; go_simp; try with_reducible rfl)
      simp only [Act.put, List.setIfInBounds_toArray, List.set_cons_zero, List.set_cons_succ]
      refine takeL (i := 2) (v := ?_) rfl (by kernel_rfl) (by kernel_rfl) (by kernel_rfl) (fun _ _ _ h => h) (Or.inl ⟨by rfl, ?_⟩) (by assumption) ?_
      rotate_left
      focus (intro w hSw; go_simp; try with_reducible rfl)
      simp only [Act.put, List.setIfInBounds_toArray, List.set_cons_zero, List.set_cons_succ]
      refine takeL (i := 3) (v := ?_) rfl (by kernel_rfl) (by kernel_rfl) (by kernel_rfl) (fun _ _ _ h => h) (Or.inl ⟨by rfl, ?_⟩) (by assumption) ?_
      rotate_left
      focus (intro w hSw; go_simp; try with_reducible rfl)
      simp only [Act.put, List.setIfInBounds_toArray, List.set_cons_zero, List.set_cons_succ]
      refine takeL (i := 4) (v := ?_) rfl (by kernel_rfl) (by kernel_rfl) (by kernel_rfl) (fun _ _ _ h => h) (Or.inl ⟨by rfl, ?_⟩) (by assumption) ?_
      rotate_left
      focus (intro w hSw; go_simp; try with_reducible rfl)
      simp only [Act.put, List.setIfInBounds_toArray, List.set_cons_zero, List.set_cons_succ]
      refine takeL (i := 5) (v := ?_) rfl (by kernel_rfl) (by kernel_rfl) (by kernel_rfl) (fun _ _ _ h => h) (Or.inl ⟨by rfl, ?_⟩) (by assumption) ?_
      rotate_left
      focus (intro w hSw; go_simp; try with_reducible rfl)
      simp only [Act.put, List.setIfInBounds_toArray, List.set_cons_zero, List.set_cons_succ]
      refine takeL (i := 6) (v := ?_) rfl (by kernel_rfl) (by kernel_rfl) (by kernel_rfl) (fun _ _ _ h => h) (Or.inl ⟨by rfl, ?_⟩) (by assumption) ?_
      rotate_left
      focus (intro w hSw; go_simp; try with_reducible rfl)
      simp only [Act.put, List.setIfInBounds_toArray, List.set_cons_zero, List.set_cons_succ]
      refine takeL (i := 7) (v := ?_) rfl (by kernel_rfl) (by kernel_rfl) (by kernel_rfl) (fun _ _ _ h => h) (Or.inl ⟨by rfl, ?_⟩) (by assumption) ?_
      rotate_left
      focus (intro w hSw; go_simp; try with_reducible rfl)
      simp only [Act.put, List.setIfInBounds_toArray, List.set_cons_zero, List.set_cons_succ]
      refine callL2 (i := 8) (j := 9) (by kernel_rfl) rfl rfl (fun K hQ => ?_) (fun K hQ => ?_)
      · go_simp
        refine hQ.out _ _ (Kp.alloc hK.drew _) (fun hHeld => ?_)
        clear hQ
        refine callL (i := 9) (by kernel_rfl) rfl (fun K hQ => ?_)
        go_simp
        refine hQ.out _ _ (Kp.alloc (Kp.alloc hK.drew _) _) (fun hHeld => ?_)
        clear hQ
        refine callL (i := 10) (by kernel_rfl) rfl (fun K hQ => ?_)
        go_simp
        refine hQ.out _ _ (Kp.drew (Kp.alloc (Kp.alloc hK _) _)) (fun hHeld => ?_)
        clear hQ
        refine callL (i := 11) (by kernel_rfl) rfl (fun K hQ => ?_)
        go_simp
        refine hQ.out _ _ (Kp.drew (Kp.alloc (Kp.alloc hK _) _)) (fun hHeld => ?_)
        clear hQ
        refine wpAnyH_done (by kernel_rfl) ?_ _
        go_wp2_with fail
        go_meet
        case rel => exact twoS_a hK
      · go_simp
        refine hQ.out _ _ (Kp.alloc hK.drew _) (fun hHeld => ?_)
        clear hQ
        refine callL (i := 8) (by kernel_rfl) rfl (fun K hQ => ?_)
        go_simp
        refine hQ.out _ _ (Kp.alloc (Kp.alloc hK.drew _) _) (fun hHeld => ?_)
        clear hQ
        refine callL (i := 10) (by kernel_rfl) rfl (fun K hQ => ?_)
        go_simp
        refine hQ.out _ _ (Kp.drew (Kp.alloc (Kp.alloc hK _) _)) (fun hHeld => ?_)
        clear hQ
        refine callL (i := 11) (by kernel_rfl) rfl (fun K hQ => ?_)
        go_simp
        refine hQ.out _ _ (Kp.drew (Kp.alloc (Kp.alloc hK _) _)) (fun hHeld => ?_)
        clear hQ
        refine wpAnyH_done (by kernel_rfl) ?_ _
        go_wp2_with fail
        go_meet
        case rel => exact twoS_b hK
    case rest =>
    obtain ⟨b7, b8, rfl, rfl, hb7, hb8, hKc⟩ := hcut
    obtain ⟨m, m0, m1, m2, m3, m4, m5, m6, m7, m8, m9, m10, m11, m12⟩ := hb7
    obtain ⟨n, n0, n1, n2, n3, n4, n5, n6, n7, n8, n9, n10, n11, n12⟩ := hb8
    clear hK f0 f1 f2 f3 f4 f5 f6 f7 f8 f9 f10 f11 f12 h0 h1 h2 h3 h4 h5 h6 h7 h8 h9 h10 h11 h12 r0 r1 r2 r3 r4 r5 r6 r7 r8 r9 r10 r11 r12 r13 r14 r15
    have HKc := hid hKc
    clear hKc g0 i3 i3'
    cases e1 : (xk == yk)
    · have e1' : (xk != yk) = true := by simpa using e1
      have hf := hid (hbad.out (by rw [hcond.out, e1]; simp))
      clear e1
      go_wp2_with fail
      go_ret
      exact ⟨ret_bool (by rw [hf.out]), HKc.out.1⟩
    have e1' : (xk != yk) = false := by simpa using e1
    cases e2 : (xr == yr)
    · have e2' : (xr != yr) = true := by simpa using e2
      have hf := hid (hbad.out (by rw [hcond.out, e1, e2]; simp))
      clear e1 e2
      go_wp2_with fail
      go_ret
      exact ⟨ret_bool (by rw [hf.out]), HKc.out.1⟩
    have e2' : (xr != yr) = false := by simpa using e2
    cases e3 : (xv == yv)
    · have e3' : (xv != yv) = true := by simpa using e3
      have hf := hid (hbad.out (by rw [hcond.out, e1, e2, e3]; simp))
      clear e1 e2 e3
      go_wp2_with fail
      go_ret
      exact ⟨ret_bool (by rw [hf.out]), HKc.out.1⟩
    have e3' : (xv != yv) = false := by simpa using e3
    have hcond2 : Hid (bq = (ba && bb && bt && be)) := by show _ = _; rw [hcond.out, e1, e2, e3]; simp
    clear hcond e1 e2 e3
    cases ba
    · have hf := hid (hbad.out (by rw [hcond2.out]; simp))
      clear hbad hgood hcond2
      go_wp2_with (first
        | (go_at_call 109
           with_reducible refine (hca.out _ HKc.out).mono ?_
           rintro e w5 ⟨rfl, hb⟩
           have HK5 := hid (HKc.out.next hb)
           have m7w5 := (hb.cell (p := ⟨b7, 7, none⟩) m).trans m7
           have n7w5 := (hb.cell (p := ⟨b8, 7, none⟩) n).trans n7
           have m8w5 := (hb.cell (p := ⟨b7, 8, none⟩) m).trans m8
           have n8w5 := (hb.cell (p := ⟨b8, 8, none⟩) n).trans n8
           have m9w5 := (hb.cell (p := ⟨b7, 9, none⟩) m).trans m9
           have n9w5 := (hb.cell (p := ⟨b8, 9, none⟩) n).trans n9
           have m10w5 := (hb.cell (p := ⟨b7, 10, none⟩) m).trans m10
           have n10w5 := (hb.cell (p := ⟨b8, 10, none⟩) n).trans n10
           have m11w5 := (hb.cell (p := ⟨b7, 11, none⟩) m).trans m11
           have n11w5 := (hb.cell (p := ⟨b8, 11, none⟩) n).trans n11
           have m12w5 := (hb.cell (p := ⟨b7, 12, none⟩) m).trans m12
           have n12w5 := (hb.cell (p := ⟨b8, 12, none⟩) n).trans n12
           have mxw5 := Nat.lt_of_lt_of_le m hb.size
           have nxw5 := Nat.lt_of_lt_of_le n hb.size
           clear hb)
        | fail)
      go_ret
      exact ⟨ret_bool (by rw [hf.out]), HK5.out.1⟩
    cases bb
    · have hf := hid (hbad.out (by rw [hcond2.out]; simp))
      clear hbad hgood hcond2
      go_wp2_with (first
        | (go_at_call 109
           with_reducible refine (hca.out _ HKc.out).mono ?_
           rintro e w5 ⟨rfl, hb⟩
           have HK5 := hid (HKc.out.next hb)
           have m7w5 := (hb.cell (p := ⟨b7, 7, none⟩) m).trans m7
           have n7w5 := (hb.cell (p := ⟨b8, 7, none⟩) n).trans n7
           have m8w5 := (hb.cell (p := ⟨b7, 8, none⟩) m).trans m8
           have n8w5 := (hb.cell (p := ⟨b8, 8, none⟩) n).trans n8
           have m9w5 := (hb.cell (p := ⟨b7, 9, none⟩) m).trans m9
           have n9w5 := (hb.cell (p := ⟨b8, 9, none⟩) n).trans n9
           have m10w5 := (hb.cell (p := ⟨b7, 10, none⟩) m).trans m10
           have n10w5 := (hb.cell (p := ⟨b8, 10, none⟩) n).trans n10
           have m11w5 := (hb.cell (p := ⟨b7, 11, none⟩) m).trans m11
           have n11w5 := (hb.cell (p := ⟨b8, 11, none⟩) n).trans n11
           have m12w5 := (hb.cell (p := ⟨b7, 12, none⟩) m).trans m12
           have n12w5 := (hb.cell (p := ⟨b8, 12, none⟩) n).trans n12
           have mxw5 := Nat.lt_of_lt_of_le m hb.size
           have nxw5 := Nat.lt_of_lt_of_le n hb.size
           clear hb)
        | (go_at_call 109
           with_reducible refine (hcb.out _ HK5.out).mono ?_
           rintro e w6 ⟨rfl, hb⟩
           have HK6 := hid (HK5.out.next hb)
           have m11w6 := (hb.cell (p := ⟨b7, 11, none⟩) mxw5).trans m11w5
           have n11w6 := (hb.cell (p := ⟨b8, 11, none⟩) nxw5).trans n11w5
           have m12w6 := (hb.cell (p := ⟨b7, 12, none⟩) mxw5).trans m12w5
           have n12w6 := (hb.cell (p := ⟨b8, 12, none⟩) nxw5).trans n12w5
           have mxw6 := Nat.lt_of_lt_of_le mxw5 hb.size
           have nxw6 := Nat.lt_of_lt_of_le nxw5 hb.size
           clear hb)
        | fail)
      go_ret
      exact ⟨ret_bool (by rw [hf.out]), HK6.out.1⟩
    cases bt
    · have hf := hid (hbad.out (by rw [hcond2.out]; simp))
      clear hbad hgood hcond2
      go_wp2_with (first
        | (go_at_call 109
           with_reducible refine (hca.out _ HKc.out).mono ?_
           rintro e w5 ⟨rfl, hb⟩
           have HK5 := hid (HKc.out.next hb)
           have m7w5 := (hb.cell (p := ⟨b7, 7, none⟩) m).trans m7
           have n7w5 := (hb.cell (p := ⟨b8, 7, none⟩) n).trans n7
           have m8w5 := (hb.cell (p := ⟨b7, 8, none⟩) m).trans m8
           have n8w5 := (hb.cell (p := ⟨b8, 8, none⟩) n).trans n8
           have m9w5 := (hb.cell (p := ⟨b7, 9, none⟩) m).trans m9
           have n9w5 := (hb.cell (p := ⟨b8, 9, none⟩) n).trans n9
           have m10w5 := (hb.cell (p := ⟨b7, 10, none⟩) m).trans m10
           have n10w5 := (hb.cell (p := ⟨b8, 10, none⟩) n).trans n10
           have m11w5 := (hb.cell (p := ⟨b7, 11, none⟩) m).trans m11
           have n11w5 := (hb.cell (p := ⟨b8, 11, none⟩) n).trans n11
           have m12w5 := (hb.cell (p := ⟨b7, 12, none⟩) m).trans m12
           have n12w5 := (hb.cell (p := ⟨b8, 12, none⟩) n).trans n12
           have mxw5 := Nat.lt_of_lt_of_le m hb.size
           have nxw5 := Nat.lt_of_lt_of_le n hb.size
           clear hb)
        | (go_at_call 109
           with_reducible refine (hcb.out _ HK5.out).mono ?_
           rintro e w6 ⟨rfl, hb⟩
           have HK6 := hid (HK5.out.next hb)
           have m11w6 := (hb.cell (p := ⟨b7, 11, none⟩) mxw5).trans m11w5
           have n11w6 := (hb.cell (p := ⟨b8, 11, none⟩) nxw5).trans n11w5
           have m12w6 := (hb.cell (p := ⟨b7, 12, none⟩) mxw5).trans m12w5
           have n12w6 := (hb.cell (p := ⟨b8, 12, none⟩) nxw5).trans n12w5
           have mxw6 := Nat.lt_of_lt_of_le mxw5 hb.size
           have nxw6 := Nat.lt_of_lt_of_le nxw5 hb.size
           clear hb)
        | (go_at_call 67
           with_reducible refine (hct.out _ HK6.out).mono ?_
           rintro e w7 ⟨rfl, hb⟩
           have HK7 := hid (HK6.out.next hb)
           have m12w7 := (hb.cell (p := ⟨b7, 12, none⟩) mxw6).trans m12w6
           have n12w7 := (hb.cell (p := ⟨b8, 12, none⟩) nxw6).trans n12w6
           have mxw7 := Nat.lt_of_lt_of_le mxw6 hb.size
           have nxw7 := Nat.lt_of_lt_of_le nxw6 hb.size
           clear hb)
        | fail)
      go_ret
      exact ⟨ret_bool (by rw [hf.out]), HK7.out.1⟩
    cases be
    · have hf := hid (hbad.out (by rw [hcond2.out]; simp))
      clear hbad hgood hcond2
      go_wp2_with (first
        | (go_at_call 109
           with_reducible refine (hca.out _ HKc.out).mono ?_
           rintro e w5 ⟨rfl, hb⟩
           have HK5 := hid (HKc.out.next hb)
           have m7w5 := (hb.cell (p := ⟨b7, 7, none⟩) m).trans m7
           have n7w5 := (hb.cell (p := ⟨b8, 7, none⟩) n).trans n7
           have m8w5 := (hb.cell (p := ⟨b7, 8, none⟩) m).trans m8
           have n8w5 := (hb.cell (p := ⟨b8, 8, none⟩) n).trans n8
           have m9w5 := (hb.cell (p := ⟨b7, 9, none⟩) m).trans m9
           have n9w5 := (hb.cell (p := ⟨b8, 9, none⟩) n).trans n9
           have m10w5 := (hb.cell (p := ⟨b7, 10, none⟩) m).trans m10
           have n10w5 := (hb.cell (p := ⟨b8, 10, none⟩) n).trans n10
           have m11w5 := (hb.cell (p := ⟨b7, 11, none⟩) m).trans m11
           have n11w5 := (hb.cell (p := ⟨b8, 11, none⟩) n).trans n11
           have m12w5 := (hb.cell (p := ⟨b7, 12, none⟩) m).trans m12
           have n12w5 := (hb.cell (p := ⟨b8, 12, none⟩) n).trans n12
           have mxw5 := Nat.lt_of_lt_of_le m hb.size
           have nxw5 := Nat.lt_of_lt_of_le n hb.size
           clear hb)
        | (go_at_call 109
           with_reducible refine (hcb.out _ HK5.out).mono ?_
           rintro e w6 ⟨rfl, hb⟩
           have HK6 := hid (HK5.out.next hb)
           have m11w6 := (hb.cell (p := ⟨b7, 11, none⟩) mxw5).trans m11w5
           have n11w6 := (hb.cell (p := ⟨b8, 11, none⟩) nxw5).trans n11w5
           have m12w6 := (hb.cell (p := ⟨b7, 12, none⟩) mxw5).trans m12w5
           have n12w6 := (hb.cell (p := ⟨b8, 12, none⟩) nxw5).trans n12w5
           have mxw6 := Nat.lt_of_lt_of_le mxw5 hb.size
           have nxw6 := Nat.lt_of_lt_of_le nxw5 hb.size
           clear hb)
        | (go_at_call 67
           with_reducible refine (hct.out _ HK6.out).mono ?_
           rintro e w7 ⟨rfl, hb⟩
           have HK7 := hid (HK6.out.next hb)
           have m12w7 := (hb.cell (p := ⟨b7, 12, none⟩) mxw6).trans m12w6
           have n12w7 := (hb.cell (p := ⟨b8, 12, none⟩) nxw6).trans n12w6
           have mxw7 := Nat.lt_of_lt_of_le mxw6 hb.size
           have nxw7 := Nat.lt_of_lt_of_le nxw6 hb.size
           clear hb)
        | (go_at_call 67
           with_reducible refine (hce.out _ HK7.out).mono ?_
           rintro e w8 ⟨rfl, hb⟩
           have HK8 := hid (HK7.out.next hb)
           clear hb)
        | fail)
      go_ret
      exact ⟨ret_bool (by rw [hf.out]), HK8.out.1⟩
    have hg := hid (hgood.out (by rw [hcond2.out]; rfl))
    clear hbad hgood hcond2
    go_wp2_with (first
      | (go_at_call 109
         with_reducible refine (hca.out _ HKc.out).mono ?_
         rintro e w5 ⟨rfl, hb⟩
         have HK5 := hid (HKc.out.next hb)
         have m7w5 := (hb.cell (p := ⟨b7, 7, none⟩) m).trans m7
         have n7w5 := (hb.cell (p := ⟨b8, 7, none⟩) n).trans n7
         have m8w5 := (hb.cell (p := ⟨b7, 8, none⟩) m).trans m8
         have n8w5 := (hb.cell (p := ⟨b8, 8, none⟩) n).trans n8
         have m9w5 := (hb.cell (p := ⟨b7, 9, none⟩) m).trans m9
         have n9w5 := (hb.cell (p := ⟨b8, 9, none⟩) n).trans n9
         have m10w5 := (hb.cell (p := ⟨b7, 10, none⟩) m).trans m10
         have n10w5 := (hb.cell (p := ⟨b8, 10, none⟩) n).trans n10
         have m11w5 := (hb.cell (p := ⟨b7, 11, none⟩) m).trans m11
         have n11w5 := (hb.cell (p := ⟨b8, 11, none⟩) n).trans n11
         have m12w5 := (hb.cell (p := ⟨b7, 12, none⟩) m).trans m12
         have n12w5 := (hb.cell (p := ⟨b8, 12, none⟩) n).trans n12
         have mxw5 := Nat.lt_of_lt_of_le m hb.size
         have nxw5 := Nat.lt_of_lt_of_le n hb.size
         clear hb)
      | (go_at_call 109
         with_reducible refine (hcb.out _ HK5.out).mono ?_
         rintro e w6 ⟨rfl, hb⟩
         have HK6 := hid (HK5.out.next hb)
         have m11w6 := (hb.cell (p := ⟨b7, 11, none⟩) mxw5).trans m11w5
         have n11w6 := (hb.cell (p := ⟨b8, 11, none⟩) nxw5).trans n11w5
         have m12w6 := (hb.cell (p := ⟨b7, 12, none⟩) mxw5).trans m12w5
         have n12w6 := (hb.cell (p := ⟨b8, 12, none⟩) nxw5).trans n12w5
         have mxw6 := Nat.lt_of_lt_of_le mxw5 hb.size
         have nxw6 := Nat.lt_of_lt_of_le nxw5 hb.size
         clear hb)
      | (go_at_call 67
         with_reducible refine (hct.out _ HK6.out).mono ?_
         rintro e w7 ⟨rfl, hb⟩
         have HK7 := hid (HK6.out.next hb)
         have m12w7 := (hb.cell (p := ⟨b7, 12, none⟩) mxw6).trans m12w6
         have n12w7 := (hb.cell (p := ⟨b8, 12, none⟩) nxw6).trans n12w6
         have mxw7 := Nat.lt_of_lt_of_le mxw6 hb.size
         have nxw7 := Nat.lt_of_lt_of_le nxw6 hb.size
         clear hb)
      | (go_at_call 67
         with_reducible refine (hce.out _ HK7.out).mono ?_
         rintro e w8 ⟨rfl, hb⟩
         have HK8 := hid (HK7.out.next hb)
         clear hb)
      | fail)
    go_roundw
    case rel => exact ⟨q + 1, by omega, by simp, hg, HK8.out⟩
    case measure => simp [intOf]; omega
theorem samL_both (x : St) : SamL x.t ∧ SamL x.e := by
  induction x using St.ind with
  | h k r v a b t e iht ihe => exact ⟨samL_step t iht, samL_step e ihe⟩
theorem samL_any (l : List St) : SamL l := samL_step l fun x _ => samL_both x
end Go.Proofs.YtphlbbnmligadaaGreatDoor
