/- The document's word on whether two expressions are the same. -/
import Derived.Test.YtcgpobeidlimkaaGreatDoorBunS
import Derived.Test.YtcgpobeidlimkaaGreatDoorBunM
import Derived.Test.YtcgpobeidlimkaaGreatDoorRows
import Derived.StillTailTactics
import Derived.BigQuiet
import Derived.Deep.QuietTactic
import Derived.Deep.CutRange
namespace Go.Proofs.YtcgpobeidlimkaaGreatDoor
open Go.RowKit

def SamC (x : Ex) : Prop := ∀ (y : Ex) (cs ds : List Value) (w : World), ExIn w (In_ w) cs x → ExIn w (In_ w) ds y →
  Calls Tryz.prog 28 #[.agg cs.toArray, .agg ds.toArray] w fun e w' => e = .returned (.bool (eqE x y)) ∧ Below w.heap.size w w'

theorem eqW_step {α : Type} (f : α → α → Bool) {a b : List α} (h : a.length = b.length) (hb : ∀ i (h1 : i < a.length) (h2 : i < b.length), i < a.length → f a[i] b[i] = true) : eqW f a b = true := eqW_of f h fun i h1 h2 => hb i h1 h2 h1

set_option maxRecDepth 100000 in
set_option maxHeartbeats 8000000 in
theorem samE_step (k n o : Int) (l : List Ex) (ih : ∀ x, x ∈ l → SamC x) : SamC (.mk k n o l) := by
  intro y cs ds w hin hin2
  obtain ⟨k', n', o', l'⟩ := y
  have hres := eqE_mk k n o k' n' o' l l'
  obtain ⟨a, cap, rfl, hle, hmx, -, -, -, hk⟩ := hin.open_
  obtain ⟨a', cap', rfl, hle', hmx', -, -, -, hk'⟩ := hin2.open_
  unfold maxLen at hmx hmx'
  generalize hW : (w.alloc (.cells #[.int .i64 k, .int .i64 n, .int .u8 o, .slice a l.length cap] 46)).alloc (.cells #[.int .i64 k', .int .i64 n', .int .u8 o', .slice a' l'.length cap'] 46) = W0
  have hB : Below w.heap.size w W0 := by subst hW; exact ((Below.refl _ _).alloc (Nat.le_refl _) _).alloc (by simp) _
  have z1 : w.heap.size + 1 < W0.heap.size := by subst hW; simp
  have z0 : w.heap.size < W0.heap.size := by omega
  have c0 : W0.cell? ⟨w.heap.size, 0, none⟩ = some (.int .i64 k) := by subst hW; go_simp
  have c1 : W0.cell? ⟨w.heap.size, 1, none⟩ = some (.int .i64 n) := by subst hW; go_simp
  have c2 : W0.cell? ⟨w.heap.size, 2, none⟩ = some (.int .u8 o) := by subst hW; go_simp
  have c3 : W0.cell? ⟨w.heap.size, 3, none⟩ = some (.slice a l.length cap) := by subst hW; go_simp
  have d0 : W0.cell? ⟨w.heap.size + 1, 0, none⟩ = some (.int .i64 k') := by subst hW; go_simp
  have d1 : W0.cell? ⟨w.heap.size + 1, 1, none⟩ = some (.int .i64 n') := by subst hW; go_simp
  have d2 : W0.cell? ⟨w.heap.size + 1, 2, none⟩ = some (.int .u8 o') := by subst hW; go_simp
  have d3 : W0.cell? ⟨w.heap.size + 1, 3, none⟩ = some (.slice a' l'.length cap') := by subst hW; go_simp
  have Hk := hid hk
  have Hk' := hid hk'
  have HB := hid hB
  have HKB : Hid (Kp w W0) := Kp.of hB
  have hWx := hid hW
  have Hih := hid ih
  have Hres := hid hres
  clear hW hB hin hin2 hk hk' ih hres
  go_enter Tryz.func28, Tryz.ntmps28
  cases e1 : (k == k')
  · have e1' : (k != k') = true := by simpa using e1
    go_wp2_with fail
    rw [hWx.out]
    go_ret
    exact ⟨ret_bool (by rw [Hres.out, e1]; rfl), HB.out⟩
  have e1' : (k != k') = false := by simpa using e1
  cases e2 : (n == n')
  · have e2' : (n != n') = true := by simpa using e2
    go_wp2_with fail
    rw [hWx.out]
    go_ret
    exact ⟨ret_bool (by rw [Hres.out, e2]; simp), HB.out⟩
  have e2' : (n != n') = false := by simpa using e2
  cases e3 : (o == o')
  · have e3' : (o != o') = true := by simpa using e3
    go_wp2_with fail
    rw [hWx.out]
    go_ret
    exact ⟨ret_bool (by rw [Hres.out, e3]; simp), HB.out⟩
  have e3' : (o != o') = false := by simpa using e3
  by_cases hl : l.length = l'.length
  case neg =>
    have e4 : ((l.length : Int) != l'.length) = true := by simpa using fun e => hl (by omega)
    go_wp2_with fail
    rw [hWx.out]
    go_ret
    exact ⟨ret_bool (by rw [Hres.out, eqW_ne _ hl]; simp), HB.out⟩
  have e4 : ((l.length : Int) != l'.length) = false := by rw [hl]; simp
  have Hres2 : Hid (eqE (.mk k n o l) (.mk k' n' o' l') = eqW eqE l l') := by show _ = _; rw [Hres.out, e1, e2, e3]; rfl
  have Hl := hid hl
  clear Hres hl
  go_wp2_with fail
  rw [hWx.out]
  clear e1 e2 e3 e1' e2' e3' e4
  go_loopw [5] (fun i wr => ∃ q : Nat, q ≤ l.length ∧ i = .int .i64 q ∧ Hid (∀ i (h1 : i < l.length) (h2 : i < l'.length), i < q → eqE l[i] l'[i] = true) ∧ Kp W0 wr) (fun i _ => l.length - (intOf i).toNat)
  case atStart => exact ⟨0, Nat.zero_le _, rfl, fun i _ _ h => absurd h (by omega), Kp.refl _⟩
  case round =>
    obtain ⟨q, hq, rfl, hI, hK⟩ := hrel
    have g0 := hK.1.size
    have g4 : w.heap.size < wr.heap.size := by omega
    have g5 : w.heap.size + 1 < wr.heap.size := by omega
    by_cases hlt : q < l.length
    · have hlt' : q < l'.length := by have := Hl.out; omega
      obtain ⟨b, off, u0, u1, u2, u3, rfl, hb, f0, f1, f2, f3, hx⟩ := Hk.out q hlt
      obtain ⟨b', off', v0, v1, v2, v3, rfl, hb', h0, h1, h2, h3, hy⟩ := Hk'.out q hlt'
      have hbl : b < w.heap.size := hb
      have hbl' : b' < w.heap.size := hb'
      rw [← HKB.out.2 _ _ hbl] at f0 f1 f2 f3
      rw [← HKB.out.2 _ _ hbl'] at h0 h1 h2 h3
      have q0 : (0 : Int) ≤ q := by omega
      have q1 : (q : Int) < l.length := by omega
      have q2 : (q : Int) < l'.length := by omega
      have gb : b < W0.heap.size := by omega
      have gb' : b' < W0.heap.size := by omega
      have hbad := hid (fun h => eqW_bad eqE q hlt hlt' h)
      have hgood : Hid (eqE l[q] l'[q] = true → ∀ i (h1 : i < l.length) (h2 : i < l'.length), i < q + 1 → eqE l[i] l'[i] = true) := fun h i h1 h2 hi => by
        by_cases e : i = q
        · subst e; exact h
        · exact hI.out i h1 h2 (by omega)
      have hcall := hid (Hih.out l[q] (List.getElem_mem hlt) l'[q] [u0, u1, u2, u3] [v0, v1, v2, v3] wr.drew ((hK.drew).ex (HKB.out.ex hx)) ((hK.drew).ex (HKB.out.ex hy)))
      clear hx hy hI
      have HK := hid hK
      rw [← hK.2 _ _ gb] at f0 f1 f2 f3
      rw [← hK.2 _ _ gb'] at h0 h1 h2 h3
      have k3 := (hK.2 _ _ z0).trans c3
      have k3' := (hK.2 _ _ z1).trans d3
      clear hK
      generalize hbq : eqE l[q] l'[q] = bq at *
      clear hbq
      go_wp2_with fail
      go_still_tail 10, (by kernel_rfl)
      change wpList _ _ _ _ _ wr.drew
      cases bq
      · have hf := hid (hbad.out rfl)
        go_wp2_with (first
          | (go_at_call 28
             with_reducible refine hcall.out.mono ?_
             rintro e w1 ⟨rfl, hb1⟩
             have HK1 := hid (HK.out.drew.next hb1)
             clear hb1)
          | fail)
        go_ret
        exact ⟨ret_bool (by rw [Hres2.out, hf.out]), Kp.fin HB.out HK1.out⟩
      · have hg := hid (hgood.out rfl)
        go_wp2_with (first
          | (go_at_call 28
             with_reducible refine hcall.out.mono ?_
             rintro e w1 ⟨rfl, hb1⟩
             have HK1 := hid (HK.out.drew.next hb1)
             clear hb1)
          | fail)
        go_roundw
        case rel => exact ⟨q + 1, by omega, by simp, hg, HK1.out⟩
        case measure => simp [intOf]; omega
    · obtain rfl : q = l.length := by omega
      have hf : Hid (eqW eqE l l' = true) := eqW_of eqE Hl.out fun i h1 h2 => hI.out i h1 h2 h1
      clear hI
      go_wp2_with fail
      go_ret
      exact ⟨ret_bool (by rw [Hres2.out, hf.out]), Kp.fin HB.out hK⟩
theorem samE_any (x : Ex) : SamC x := by
  induction x using Ex.ind with
  | h k n o l ih => exact samE_step k n o l ih
end Go.Proofs.YtcgpobeidlimkaaGreatDoor
namespace Go.Proofs.YtcgpobeidlimkaaGreatDoor
open Go.RowKit

/-- An instruction's cells in a block of its own. -/
structure BxI (w : World) (b : Nat) (x0 x1 x2 u0 u1 u2 u3 v0 v1 v2 v3 x5 : Value) : Prop where
  lt : b < w.heap.size
  c0 : w.cell? ⟨b, 0, none⟩ = some x0
  c1 : w.cell? ⟨b, 1, none⟩ = some x1
  c2 : w.cell? ⟨b, 2, none⟩ = some x2
  c3 : w.cell? ⟨b, 3, none⟩ = some u0
  c4 : w.cell? ⟨b, 4, none⟩ = some u1
  c5 : w.cell? ⟨b, 5, none⟩ = some u2
  c6 : w.cell? ⟨b, 6, none⟩ = some u3
  c7 : w.cell? ⟨b, 7, none⟩ = some v0
  c8 : w.cell? ⟨b, 8, none⟩ = some v1
  c9 : w.cell? ⟨b, 9, none⟩ = some v2
  c10 : w.cell? ⟨b, 10, none⟩ = some v3
  c11 : w.cell? ⟨b, 11, none⟩ = some x5
def Two (W0 : World) (A B : World → Nat → Prop) (v7 v8 : Value) (wx : World) : Prop :=
  ∃ b7 b8, v7 = .pointer (some ⟨b7, 0, none⟩) ∧ v8 = .pointer (some ⟨b8, 0, none⟩) ∧ A wx b7 ∧ B wx b8 ∧ Kp W0 wx

theorem two_a {W0 w : World} {T T' : TypeId} {x0 x1 x2 u0 u1 u2 u3 v0 v1 v2 v3 x5 y0 y1 y2 s0 s1 s2 s3 t0 t1 t2 t3 y5 : Value} (hK : Kp W0 w) :
    Two W0 (fun W b => BxI W b x0 x1 x2 u0 u1 u2 u3 v0 v1 v2 v3 x5) (fun W b => BxI W b y0 y1 y2 s0 s1 s2 s3 t0 t1 t2 t3 y5) (.pointer (some ⟨w.heap.size, 0, none⟩)) (.pointer (some ⟨w.heap.size + 1, 0, none⟩))
      (((w.alloc (.cells #[x0, x1, x2, u0, u1, u2, u3, v0, v1, v2, v3, x5] T)).alloc (.cells #[y0, y1, y2, s0, s1, s2, s3, t0, t1, t2, t3, y5] T')).drew) :=
  ⟨_, _, rfl, rfl, ⟨by simp; omega, by go_simp, by go_simp, by go_simp, by go_simp, by go_simp, by go_simp, by go_simp, by go_simp, by go_simp, by go_simp, by go_simp, by go_simp⟩,
    ⟨by simp, by go_simp, by go_simp, by go_simp, by go_simp, by go_simp, by go_simp, by go_simp, by go_simp, by go_simp, by go_simp, by go_simp, by go_simp⟩, ((hK.alloc _).alloc _).drew⟩
theorem two_b {W0 w : World} {T T' : TypeId} {x0 x1 x2 u0 u1 u2 u3 v0 v1 v2 v3 x5 y0 y1 y2 s0 s1 s2 s3 t0 t1 t2 t3 y5 : Value} (hK : Kp W0 w) :
    Two W0 (fun W b => BxI W b x0 x1 x2 u0 u1 u2 u3 v0 v1 v2 v3 x5) (fun W b => BxI W b y0 y1 y2 s0 s1 s2 s3 t0 t1 t2 t3 y5) (.pointer (some ⟨w.heap.size + 1, 0, none⟩)) (.pointer (some ⟨w.heap.size, 0, none⟩))
      (((w.alloc (.cells #[y0, y1, y2, s0, s1, s2, s3, t0, t1, t2, t3, y5] T')).alloc (.cells #[x0, x1, x2, u0, u1, u2, u3, v0, v1, v2, v3, x5] T)).drew) :=
  ⟨_, _, rfl, rfl, ⟨by simp, by go_simp, by go_simp, by go_simp, by go_simp, by go_simp, by go_simp, by go_simp, by go_simp, by go_simp, by go_simp, by go_simp, by go_simp⟩,
    ⟨by simp; omega, by go_simp, by go_simp, by go_simp, by go_simp, by go_simp, by go_simp, by go_simp, by go_simp, by go_simp, by go_simp, by go_simp, by go_simp⟩, ((hK.alloc _).alloc _).drew⟩

set_option maxRecDepth 100000 in
set_option maxHeartbeats 16000000 in
theorem sameC_any (vars dom : Int) (a : Option Addr) (cap : Nat) (a' : Option Addr) (cap' : Nat) (t : List (List Ins)) (w : World) (hin : ThsIn w (In_ w) a t.length cap t) (hin' : ThsIn w (In_ w) a' t.length cap' t) :
    Calls Tryz.prog 13 #[.agg #[.int .i64 vars, .int .i64 dom, .slice a t.length cap], .agg #[.int .i64 vars, .int .i64 dom, .slice a' t.length cap']] w fun e w' => e = .returned (.bool true) ∧ Below w.heap.size w w' := by
  have hcap := hin.le
  have hmx := hin.mx
  have hcap' := hin'.le
  have hmx' := hin'.mx
  unfold maxLen at hmx hmx'
  generalize hW : (w.alloc (.cells #[.int .i64 vars, .int .i64 dom, .slice a t.length cap] 30)).alloc (.cells #[.int .i64 vars, .int .i64 dom, .slice a' t.length cap'] 30) = W0
  have hB : Below w.heap.size w W0 := by subst hW; exact ((Below.refl _ _).alloc (Nat.le_refl _) _).alloc (by simp) _
  have z1 : w.heap.size + 1 < W0.heap.size := by subst hW; simp
  have z0 : w.heap.size < W0.heap.size := by omega
  have c0 : W0.cell? ⟨w.heap.size, 0, none⟩ = some (.int .i64 vars) := by subst hW; go_simp
  have c1 : W0.cell? ⟨w.heap.size, 1, none⟩ = some (.int .i64 dom) := by subst hW; go_simp
  have c2 : W0.cell? ⟨w.heap.size, 2, none⟩ = some (.slice a t.length cap) := by subst hW; go_simp
  have d0 : W0.cell? ⟨w.heap.size + 1, 0, none⟩ = some (.int .i64 vars) := by subst hW; go_simp
  have d1 : W0.cell? ⟨w.heap.size + 1, 1, none⟩ = some (.int .i64 dom) := by subst hW; go_simp
  have d2 : W0.cell? ⟨w.heap.size + 1, 2, none⟩ = some (.slice a' t.length cap') := by subst hW; go_simp
  have Hin := hid ((Kp.of hB).ths hin)
  have Hin' := hid ((Kp.of hB).ths hin')
  have HB := hid hB
  have hWx := hid hW
  clear hW hB hin hin'
  go_enter Tryz.func13, Tryz.ntmps13
  go_wp2_with fail
  rw [hWx.out]
  go_loopw [5] (fun i wr => ∃ k : Nat, k ≤ t.length ∧ i = .int .i64 k ∧ Kp W0 wr) (fun i _ => t.length - (intOf i).toNat)
  case atStart => exact ⟨0, Nat.zero_le _, rfl, Kp.refl _⟩
  case round =>
    obtain ⟨k, hk, rfl, hK⟩ := hrel
    have g0 := hK.1.size
    have g4 : w.heap.size < wr.heap.size := by omega
    have g5 : w.heap.size + 1 < wr.heap.size := by omega
    by_cases hlt : k < t.length
    case neg =>
      obtain rfl : k = t.length := by omega
      go_wp2_with fail
      go_ret
      exact ⟨rfl, Kp.fin HB.out hK⟩
    obtain ⟨bb, off, ar, kr, rfl, hbb, e0, hrow⟩ := Hin.out.at_ k hlt
    obtain ⟨bb', off', ar', kr', rfl, hbb', e0', hrow'⟩ := Hin'.out.at_ k hlt
    have hbl := hbb.lt
    have hbl' := hbb'.lt
    have k0 : (0 : Int) ≤ k := by omega
    have k1 : (k : Int) < t.length := by omega
    have g3 : bb < wr.heap.size := by omega
    have g3' : bb' < wr.heap.size := by omega
    have hrc := hrow.le
    have hrm := hrow.mx
    have hrc' := hrow'.le
    have hrm' := hrow'.mx
    unfold maxLen at hrm hrm'
    have hrow := hid hrow
    have hrow' := hid hrow'
    generalize t[k] = l at *
    go_wp2_with fail
    go_quiet (fail)
    have HKq := drewN_kp hK nq
    clear hK
    go_wp2_with fail
    go_loopw [6] (fun i wr => ∃ q : Nat, q ≤ l.length ∧ i = .int .i64 q ∧ Kp W0 wr) (fun i _ => l.length - (intOf i).toNat)
    case atStart => exact ⟨0, Nat.zero_le _, rfl, HKq⟩
    case round =>
      clear HKq g0 g3 g3' g4 g5
      obtain ⟨q, hq, rfl, hK⟩ := hrel
      have g0 := hK.1.size
      have g4 : w.heap.size < wr.heap.size := by omega
      have g5 : w.heap.size + 1 < wr.heap.size := by omega
      have g3 : bb < wr.heap.size := by omega
      have g3' : bb' < wr.heap.size := by omega
      by_cases hlt2 : q < l.length
      case neg =>
        obtain rfl : q = l.length := by omega
        go_wp2_with fail
        go_roundw
        case rel => exact ⟨k + 1, by omega, by simp, hK⟩
        case measure => simp [intOf]; omega
      obtain ⟨b, o1, u0, u1, u2, u3, v0, v1, v2, v3, rfl, hb, ⟨f0, f1, f2⟩, ⟨f3, f4, f5, f6⟩, ⟨f7, f8, f9, f10⟩, f11, ha, hbx⟩ := hrow.out.at_ q hlt2
      obtain ⟨b', o1', s0, s1, s2, s3, t0, t1, t2, t3, rfl, hb', ⟨h0, h1, h2⟩, ⟨h3, h4, h5, h6⟩, ⟨h7, h8, h9, h10⟩, h11, ha', hbx'⟩ := hrow'.out.at_ q hlt2
      have hb2 := hb.lt
      have hb2' := hb'.lt
      have q0 : (0 : Int) ≤ q := by omega
      have q1 : (q : Int) < l.length := by omega
      have i3 : b < wr.heap.size := by omega
      have i3' : b' < wr.heap.size := by omega
      have hca : Hid (∀ W, Kp W0 W → Calls Tryz.prog 28 #[.agg #[u0, u1, u2, u3], .agg #[s0, s1, s2, s3]] W fun e w' => e = .returned (.bool true) ∧ Below W.heap.size W w') := fun W hW => by
        have h := samE_any l[q].a l[q].a [u0, u1, u2, u3] [s0, s1, s2, s3] W (hW.ex ha) (hW.ex ha')
        rwa [eqE_self] at h
      have hcb : Hid (∀ W, Kp W0 W → Calls Tryz.prog 28 #[.agg #[v0, v1, v2, v3], .agg #[t0, t1, t2, t3]] W fun e w' => e = .returned (.bool true) ∧ Below W.heap.size W w') := fun W hW => by
        have h := samE_any l[q].b l[q].b [v0, v1, v2, v3] [t0, t1, t2, t3] W (hW.ex hbx) (hW.ex hbx')
        rwa [eqE_self] at h
      obtain ⟨p0, p1, p2, p3⟩ := ha.ones
      obtain ⟨p4, p5, p6, p7⟩ := hbx.ones
      obtain ⟨p8, p9, p10, p11⟩ := ha'.ones
      obtain ⟨p12, p13, p14, p15⟩ := hbx'.ones
      clear ha hbx ha' hbx'
      have r0 := fun ad W m => run_store (P := Tryz.prog) W ad u0 m p0
      have r1 := fun ad W m => run_store (P := Tryz.prog) W ad u1 m p1
      have r2 := fun ad W m => run_store (P := Tryz.prog) W ad u2 m p2
      have r3 := fun ad W m => run_store (P := Tryz.prog) W ad u3 m p3
      have r4 := fun ad W m => run_store (P := Tryz.prog) W ad v0 m p4
      have r5 := fun ad W m => run_store (P := Tryz.prog) W ad v1 m p5
      have r6 := fun ad W m => run_store (P := Tryz.prog) W ad v2 m p6
      have r7 := fun ad W m => run_store (P := Tryz.prog) W ad v3 m p7
      have r8 := fun ad W m => run_store (P := Tryz.prog) W ad s0 m p8
      have r9 := fun ad W m => run_store (P := Tryz.prog) W ad s1 m p9
      have r10 := fun ad W m => run_store (P := Tryz.prog) W ad s2 m p10
      have r11 := fun ad W m => run_store (P := Tryz.prog) W ad s3 m p11
      have r12 := fun ad W m => run_store (P := Tryz.prog) W ad t0 m p12
      have r13 := fun ad W m => run_store (P := Tryz.prog) W ad t1 m p13
      have r14 := fun ad W m => run_store (P := Tryz.prog) W ad t2 m p14
      have r15 := fun ad W m => run_store (P := Tryz.prog) W ad t3 m p15
      clear p0 p1 p2 p3 p4 p5 p6 p7 p8 p9 p10 p11 p12 p13 p14 p15
      generalize l[q].op = op at *
      generalize l[q].reg = rg at *
      generalize l[q].v = vv at *
      generalize l[q].to = dst at *
      go_wp2_with fail
      go_cut [7, 8] from 60 to 75 (fun v7 v8 wx => Two W0 (fun W b => BxI W b (.int .i64 op) (.int .i64 rg) (.int .i64 vv) u0 u1 u2 u3 v0 v1 v2 v3 (.int .i64 dst)) (fun W b => BxI W b (.int .i64 op) (.int .i64 rg) (.int .i64 vv) s0 s1 s2 s3 t0 t1 t2 t3 (.int .i64 dst)) v7 v8 wx)
      case first =>
        refine wp_region_held_drew (S := Kp W0) (by kernel_rfl) hK.drew (fun hHeld => ?_)
        refine takeL (i := 0) (v := ?_) rfl (by kernel_rfl) (by kernel_rfl) (by kernel_rfl) (fun _ _ _ h => h) (Or.inl ⟨by rfl, ?_⟩) (by assumption) ?_
        rotate_left
        focus (intro w hSw; go_simp; try with_reducible rfl)
        simp only [Act.put, List.setIfInBounds_toArray, List.set_cons_zero, List.set_cons_succ]
        refine takeL (i := 1) (v := ?_) rfl (by kernel_rfl) (by kernel_rfl) (by kernel_rfl) (fun _ _ _ h => h) (Or.inl ⟨by rfl, ?_⟩) (by assumption) ?_
        rotate_left
        focus (intro w hSw; go_simp; try with_reducible rfl)
        simp only [Act.put, List.setIfInBounds_toArray, List.set_cons_zero, List.set_cons_succ]
        refine takeL (i := 2) (v := ?_) rfl (by kernel_rfl) (by kernel_rfl) (by kernel_rfl) (fun _ _ _ h => h) (Or.inl ⟨by rfl, ?_⟩) (by assumption) ?_
        rotate_left
        focus (intro w hSw; go_simp; try with_reducible rfl)
        simp only [Act.put, List.setIfInBounds_toArray, List.set_cons_zero, List.set_cons_succ]
        refine takeL (i := 3) (v := ?_) rfl (by kernel_rfl) (by kernel_rfl) (by kernel_rfl) (fun _ _ _ h => h) (Or.inl ⟨by rfl, ?_⟩) (by assumption) ?_
        rotate_left
        focus (intro w hSw; go_simp; try with_reducible rfl)
        simp only [Act.put, List.setIfInBounds_toArray, List.set_cons_zero, List.set_cons_succ]
        refine takeL (i := 4) (v := ?_) rfl (by kernel_rfl) (by kernel_rfl) (by kernel_rfl) (fun _ _ _ h => h) (Or.inl ⟨by rfl, ?_⟩) (by assumption) ?_
        rotate_left
        focus (intro w hSw; go_simp; try with_reducible rfl)
        simp only [Act.put, List.setIfInBounds_toArray, List.set_cons_zero, List.set_cons_succ]
        refine takeL (i := 5) (v := ?_) rfl (by kernel_rfl) (by kernel_rfl) (by kernel_rfl) (fun _ _ _ h => h) (Or.inl ⟨by rfl, ?_⟩) (by assumption) ?_
        rotate_left
        focus (intro w hSw; go_simp; try with_reducible rfl)
        simp only [Act.put, List.setIfInBounds_toArray, List.set_cons_zero, List.set_cons_succ]
        refine takeL (i := 6) (v := ?_) rfl (by kernel_rfl) (by kernel_rfl) (by kernel_rfl) (fun _ _ _ h => h) (Or.inl ⟨by rfl, ?_⟩) (by assumption) ?_
        rotate_left
        focus (intro w hSw; go_simp; try with_reducible rfl)
        simp only [Act.put, List.setIfInBounds_toArray, List.set_cons_zero, List.set_cons_succ]
        refine takeL (i := 7) (v := ?_) rfl (by kernel_rfl) (by kernel_rfl) (by kernel_rfl) (fun _ _ _ h => h) (Or.inl ⟨by rfl, ?_⟩) (by assumption) ?_
        rotate_left
        focus (intro w hSw; go_simp; try with_reducible rfl)
        simp only [Act.put, List.setIfInBounds_toArray, List.set_cons_zero, List.set_cons_succ]
        refine takeL (i := 8) (v := ?_) rfl (by kernel_rfl) (by kernel_rfl) (by kernel_rfl) (fun _ _ _ h => h) (Or.inl ⟨by rfl, ?_⟩) (by assumption) ?_
        rotate_left
        focus (intro w hSw; go_simp; try with_reducible rfl)
        simp only [Act.put, List.setIfInBounds_toArray, List.set_cons_zero, List.set_cons_succ]
        refine takeL (i := 9) (v := ?_) rfl (by kernel_rfl) (by kernel_rfl) (by kernel_rfl) (fun _ _ _ h => h) (Or.inl ⟨by rfl, ?_⟩) (by assumption) ?_
        rotate_left
        focus (intro w hSw; go_simp; try with_reducible rfl)
        simp only [Act.put, List.setIfInBounds_toArray, List.set_cons_zero, List.set_cons_succ]
        refine takeL (i := 10) (v := ?_) rfl (by kernel_rfl) (by kernel_rfl) (by kernel_rfl) (fun _ _ _ h => h) (Or.inl ⟨by rfl, ?_⟩) (by assumption) ?_
        rotate_left
        focus (intro w hSw; go_simp; try with_reducible rfl)
        simp only [Act.put, List.setIfInBounds_toArray, List.set_cons_zero, List.set_cons_succ]
        refine takeL (i := 11) (v := ?_) rfl (by kernel_rfl) (by kernel_rfl) (by kernel_rfl) (fun _ _ _ h => h) (Or.inl ⟨by rfl, ?_⟩) (by assumption) ?_
        rotate_left
        focus (intro w hSw; go_simp; try with_reducible rfl)
        simp only [Act.put, List.setIfInBounds_toArray, List.set_cons_zero, List.set_cons_succ]
        refine takeL (i := 12) (v := ?_) rfl (by kernel_rfl) (by kernel_rfl) (by kernel_rfl) (fun _ _ _ h => h) (Or.inl ⟨by rfl, ?_⟩) (by assumption) ?_
        rotate_left
        focus (intro w hSw; go_simp; try with_reducible rfl)
        simp only [Act.put, List.setIfInBounds_toArray, List.set_cons_zero, List.set_cons_succ]
        refine takeL (i := 13) (v := ?_) rfl (by kernel_rfl) (by kernel_rfl) (by kernel_rfl) (fun _ _ _ h => h) (Or.inl ⟨by rfl, ?_⟩) (by assumption) ?_
        rotate_left
        focus (intro w hSw; go_simp; try with_reducible rfl)
        simp only [Act.put, List.setIfInBounds_toArray, List.set_cons_zero, List.set_cons_succ]
        refine takeL (i := 14) (v := ?_) rfl (by kernel_rfl) (by kernel_rfl) (by kernel_rfl) (fun _ _ _ h => h) (Or.inl ⟨by rfl, ?_⟩) (by assumption) ?_
        rotate_left
        focus (intro w hSw; go_simp; try with_reducible rfl)
        simp only [Act.put, List.setIfInBounds_toArray, List.set_cons_zero, List.set_cons_succ]
        refine takeL (i := 15) (v := ?_) rfl (by kernel_rfl) (by kernel_rfl) (by kernel_rfl) (fun _ _ _ h => h) (Or.inl ⟨by rfl, ?_⟩) (by assumption) ?_
        rotate_left
        focus (intro w hSw; go_simp; try with_reducible rfl)
        simp only [Act.put, List.setIfInBounds_toArray, List.set_cons_zero, List.set_cons_succ]
        refine callL2 (i := 16) (j := 17) (by kernel_rfl) rfl rfl (fun K hQ => ?_) (fun K hQ => ?_)
        · go_simp
          refine hQ.out _ _ (Kp.alloc hK.drew _) (fun hHeld => ?_)
          clear hQ
          refine callL (i := 17) (by kernel_rfl) rfl (fun K hQ => ?_)
          go_simp
          refine hQ.out _ _ (Kp.alloc (Kp.alloc hK.drew _) _) (fun hHeld => ?_)
          clear hQ
          refine callL (i := 18) (by kernel_rfl) rfl (fun K hQ => ?_)
          go_simp
          refine hQ.out _ _ (Kp.drew (Kp.alloc (Kp.alloc hK _) _)) (fun hHeld => ?_)
          clear hQ
          refine callL (i := 19) (by kernel_rfl) rfl (fun K hQ => ?_)
          go_simp
          refine hQ.out _ _ (Kp.drew (Kp.alloc (Kp.alloc hK _) _)) (fun hHeld => ?_)
          clear hQ
          refine wpAnyH_done (by kernel_rfl) ?_ _
          go_wp2_with fail
          go_meet
          case rel => exact two_a hK
        · go_simp
          refine hQ.out _ _ (Kp.alloc hK.drew _) (fun hHeld => ?_)
          clear hQ
          refine callL (i := 16) (by kernel_rfl) rfl (fun K hQ => ?_)
          go_simp
          refine hQ.out _ _ (Kp.alloc (Kp.alloc hK.drew _) _) (fun hHeld => ?_)
          clear hQ
          refine callL (i := 18) (by kernel_rfl) rfl (fun K hQ => ?_)
          go_simp
          refine hQ.out _ _ (Kp.drew (Kp.alloc (Kp.alloc hK _) _)) (fun hHeld => ?_)
          clear hQ
          refine callL (i := 19) (by kernel_rfl) rfl (fun K hQ => ?_)
          go_simp
          refine hQ.out _ _ (Kp.drew (Kp.alloc (Kp.alloc hK _) _)) (fun hHeld => ?_)
          clear hQ
          refine wpAnyH_done (by kernel_rfl) ?_ _
          go_wp2_with fail
          go_meet
          case rel => exact two_b hK
      case rest =>
      obtain ⟨b7, b8, rfl, rfl, hb7, hb8, hKc⟩ := hcut
      obtain ⟨m0, m1, m2, m3, m4, m5, m6, m7, m8, m9, m10, m11, m12⟩ := hb7
      obtain ⟨n0, n1, n2, n3, n4, n5, n6, n7, n8, n9, n10, n11, n12⟩ := hb8
      clear hK f0 f1 f2 f3 f4 f5 f6 f7 f8 f9 f10 f11 h0 h1 h2 h3 h4 h5 h6 h7 h8 h9 h10 h11 r0 r1 r2 r3 r4 r5 r6 r7 r8 r9 r10 r11 r12 r13 r14 r15
      have HKc := hid hKc
      clear hKc
      go_wp2_with (first
        | (go_at_call 28
           with_reducible refine (hca.out _ HKc.out).mono ?_
           rintro e w5 ⟨rfl, hb5⟩
           have HK5 := hid (HKc.out.next hb5)
           have j8 := (hb5.cell (p := ⟨b7, 7, none⟩) m0).trans m8
           have j9 := (hb5.cell (p := ⟨b7, 8, none⟩) m0).trans m9
           have j10 := (hb5.cell (p := ⟨b7, 9, none⟩) m0).trans m10
           have j11 := (hb5.cell (p := ⟨b7, 10, none⟩) m0).trans m11
           have l8 := (hb5.cell (p := ⟨b8, 7, none⟩) n0).trans n8
           have l9 := (hb5.cell (p := ⟨b8, 8, none⟩) n0).trans n9
           have l10 := (hb5.cell (p := ⟨b8, 9, none⟩) n0).trans n10
           have l11 := (hb5.cell (p := ⟨b8, 10, none⟩) n0).trans n11
           clear hb5)
        | (go_at_call 28
           with_reducible refine (hcb.out _ HK5.out).mono ?_
           rintro e w6 ⟨rfl, hb6⟩
           have HK6 := hid (HK5.out.next hb6)
           clear hb6)
        | fail)
      go_roundw
      case rel => exact ⟨q + 1, by omega, by simp, HK6.out⟩
      case measure => simp [intOf]; omega
end Go.Proofs.YtcgpobeidlimkaaGreatDoor
