/- The document's word on whether two expressions are the same. -/
import Derived.Test.YtphlbbnmligadaaGreatDoorBunS
import Derived.Test.YtphlbbnmligadaaGreatDoorBunM
import Derived.Test.YtphlbbnmligadaaGreatDoorRows
import Derived.StillTailTactics
namespace Go.Proofs.YtphlbbnmligadaaGreatDoor
open Go.RowKit

def SamC (x : Ex) : Prop := ∀ (y : Ex) (cs ds : List Value) (w : World), ExIn w (In_ w) cs x → ExIn w (In_ w) ds y →
  Calls Tryz.prog 109 #[.agg cs.toArray, .agg ds.toArray] w fun e w' => e = .returned (.bool (eqE x y)) ∧ Below w.heap.size w w'

theorem eqW_step {α : Type} (f : α → α → Bool) {a b : List α} (h : a.length = b.length) (hb : ∀ i (h1 : i < a.length) (h2 : i < b.length), i < a.length → f a[i] b[i] = true) : eqW f a b = true := eqW_of f h fun i h1 h2 => hb i h1 h2 h1

set_option maxRecDepth 100000 in
set_option maxHeartbeats 8000000 in
theorem samE_step (k n o : Int) (l : List Ex) (ih : ∀ x, x ∈ l → SamC x) : SamC (.mk k n o l) := by
  intro y cs ds w hin hin2
  obtain ⟨k', n', o', l'⟩ := y
  have hres := eqE_mk k n o k' n' o' l l'
  obtain ⟨a, cap, rfl, hle, hmx, -, -, -, hk⟩ := hin.open_
  obtain ⟨a', cap', rfl, hle', hmx', -, -, -, hk'⟩ := hin2.open_
  unfold maxLen at hmx hmx'
  generalize hW : (w.alloc (.cells #[.int .i64 k, .int .i64 n, .int .u8 o, .slice a l.length cap] 44)).alloc (.cells #[.int .i64 k', .int .i64 n', .int .u8 o', .slice a' l'.length cap'] 44) = W0
  have hB : Below w.heap.size w W0 := by subst hW; exact ((Below.refl _ _).alloc (Nat.le_refl _) _).alloc (by simp) _
  have z1 : w.heap.size + 1 < W0.heap.size := by subst hW; simp
  have z0 : w.heap.size < W0.heap.size := by omega
  have c0 : W0.cell? ⟨w.heap.size, 0, none⟩ = some (.int .i64 k) := by subst hW; go_simp
  have c1 : W0.cell? ⟨w.heap.size, 1, none⟩ = some (.int .i64 n) := by subst hW; go_simp
  have c2 : W0.cell? ⟨w.heap.size, 2, none⟩ = some (.int .u8 o) := by subst hW; go_simp
  have c3 : W0.cell? ⟨w.heap.size, 3, none⟩ = some (.slice a l.length cap) := by subst hW; go_simp
  have d0 : W0.cell? ⟨w.heap.size + 1, 0, none⟩ = some (.int .i64 k') := by subst hW; go_simp
  have d1 : W0.cell? ⟨w.heap.size + 1, 1, none⟩ = some (.int .i64 n') := by subst hW; go_simp
  have d2 : W0.cell? ⟨w.heap.size + 1, 2, none⟩ = some (.int .u8 o') := by subst hW; go_simp
  have d3 : W0.cell? ⟨w.heap.size + 1, 3, none⟩ = some (.slice a' l'.length cap') := by subst hW; go_simp
  have Hk := hid hk
  have Hk' := hid hk'
  have HB := hid hB
  have HKB : Hid (Kp w W0) := Kp.of hB
  have hWx := hid hW
  have Hih := hid ih
  have Hres := hid hres
  clear hW hB hin hin2 hk hk' ih hres
  go_enter Tryz.func109, Tryz.ntmps109
  cases e1 : (k == k')
  · have e1' : (k != k') = true := by simpa using e1
    go_wp2_with fail
    rw [hWx.out]
    go_ret
    exact ⟨ret_bool (by rw [Hres.out, e1]; rfl), HB.out⟩
  have e1' : (k != k') = false := by simpa using e1
  cases e2 : (n == n')
  · have e2' : (n != n') = true := by simpa using e2
    go_wp2_with fail
    rw [hWx.out]
    go_ret
    exact ⟨ret_bool (by rw [Hres.out, e2]; simp), HB.out⟩
  have e2' : (n != n') = false := by simpa using e2
  cases e3 : (o == o')
  · have e3' : (o != o') = true := by simpa using e3
    go_wp2_with fail
    rw [hWx.out]
    go_ret
    exact ⟨ret_bool (by rw [Hres.out, e3]; simp), HB.out⟩
  have e3' : (o != o') = false := by simpa using e3
  by_cases hl : l.length = l'.length
  case neg =>
    have e4 : ((l.length : Int) != l'.length) = true := by simpa using fun e => hl (by omega)
    go_wp2_with fail
    rw [hWx.out]
    go_ret
    exact ⟨ret_bool (by rw [Hres.out, eqW_ne _ hl]; simp), HB.out⟩
  have e4 : ((l.length : Int) != l'.length) = false := by rw [hl]; simp
  have Hres2 : Hid (eqE (.mk k n o l) (.mk k' n' o' l') = eqW eqE l l') := by show _ = _; rw [Hres.out, e1, e2, e3]; rfl
  have Hl := hid hl
  clear Hres hl
  go_wp2_with fail
  rw [hWx.out]
  clear e1 e2 e3 e1' e2' e3' e4
  go_loopw [5] (fun i wr => ∃ q : Nat, q ≤ l.length ∧ i = .int .i64 q ∧ Hid (∀ i (h1 : i < l.length) (h2 : i < l'.length), i < q → eqE l[i] l'[i] = true) ∧ Kp W0 wr) (fun i _ => l.length - (intOf i).toNat)
  case atStart => exact ⟨0, Nat.zero_le _, rfl, fun i _ _ h => absurd h (by omega), Kp.refl _⟩
  case round =>
    obtain ⟨q, hq, rfl, hI, hK⟩ := hrel
    have g0 := hK.1.size
    have g4 : w.heap.size < wr.heap.size := by omega
    have g5 : w.heap.size + 1 < wr.heap.size := by omega
    by_cases hlt : q < l.length
    · have hlt' : q < l'.length := by have := Hl.out; omega
      obtain ⟨b, off, u0, u1, u2, u3, rfl, hb, f0, f1, f2, f3, hx⟩ := Hk.out q hlt
      obtain ⟨b', off', v0, v1, v2, v3, rfl, hb', h0, h1, h2, h3, hy⟩ := Hk'.out q hlt'
      have hbl : b < w.heap.size := hb
      have hbl' : b' < w.heap.size := hb'
      rw [← HKB.out.2 _ _ hbl] at f0 f1 f2 f3
      rw [← HKB.out.2 _ _ hbl'] at h0 h1 h2 h3
      have q0 : (0 : Int) ≤ q := by omega
      have q1 : (q : Int) < l.length := by omega
      have q2 : (q : Int) < l'.length := by omega
      have gb : b < W0.heap.size := by omega
      have gb' : b' < W0.heap.size := by omega
      have hbad := hid (fun h => eqW_bad eqE q hlt hlt' h)
      have hgood : Hid (eqE l[q] l'[q] = true → ∀ i (h1 : i < l.length) (h2 : i < l'.length), i < q + 1 → eqE l[i] l'[i] = true) := fun h i h1 h2 hi => by
        by_cases e : i = q
        · subst e; exact h
        · exact hI.out i h1 h2 (by omega)
      have hcall := hid (Hih.out l[q] (List.getElem_mem hlt) l'[q] [u0, u1, u2, u3] [v0, v1, v2, v3] wr.drew ((hK.drew).ex (HKB.out.ex hx)) ((hK.drew).ex (HKB.out.ex hy)))
      clear hx hy hI
      have HK := hid hK
      rw [← hK.2 _ _ gb] at f0 f1 f2 f3
      rw [← hK.2 _ _ gb'] at h0 h1 h2 h3
      have k3 := (hK.2 _ _ z0).trans c3
      have k3' := (hK.2 _ _ z1).trans d3
      clear hK
      generalize hbq : eqE l[q] l'[q] = bq at *
      clear hbq
      go_wp2_with fail
      go_still_tail 10, (by kernel_rfl)
      change wpList _ _ _ _ _ wr.drew
      cases bq
      · have hf := hid (hbad.out rfl)
        go_wp2_with (first
          | (go_at_call 109
             with_reducible refine hcall.out.mono ?_
             rintro e w1 ⟨rfl, hb1⟩
             have HK1 := hid (HK.out.drew.next hb1)
             clear hb1)
          | fail)
        go_ret
        exact ⟨ret_bool (by rw [Hres2.out, hf.out]), Kp.fin HB.out HK1.out⟩
      · have hg := hid (hgood.out rfl)
        go_wp2_with (first
          | (go_at_call 109
             with_reducible refine hcall.out.mono ?_
             rintro e w1 ⟨rfl, hb1⟩
             have HK1 := hid (HK.out.drew.next hb1)
             clear hb1)
          | fail)
        go_roundw
        case rel => exact ⟨q + 1, by omega, by simp, hg, HK1.out⟩
        case measure => simp [intOf]; omega
    · obtain rfl : q = l.length := by omega
      have hf : Hid (eqW eqE l l' = true) := eqW_of eqE Hl.out fun i h1 h2 => hI.out i h1 h2 h1
      clear hI
      go_wp2_with fail
      go_ret
      exact ⟨ret_bool (by rw [Hres2.out, hf.out]), Kp.fin HB.out hK⟩
theorem samE_any (x : Ex) : SamC x := by
  induction x using Ex.ind with
  | h k n o l ih => exact samE_step k n o l ih
end Go.Proofs.YtphlbbnmligadaaGreatDoor
