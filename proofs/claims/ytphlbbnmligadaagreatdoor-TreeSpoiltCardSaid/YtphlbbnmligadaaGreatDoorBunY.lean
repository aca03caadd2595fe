/- The program's word on whether rows of threads are the same. -/
import Derived.Test.YtphlbbnmligadaaGreatDoorSmW
import Derived.BigQuiet
import Derived.Deep.QuietTactic
namespace Go.Proofs.YtphlbbnmligadaaGreatDoor
open Go.RowKit

set_option maxRecDepth 100000 in
set_option maxHeartbeats 8000000 in
theorem eqFunT (l l' : List (List St)) (a a' : Option Addr) (cap cap' : Nat) (w : World) (hk : TsIn w (In_ w) a l.length cap l) (hk' : TsIn w (In_ w) a' l'.length cap' l') :
    Calls Tryz.prog 32 #[.slice a l.length cap, .slice a' l'.length cap', .func (.func 33) #[] #[]] w fun e w' => e = .returned (.bool (eqW (eqW eqS) l l')) ∧ Below w.heap.size w w' := by
  have hle := hk.le
  have hmx := hk.mx
  have hle' := hk'.le
  have hmx' := hk'.mx
  unfold maxLen at hmx hmx'
  have Hk := hid hk
  have Hk' := hid hk'
  clear hk hk'
  go_enter Tryz.func32, Tryz.ntmps32
  by_cases hl : l.length = l'.length
  case neg =>
    have e4 : ((l.length : Int) != l'.length) = true := by simpa using fun e => hl (by omega)
    go_wp2_with fail
    go_ret
    exact ⟨ret_bool (by rw [eqW_ne _ hl]), Below.refl _ _⟩
  have e4 : ((l.length : Int) != l'.length) = false := by rw [hl]; simp
  have Hl := hid hl
  clear hl
  go_wp2_with fail
  clear e4
  go_loopw [17] (fun i wr => ∃ q : Nat, q ≤ l.length ∧ i = .int .i64 q ∧ Hid (∀ i (h1 : i < l.length) (h2 : i < l'.length), i < q → eqW eqS l[i] l'[i] = true) ∧ Kp w wr) (fun i _ => l.length - (intOf i).toNat)
  case atStart => exact ⟨0, Nat.zero_le _, rfl, fun i _ _ h => absurd h (by omega), Kp.refl _⟩
  case round =>
    obtain ⟨q, hq, rfl, hI, hK⟩ := hrel
    have g0 := hK.1.size
    by_cases hlt : q < l.length
    case neg =>
      obtain rfl : q = l.length := by omega
      have hf : Hid (eqW (eqW eqS) l l' = true) := eqW_of (eqW eqS) Hl.out fun i h1 h2 => hI.out i h1 h2 h1
      clear hI
      go_wp2_with fail
      go_ret
      exact ⟨ret_bool (by rw [hf.out]), hK.1⟩
    have hlt' : q < l'.length := by have := Hl.out; omega
    obtain ⟨b, off, ar, kr, rfl, hb, f0, hx⟩ := Hk.out.at_ q hlt
    obtain ⟨b', off', ar', kr', rfl, hb', h0, hy⟩ := Hk'.out.at_ q hlt'
    have hbl : b < w.heap.size := hb
    have hbl' : b' < w.heap.size := hb'
    have q0 : (0 : Int) ≤ q := by omega
    have q1 : (q : Int) < l.length := by omega
    have q2 : (q : Int) < l'.length := by omega
    have gb : b < wr.heap.size := by omega
    have gb' : b' < wr.heap.size := by omega
    have hbad := hid (fun h => eqW_bad (eqW eqS) q hlt hlt' h)
    have hgood : Hid (eqW eqS l[q] l'[q] = true → ∀ i (h1 : i < l.length) (h2 : i < l'.length), i < q + 1 → eqW eqS l[i] l'[i] = true) := fun h i h1 h2 hi => by
      by_cases e : i = q
      · subst e; exact h
      · exact hI.out i h1 h2 (by omega)
    have hcall := hid (psamL_any l[q] l'[q] ar kr ar' kr' wr (hK.strow hx) (hK.strow hy))
    clear hx hy hI
    have HK := hid hK
    generalize eqW eqS l[q] l'[q] = bq at *
    generalize l[q].length = n1 at *
    generalize l'[q].length = n2 at *
    have HH := hid hlt'
    clear hlt'
    cases bq
    · have hf := hid (hbad.out rfl)
      clear hbad hgood
      go_wp2_with (first
        | (go_at_call 33
           with_reducible refine hcall.out.mono ?_
           rintro e w1 ⟨rfl, hb1⟩
           have HK1 := hid (HK.out.next hb1)
           clear hb1)
        | fail)
      go_ret
      exact ⟨ret_bool (by rw [hf.out]), HK1.out.1⟩
    · have hg := hid (hgood.out rfl)
      clear hbad hgood
      go_wp2_with (first
        | (go_at_call 33
           with_reducible refine hcall.out.mono ?_
           rintro e w1 ⟨rfl, hb1⟩
           have HK1 := hid (HK.out.next hb1)
           clear hb1)
        | fail)
      go_roundw
      case rel => exact ⟨q + 1, by omega, by simp, hg, HK1.out⟩
      case measure => simp [intOf]; omega
end Go.Proofs.YtphlbbnmligadaaGreatDoor
namespace Go.Proofs.YtphlbbnmligadaaGreatDoor
open Go.RowKit

set_option maxRecDepth 100000 in
set_option maxHeartbeats 8000000 in
theorem eqFunV (V V' : List ByteArray) (a a' : Option Addr) (cap cap' : Nat) (w : World) (hk : VrIn w (In_ w) a V.length cap V) (hk' : VrIn w (In_ w) a' V'.length cap' V') :
    Calls Tryz.prog 31 #[.slice a V.length cap, .slice a' V'.length cap'] w fun e w' => e = .returned (.bool (eqW eqB V V')) ∧ Below w.heap.size w w' := by
  have hle := hk.le
  have hmx := hk.mx
  have hle' := hk'.le
  have hmx' := hk'.mx
  unfold maxLen at hmx hmx'
  have Hk := hid hk
  have Hk' := hid hk'
  clear hk hk'
  go_enter Tryz.func31, Tryz.ntmps31
  by_cases hl : V.length = V'.length
  case neg =>
    have e4 : ((V.length : Int) != V'.length) = true := by simpa using fun e => hl (by omega)
    go_wp2_with fail
    go_ret
    exact ⟨ret_bool (by rw [eqW_ne _ hl]), Below.refl _ _⟩
  have e4 : ((V.length : Int) != V'.length) = false := by rw [hl]; simp
  have Hl := hid hl
  clear hl
  go_wp2_with fail
  clear e4
  go_loopw [13] (fun i wr => ∃ q : Nat, q ≤ V.length ∧ i = .int .i64 q ∧ Hid (∀ i (h1 : i < V.length) (h2 : i < V'.length), i < q → eqB V[i] V'[i] = true) ∧ Kp w wr) (fun i _ => V.length - (intOf i).toNat)
  case atStart => exact ⟨0, Nat.zero_le _, rfl, fun i _ _ h => absurd h (by omega), Kp.refl _⟩
  case round =>
    obtain ⟨q, hq, rfl, hI, hK⟩ := hrel
    have g0 := hK.1.size
    by_cases hlt : q < V.length
    case neg =>
      obtain rfl : q = V.length := by omega
      have hf : Hid (eqW eqB V V' = true) := eqW_of eqB Hl.out fun i h1 h2 => hI.out i h1 h2 h1
      clear hI
      go_wp2_with fail
      go_ret
      exact ⟨ret_bool (by rw [hf.out]), hK.1⟩
    have hlt' : q < V'.length := by have := Hl.out; omega
    obtain ⟨b, off, rfl, hb, f0⟩ := Hk.out.at_ q hlt
    obtain ⟨b', off', rfl, hb', h0⟩ := Hk'.out.at_ q hlt'
    have hbl : b < w.heap.size := hb
    have hbl' : b' < w.heap.size := hb'
    have q0 : (0 : Int) ≤ q := by omega
    have q1 : (q : Int) < V.length := by omega
    have q2 : (q : Int) < V'.length := by omega
    have gb : b < wr.heap.size := by omega
    have gb' : b' < wr.heap.size := by omega
    have hbad := hid (fun h => eqW_bad eqB q hlt hlt' h)
    have hgood : Hid (eqB V[q] V'[q] = true → ∀ i (h1 : i < V.length) (h2 : i < V'.length), i < q + 1 → eqB V[i] V'[i] = true) := fun h i h1 h2 hi => by
      by_cases e : i = q
      · subst e; exact h
      · exact hI.out i h1 h2 (by omega)
    clear hI
    generalize V[q] = X at *
    generalize V'[q] = Y at *
    have HH := hid hlt'
    clear hlt'
    by_cases hxy : X = Y
    · subst hxy
      have hg := hid (hgood.out (by simp [eqB]))
      clear hbad hgood
      go_wp2_with fail
      go_quiet (fail)
      have HKq := drewN_kp hK nq
      clear hK
      go_wp2_with fail
      go_roundw
      case rel => exact ⟨q + 1, by omega, by simp, hg, HKq⟩
      case measure => simp [intOf]; omega
    · have hf := hid (hbad.out (by simp [eqB, hxy]))
      clear hbad hgood
      have e6 : (X.toList == Y.toList) = false := by
        rw [Lib.toList_data, Lib.toList_data, beq_eq_false_iff_ne]
        exact fun h => hxy (by cases X; cases Y; simp only [ByteArray.mk.injEq]; exact Array.toList_inj.1 h)
      go_wp2_with fail
      go_quiet (fail)
      have HKq := drewN_kp hK nq
      clear hK
      go_wp2_with fail
      go_ret
      exact ⟨ret_bool (by rw [hf.out]), HKq.1⟩
end Go.Proofs.YtphlbbnmligadaaGreatDoor
namespace Go.Proofs.YtphlbbnmligadaaGreatDoor
open Go.RowKit

set_option maxRecDepth 100000 in
set_option maxHeartbeats 8000000 in
theorem pSame_any (p p' : Pg) (cs ds : List Value) (w : World) (hin : PgIn w (In_ w) cs p) (hin' : PgIn w (In_ w) ds p') :
    Calls Tryz.prog 14 #[.agg cs.toArray, .agg ds.toArray] w fun e w' => e = .returned (.bool (eqP p p')) ∧ Below w.heap.size w w' := by
  obtain ⟨va, cv, ta, ct, rfl, hv, ht, -⟩ := hin
  obtain ⟨va', cv', ta', ct', rfl, hv', ht', -⟩ := hin'
  have hres : eqP p p' = (p.dom == p'.dom && eqW eqB p.vars p'.vars && eqW (eqW eqS) p.ths p'.ths) := rfl
  have hcv : Hid (∀ W, Kp w W → Calls Tryz.prog 31 #[.slice va p.vars.length cv, .slice va' p'.vars.length cv'] W fun e w' => e = .returned (.bool (eqW eqB p.vars p'.vars)) ∧ Below W.heap.size W w') := fun W hW => eqFunV _ _ _ _ _ _ W (hW.vr hv) (hW.vr hv')
  have hct : Hid (∀ W, Kp w W → Calls Tryz.prog 32 #[.slice ta p.ths.length ct, .slice ta' p'.ths.length ct', .func (.func 33) #[] #[]] W fun e w' => e = .returned (.bool (eqW (eqW eqS) p.ths p'.ths)) ∧ Below W.heap.size W w') := fun W hW => eqFunT _ _ _ _ _ _ W (hW.ts ht) (hW.ts ht')
  clear hv hv' ht ht'
  generalize eqP p p' = bq at *
  generalize eqW eqB p.vars p'.vars = bv at *
  generalize eqW (eqW eqS) p.ths p'.ths = bt at *
  generalize p.vars.length = n1 at *
  generalize p'.vars.length = n2 at *
  generalize p.ths.length = n3 at *
  generalize p'.ths.length = n4 at *
  generalize p.dom = d at *
  generalize p'.dom = d' at *
  generalize hW : (w.alloc (.cells #[.slice va n1 cv, .int .i64 d, .slice ta n3 ct] 27)).alloc (.cells #[.slice va' n2 cv', .int .i64 d', .slice ta' n4 ct'] 27) = W0
  have hB : Below w.heap.size w W0 := by subst hW; exact ((Below.refl _ _).alloc (Nat.le_refl _) _).alloc (by simp) _
  have z1 : w.heap.size + 1 < W0.heap.size := by subst hW; simp
  have z0 : w.heap.size < W0.heap.size := by omega
  have c2 : W0.cell? ⟨w.heap.size, 2, none⟩ = some (.slice ta n3 ct) := by subst hW; go_simp
  have d2 : W0.cell? ⟨w.heap.size + 1, 2, none⟩ = some (.slice ta' n4 ct') := by subst hW; go_simp
  have HB := hid hB
  have HKc : Hid (Kp w W0) := Kp.of hB
  have hWx := hid hW
  have Hres := hid hres
  clear hW hB hres
  go_enter Tryz.func14, Tryz.ntmps14
  cases e1 : (d == d')
  · go_wp2_with fail
    rw [hWx.out]
    go_ret
    exact ⟨ret_bool (by rw [Hres.out, e1]; rfl), HB.out⟩
  have Hres2 : Hid (bq = (bv && bt)) := by show _ = _; rw [Hres.out, e1]; simp
  clear Hres
  cases bv
  · go_wp2_with (first
      | (go_at_call 31
         rw [hWx.out]
         with_reducible refine (hcv.out _ HKc.out).mono ?_
         rintro e w5 ⟨rfl, hb⟩
         have HK5 := hid (HKc.out.next hb)
         clear hb)
      | fail)
    go_ret
    exact ⟨ret_bool (by rw [Hres2.out]; simp), HK5.out.1⟩
  go_wp2_with (first
    | (go_at_call 31
       rw [hWx.out]
       with_reducible refine (hcv.out _ HKc.out).mono ?_
       rintro e w5 ⟨rfl, hb⟩
       have HK5 := hid (HKc.out.next hb)
       have c25 := (hb.cell (p := ⟨w.heap.size, 2, none⟩) z0).trans c2
       have d25 := (hb.cell (p := ⟨w.heap.size + 1, 2, none⟩) z1).trans d2
       have z05 := Nat.lt_of_lt_of_le z0 hb.size
       have z15 := Nat.lt_of_lt_of_le z1 hb.size
       clear hb)
    | (go_at_call 32
       with_reducible refine (hct.out _ HK5.out).mono ?_
       rintro e w6 ⟨rfl, hb⟩
       have HK6 := hid (HK5.out.next hb)
       clear hb)
    | fail)
  go_ret
  exact ⟨ret_bool (by rw [Hres2.out]; simp), HK6.out.1⟩
end Go.Proofs.YtphlbbnmligadaaGreatDoor
