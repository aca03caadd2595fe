/- The document's word on whether two programs are the same. -/
import Derived.Test.YtphlbbnmligadaaGreatDoorSmR
namespace Go.Proofs.YtphlbbnmligadaaGreatDoor
open Go.RowKit

set_option maxRecDepth 100000 in
set_option maxHeartbeats 8000000 in
theorem rSame_any (p p' : Pg) (cs ds : List Value) (w : World) (hin : PgIn w (In_ w) cs p) (hin' : PgIn w (In_ w) ds p') :
    Calls Tryz.prog 39 #[.agg cs.toArray, .agg ds.toArray] w fun e w' => e = .returned (.bool (eqP p p')) ∧ Below w.heap.size w w' := by
  obtain ⟨va, cv, ta, ct, rfl, hv, ht, hdw⟩ := hin
  obtain ⟨va', cv', ta', ct', rfl, hv', ht', hdw'⟩ := hin'
  have hres : eqP p p' = (p.dom == p'.dom && eqW eqB p.vars p'.vars && eqW (eqW eqS) p.ths p'.ths) := rfl
  generalize p.vars = V at *
  generalize p'.vars = V' at *
  generalize p.ths = T at *
  generalize p'.ths = T' at *
  generalize p.dom = d at *
  generalize p'.dom = d' at *
  have hle := hv.le
  have hmx := hv.mx
  have hle' := hv'.le
  have hmx' := hv'.mx
  have tle := ht.le
  have tmx := ht.mx
  have tle' := ht'.le
  have tmx' := ht'.mx
  unfold maxLen at hmx hmx' tmx tmx'
  generalize hW : (w.alloc (.cells #[.slice va V.length cv, .int .i64 d, .slice ta T.length ct] 27)).alloc (.cells #[.slice va' V'.length cv', .int .i64 d', .slice ta' T'.length ct'] 27) = W0
  have hB : Below w.heap.size w W0 := by subst hW; exact ((Below.refl _ _).alloc (Nat.le_refl _) _).alloc (by simp) _
  have z1 : w.heap.size + 1 < W0.heap.size := by subst hW; simp
  have z0 : w.heap.size < W0.heap.size := by omega
  have c0 : W0.cell? ⟨w.heap.size, 0, none⟩ = some (.slice va V.length cv) := by subst hW; go_simp
  have c1 : W0.cell? ⟨w.heap.size, 1, none⟩ = some (.int .i64 d) := by subst hW; go_simp
  have c2 : W0.cell? ⟨w.heap.size, 2, none⟩ = some (.slice ta T.length ct) := by subst hW; go_simp
  have d0 : W0.cell? ⟨w.heap.size + 1, 0, none⟩ = some (.slice va' V'.length cv') := by subst hW; go_simp
  have d1 : W0.cell? ⟨w.heap.size + 1, 1, none⟩ = some (.int .i64 d') := by subst hW; go_simp
  have d2 : W0.cell? ⟨w.heap.size + 1, 2, none⟩ = some (.slice ta' T'.length ct') := by subst hW; go_simp
  have Hv := hid ((Kp.of hB).vr hv)
  have Hv' := hid ((Kp.of hB).vr hv')
  have Ht := hid ((Kp.of hB).ts ht)
  have Ht' := hid ((Kp.of hB).ts ht')
  have HB := hid hB
  have hWx := hid hW
  have Hres := hid hres
  clear hW hB hv hv' ht ht' hres
  go_enter Tryz.func39, Tryz.ntmps39
  cases e1 : (d == d')
  · have e1' : (d != d') = true := by simpa using e1
    go_wp2_with fail
    rw [hWx.out]
    go_ret
    exact ⟨ret_bool (by rw [Hres.out, e1]; rfl), HB.out⟩
  have e1' : (d != d') = false := by simpa using e1
  by_cases hl : V.length = V'.length
  case neg =>
    have e4 : ((V.length : Int) != V'.length) = true := by simpa using fun e => hl (by omega)
    go_wp2_with fail
    rw [hWx.out]
    go_ret
    exact ⟨ret_bool (by rw [Hres.out, eqW_ne _ hl]; simp), HB.out⟩
  have e4 : ((V.length : Int) != V'.length) = false := by rw [hl]; simp
  have Hl := hid hl
  clear hl
  by_cases hl2 : T.length = T'.length
  case neg =>
    have e5 : ((T.length : Int) != T'.length) = true := by simpa using fun e => hl2 (by omega)
    go_wp2_with fail
    rw [hWx.out]
    go_ret
    exact ⟨ret_bool (by rw [Hres.out, eqW_ne (eqW eqS) hl2]; simp), HB.out⟩
  have e5 : ((T.length : Int) != T'.length) = false := by rw [hl2]; simp
  have Hres2 : Hid (eqP p p' = (eqW eqB V V' && eqW (eqW eqS) T T')) := by show _ = _; rw [Hres.out, e1]; simp
  have Hl2 := hid hl2
  clear Hres hl2
  go_wp2_with fail
  rw [hWx.out]
  clear e1 e1' e4 e5
  go_loopw [5] (fun i wr => ∃ q : Nat, q ≤ V.length ∧ i = .int .i64 q ∧ Hid (∀ i (h1 : i < V.length) (h2 : i < V'.length), i < q → eqB V[i] V'[i] = true) ∧ Kp W0 wr) (fun i _ => V.length - (intOf i).toNat)
  case atStart => exact ⟨0, Nat.zero_le _, rfl, fun i _ _ h => absurd h (by omega), Kp.refl _⟩
  case round =>
    obtain ⟨q, hq, rfl, hI, hK⟩ := hrel
    have g0 := hK.1.size
    have g4 : w.heap.size < wr.heap.size := by omega
    have g5 : w.heap.size + 1 < wr.heap.size := by omega
    by_cases hlt : q < V.length
    · have hlt' : q < V'.length := by have := Hl.out; omega
      obtain ⟨b, off, rfl, hb, f0⟩ := Hv.out.at_ q hlt
      obtain ⟨b', off', rfl, hb', h0⟩ := Hv'.out.at_ q hlt'
      have hbl := hb.lt
      have hbl' := hb'.lt
      have q0 : (0 : Int) ≤ q := by omega
      have q1 : (q : Int) < V.length := by omega
      have q2 : (q : Int) < V'.length := by omega
      have gb : b < wr.heap.size := by omega
      have gb' : b' < wr.heap.size := by omega
      have hbad := hid (fun h => eqW_bad eqB q hlt hlt' h)
      have hgood : Hid (eqB V[q] V'[q] = true → ∀ i (h1 : i < V.length) (h2 : i < V'.length), i < q + 1 → eqB V[i] V'[i] = true) := fun h i h1 h2 hi => by
        by_cases e : i = q
        · subst e; exact h
        · exact hI.out i h1 h2 (by omega)
      clear hI
      generalize V[q] = X at *
      generalize V'[q] = Y at *
      have HH := hid hlt'
      clear hlt'
      by_cases hxy : X = Y
      · subst hxy
        have hg := hid (hgood.out (by simp [eqB]))
        clear hbad hgood
        go_wp2_with fail
        go_quiet (fail)
        have HKq := drewN_kp hK nq
        clear hK
        go_wp2_with fail
        go_roundw
        case rel => exact ⟨q + 1, by omega, by simp, hg, HKq⟩
        case measure => simp [intOf]; omega
      · have hf := hid (hbad.out (by simp [eqB, hxy]))
        clear hbad hgood
        have e6 : (X.toList == Y.toList) = false := by
          rw [Lib.toList_data, Lib.toList_data, beq_eq_false_iff_ne]
          exact fun h => hxy (by cases X; cases Y; simp only [ByteArray.mk.injEq]; exact Array.toList_inj.1 h)
        go_wp2_with fail
        go_quiet (fail)
        have HKq := drewN_kp hK nq
        clear hK
        go_wp2_with fail
        go_ret
        exact ⟨ret_bool (by rw [Hres2.out, hf.out]; simp), Kp.fin HB.out HKq⟩
    obtain rfl : q = V.length := by omega
    have hfv : Hid (eqW eqB V V' = true) := eqW_of eqB Hl.out fun i h1 h2 => hI.out i h1 h2 h1
    clear hI
    go_wp2_with fail
    go_loopw [6] (fun i wr => ∃ q : Nat, q ≤ T.length ∧ i = .int .i64 q ∧ Hid (∀ i (h1 : i < T.length) (h2 : i < T'.length), i < q → eqW eqS T[i] T'[i] = true) ∧ Kp W0 wr) (fun i _ => T.length - (intOf i).toNat)
    case atStart => exact ⟨0, Nat.zero_le _, rfl, fun i _ _ h => absurd h (by omega), hK⟩
    case round =>
      clear hK g0 g4 g5
      obtain ⟨q, hq, rfl, hI, hK⟩ := hrel
      have g0 := hK.1.size
      have g4 : w.heap.size < wr.heap.size := by omega
      have g5 : w.heap.size + 1 < wr.heap.size := by omega
      by_cases hlt : q < T.length
      case neg =>
        obtain rfl : q = T.length := by omega
        have hft : Hid (eqW (eqW eqS) T T' = true) := eqW_of (eqW eqS) Hl2.out fun i h1 h2 => hI.out i h1 h2 h1
        clear hI
        go_wp2_with fail
        go_ret
        exact ⟨ret_bool (by rw [Hres2.out, hfv.out, hft.out]; rfl), Kp.fin HB.out hK⟩
      have hlt' : q < T'.length := by have := Hl2.out; omega
      obtain ⟨b, off, ar, kr, rfl, hb, f0, hrow⟩ := Ht.out.at_ q hlt
      obtain ⟨b', off', ar', kr', rfl, hb', h0, hrow'⟩ := Ht'.out.at_ q hlt'
      have hbl := hb.lt
      have hbl' := hb'.lt
      have q0 : (0 : Int) ≤ q := by omega
      have q1 : (q : Int) < T.length := by omega
      have q2 : (q : Int) < T'.length := by omega
      have gb : b < W0.heap.size := by omega
      have gb' : b' < W0.heap.size := by omega
      have hbad := hid (fun h => eqW_bad (eqW eqS) q hlt hlt' h)
      have hgood : Hid (eqW eqS T[q] T'[q] = true → ∀ i (h1 : i < T.length) (h2 : i < T'.length), i < q + 1 → eqW eqS T[i] T'[i] = true) := fun h i h1 h2 hi => by
        by_cases e : i = q
        · subst e; exact h
        · exact hI.out i h1 h2 (by omega)
      have hcall := hid (samL_any T[q] T'[q] ar kr ar' kr' wr.drew (hK.drew.strow hrow) (hK.drew.strow hrow'))
      clear hrow hrow' hI
      have HK := hid hK
      rw [← hK.2 _ _ gb] at f0
      rw [← hK.2 _ _ gb'] at h0
      have k3 := (hK.2 _ _ z0).trans c2
      have k3' := (hK.2 _ _ z1).trans d2
      generalize eqW eqS T[q] T'[q] = bq at *
      generalize T[q].length = n1 at *
      generalize T'[q].length = n2 at *
      have HH := hid hlt'
      clear hK hlt'
      go_wp2_with fail
      go_still_tail 10, (by kernel_rfl)
      change wpList _ _ _ _ _ wr.drew
      cases bq
      · have hf := hid (hbad.out rfl)
        clear hbad hgood
        go_wp2_with (first
          | (go_at_call 67
             with_reducible refine hcall.out.mono ?_
             rintro e w1 ⟨rfl, hb1⟩
             have HK1 := hid (HK.out.drew.next hb1)
             clear hb1)
          | fail)
        go_ret
        exact ⟨ret_bool (by rw [Hres2.out, hf.out]; simp), Kp.fin HB.out HK1.out⟩
      · have hg := hid (hgood.out rfl)
        clear hbad hgood
        go_wp2_with (first
          | (go_at_call 67
             with_reducible refine hcall.out.mono ?_
             rintro e w1 ⟨rfl, hb1⟩
             have HK1 := hid (HK.out.drew.next hb1)
             clear hb1)
          | fail)
        go_roundw
        case rel => exact ⟨q + 1, by omega, by simp, hg, HK1.out⟩
        case measure => simp [intOf]; omega
end Go.Proofs.YtphlbbnmligadaaGreatDoor
