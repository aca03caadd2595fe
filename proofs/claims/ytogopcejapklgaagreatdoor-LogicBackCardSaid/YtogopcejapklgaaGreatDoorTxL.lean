/- The document's Same. -/
import Derived.Test.YtogopcejapklgaaGreatDoorTxK
namespace Go.Proofs.YtogopcejapklgaaGreatDoor
open Go Go.RowKit

def RSaF (x : Fm) : Prop := ∀ (y : Fm) (cs ds : List Value) (w : World), FmIn w (In_ w) cs x → FmIn w (In_ w) ds y →
  Calls Tryz.prog 13 #[.agg cs.toArray, .agg ds.toArray] w fun e w' => e = .returned (.bool (eqF x y)) ∧ Below w.heap.size w w'

set_option maxRecDepth 100000 in
set_option maxHeartbeats 8000000 in
theorem rsamF_step (k : Int) (p : Pr) (l : List Fm) (ih : ∀ x, x ∈ l → RSaF x) : RSaF (.mk k p l) := by
  intro y cs ds w hin hin2
  obtain ⟨k', p', l'⟩ := y
  have hres := eqF_mk k k' p p' l l'
  obtain ⟨a, cap, rfl, -, -, hk⟩ := hin.open_
  obtain ⟨a', cap', rfl, -, -, hk'⟩ := hin2.open_
  obtain ⟨pk, pt, pa, pn⟩ := p
  obtain ⟨pk', pt', pa', pn'⟩ := p'
  simp only [eqP] at hres
  have hle := hk.le
  have hmx := hk.mx
  have hle' := hk'.le
  have hmx' := hk'.mx
  unfold maxLen at hmx hmx'
  have hAA : Hid (∀ o1 o2, Below w.heap.size w ((w.alloc o1).alloc o2)) := hid fun o1 o2 => ((Below.refl _ _).alloc (Nat.le_refl _) _).alloc (by simp) _
  have Hres := hid hres
  have Hk := hid hk
  have Hk' := hid hk'
  have Hih := hid ih
  clear hin hin2 hk hk' ih hres
  go_enter Tryz.func13, Tryz.ntmps13
  cases e1 : (k == k')
  · have e1' : (k != k') = true := by simpa using e1
    go_wp2_with fail
    go_ret
    exact ⟨ret_bool (by rw [Hres.out, e1]; rfl), hAA.out _ _⟩
  have e1' : (k != k') = false := by simpa using e1
  by_cases h_pk : pk = pk'
  case neg =>
    have hbq : (pk == pk') = false := by simpa using h_pk
    go_wp2_with fail
    go_ret
    exact ⟨ret_bool (by rw [Hres.out, hbq]; simp), hAA.out _ _⟩
  subst h_pk
  by_cases h_pt : pt = pt'
  case neg =>
    have hbq : (pt == pt') = false := by simpa using h_pt
    go_wp2_with fail
    go_ret
    exact ⟨ret_bool (by rw [Hres.out, hbq]; simp), hAA.out _ _⟩
  subst h_pt
  by_cases h_pa : pa = pa'
  case neg =>
    have hbq : (pa == pa') = false := by simpa using h_pa
    go_wp2_with fail
    go_ret
    exact ⟨ret_bool (by rw [Hres.out, hbq]; simp), hAA.out _ _⟩
  subst h_pa
  by_cases h_pn : pn = pn'
  case neg =>
    have hbq : (pn == pn') = false := by simpa using h_pn
    go_wp2_with fail
    go_ret
    exact ⟨ret_bool (by rw [Hres.out, hbq]; simp), hAA.out _ _⟩
  subst h_pn
  have Hres2 : Hid (eqF (.mk k ⟨pk, pt, pa, pn⟩ l) (.mk k' ⟨pk, pt, pa, pn⟩ l') = eqL l l') := by show _ = _; rw [Hres.out, e1]; simp
  clear Hres
  by_cases hl : l.length = l'.length
  case neg =>
    have e4 : ((l.length : Int) != l'.length) = true := by simpa using fun e => hl (by omega)
    go_wp2_with fail
    go_ret
    exact ⟨ret_bool (by rw [Hres2.out, eqL_ne hl]), hAA.out _ _⟩
  have e4 : ((l.length : Int) != l'.length) = false := by rw [hl]; simp
  have Hl := hid hl
  clear hl
  go_upto_region 3 with fail
  generalize hW : World.alloc _ _ = W0
  have hB0 : Hid (Below w.heap.size w W0) := by subst hW; exact hid (hAA.out _ _)
  have hp : Hid (W0.heap[w.heap.size]? = some (fmO k ⟨pk, pt, pa, pn⟩ (.slice a l.length cap)) ∧ W0.heap[w.heap.size + 1]? = some (fmO k' ⟨pk, pt, pa, pn⟩ (.slice a' l'.length cap'))) := by
    subst hW
    exact hid ⟨(Below.heap_alloc _ _ _ (by simp)).trans (alloc_at rfl), alloc_at (by simp)⟩
  clear hW e4 e1 e1'
  go_wp2_with fail
  go_loopw [5] (fun i wr => ∃ q : Nat, q ≤ l.length ∧ i = .int .i64 q ∧ Hid (∀ i (h1 : i < l.length) (h2 : i < l'.length), i < q → eqF l[i] l'[i] = true) ∧ Hid (Below W0.heap.size W0 wr)) (fun i _ => l.length - (intOf i).toNat)
  case atStart => exact ⟨0, Nat.zero_le _, rfl, fun i _ _ h => absurd h (by omega), Below.refl _ _⟩
  case round =>
    obtain ⟨q, hq, rfl, hI, hK0⟩ := hrel
    have hK := hid (hB0.out.trans (hK0.out.mono hB0.out.size))
    have gs0 := (Array.getElem?_eq_some_iff.1 hp.out.2).1
    have p0 := (hK0.out.block _ (Nat.lt_of_succ_lt gs0)).trans hp.out.1
    have p1 := (hK0.out.block _ gs0).trans hp.out.2
    have y5 : wr.cell? ⟨w.heap.size, 5, none⟩ = some (.slice a l.length cap) := by rw [cell_of_heap p0]; rfl
    have y5' : wr.cell? ⟨w.heap.size + 1, 5, none⟩ = some (.slice a' l'.length cap') := by rw [cell_of_heap p1]; rfl
    have gw' : w.heap.size + 1 < wr.heap.size := (Array.getElem?_eq_some_iff.1 p1).1
    have gw : w.heap.size < wr.heap.size := by omega
    clear p0 p1
    by_cases hlt : q < l.length
    case neg =>
      obtain rfl : q = l.length := by omega
      have hf : Hid (eqL l l' = true) := hid ((eqL_take Hl.out).2 fun i h1 h2 => hI.out i h1 h2 h1)
      clear hI
      go_wp2_with fail
      go_ret
      exact ⟨ret_bool (by rw [Hres2.out, hf.out]), hK.out⟩
    have hlt' : q < l'.length := by have := Hl.out; omega
    have hin' : FmRow wr (In_ w) a l.length cap l := Hk.out.keep fun b o hb => hK.out.cell (p := ⟨b, o, none⟩) hb
    have hin2 : FmRow wr (In_ w) a' l'.length cap' l' := Hk'.out.keep fun b o hb => hK.out.cell (p := ⟨b, o, none⟩) hb
    obtain ⟨b, off, ka, kc, rfl, hb, ⟨e0, e1, e2, e3, e4, e5⟩, -, hfm⟩ := hin'.at_ q hlt
    obtain ⟨b', off', ka', kc', rfl, hb', ⟨d0, d1, d2, d3, d4, d5⟩, -, hfm'⟩ := hin2.at_ q hlt'
    have g0 := hK.out.size
    have hbl : b < w.heap.size := hb
    have hbl' : b' < w.heap.size := hb'
    have q0 : (0 : Int) ≤ q := by omega
    have q1 : (q : Int) < l.length := by omega
    have q2 : (q : Int) < l'.length := by omega
    have gb : b < wr.heap.size := by omega
    have gb' : b' < wr.heap.size := by omega
    have hbad := hid (fun h => eqL_bad hlt hlt' h)
    have hgood : Hid (eqF l[q] l'[q] = true → ∀ i (h1 : i < l.length) (h2 : i < l'.length), i < q + 1 → eqF l[i] l'[i] = true) := fun h i h1 h2 hi => by
      by_cases e : i = q
      · subst e; exact h
      · exact hI.out i h1 h2 (by omega)
    have hcall : Hid (∀ W, Below wr.heap.size wr W → Calls Tryz.prog 13 #[.agg #[.int .i64 l[q].kind, .int .i64 l[q].prop.k, .int .i64 l[q].prop.t, .int .i64 l[q].prop.a, .int .i64 l[q].prop.n, .slice ka l[q].kids.length kc], .agg #[.int .i64 l'[q].kind, .int .i64 l'[q].prop.k, .int .i64 l'[q].prop.t, .int .i64 l'[q].prop.a, .int .i64 l'[q].prop.n, .slice ka' l'[q].kids.length kc']] W fun e w' => e = .returned (.bool (eqF l[q] l'[q])) ∧ Below W.heap.size W w') :=
      hid fun W hbW => Hih.out l[q] (List.getElem_mem hlt) l'[q] _ _ W
        ((hfm.keep fun b o hb => hbW.cell (p := ⟨b, o, none⟩) (Nat.lt_of_lt_of_le hb g0)).widen fun b hb => Nat.lt_of_lt_of_le hb (Nat.le_trans g0 hbW.size))
        ((hfm'.keep fun b o hb => hbW.cell (p := ⟨b, o, none⟩) (Nat.lt_of_lt_of_le hb g0)).widen fun b hb => Nat.lt_of_lt_of_le hb (Nat.le_trans g0 hbW.size))
    generalize eqF l[q] l'[q] = bq at *
    generalize l[q].kind = kd at *
    generalize l[q].prop.k = xk at *
    generalize l[q].prop.t = xt at *
    generalize l[q].prop.a = xa at *
    generalize l[q].prop.n = xn at *
    generalize l[q].kids.length = kl at *
    generalize l'[q].kind = kd' at *
    generalize l'[q].prop.k = xk' at *
    generalize l'[q].prop.t = xt' at *
    generalize l'[q].prop.a = xa' at *
    generalize l'[q].prop.n = xn' at *
    generalize l'[q].kids.length = kl' at *
    have HK0 := hid hK0.out
    clear hI hin' hin2 hfm hfm' hlt'
    cases bq
    · have hf := hid (hbad.out rfl)
      clear hbad hgood
      go_upto_region 6 with fail
      refine wp_region_held_drew (S := fun W => W.cell? ⟨w.heap.size, 5, none⟩ = some (.slice (some ⟨b, off, none⟩) l.length cap) ∧ W.cell? ⟨w.heap.size + 1, 5, none⟩ = some (.slice (some ⟨b', off', none⟩) l'.length cap') ∧ W.cell? ⟨b, off + q * 6, none⟩ = some (.int .i64 kd) ∧ W.cell? ⟨b, off + q * 6 + 1, none⟩ = some (.int .i64 xk) ∧ W.cell? ⟨b, off + q * 6 + 2, none⟩ = some (.int .i64 xt) ∧ W.cell? ⟨b, off + q * 6 + 3, none⟩ = some (.int .i64 xa) ∧ W.cell? ⟨b, off + q * 6 + 4, none⟩ = some (.int .i64 xn) ∧ W.cell? ⟨b, off + q * 6 + 5, none⟩ = some (.slice ka kl kc) ∧ W.cell? ⟨b', off' + q * 6, none⟩ = some (.int .i64 kd') ∧ W.cell? ⟨b', off' + q * 6 + 1, none⟩ = some (.int .i64 xk') ∧ W.cell? ⟨b', off' + q * 6 + 2, none⟩ = some (.int .i64 xt') ∧ W.cell? ⟨b', off' + q * 6 + 3, none⟩ = some (.int .i64 xa') ∧ W.cell? ⟨b', off' + q * 6 + 4, none⟩ = some (.int .i64 xn') ∧ W.cell? ⟨b', off' + q * 6 + 5, none⟩ = some (.slice ka' kl' kc')) (by kernel_rfl) ⟨y5, y5', e0, e1, e2, e3, e4, e5, d0, d1, d2, d3, d4, d5⟩ (fun hHeld => ?_)
      refine takeL (i := 0) (v := ?_) rfl (by kernel_rfl) (by kernel_rfl) (by kernel_rfl) (fun _ _ _ h => h) (Or.inl ⟨by rfl, ?_⟩) (by assumption) ?_
      rotate_left
      focus (intro w hSw; obtain ⟨s0, s1, s2, s3, s4, s5, s6, s7, s8, s9, s10, s11, s12, s13⟩ := hSw; go_simp; try with_reducible rfl)
      try simp only [Act.put, List.setIfInBounds_toArray, List.set_cons_zero, List.set_cons_succ]
      refine takeL (i := 1) (v := ?_) rfl (by kernel_rfl) (by kernel_rfl) (by kernel_rfl) (fun _ _ _ h => h) (Or.inl ⟨by rfl, ?_⟩) (by assumption) ?_
      rotate_left
      focus (intro w hSw; obtain ⟨s0, s1, s2, s3, s4, s5, s6, s7, s8, s9, s10, s11, s12, s13⟩ := hSw; go_simp; try with_reducible rfl)
      try simp only [Act.put, List.setIfInBounds_toArray, List.set_cons_zero, List.set_cons_succ]
      refine takeL (i := 2) (v := ?_) rfl (by kernel_rfl) (by kernel_rfl) (by kernel_rfl) (fun _ _ _ h => h) (Or.inl ⟨by rfl, ?_⟩) (by assumption) ?_
      rotate_left
      focus (intro w hSw; obtain ⟨s0, s1, s2, s3, s4, s5, s6, s7, s8, s9, s10, s11, s12, s13⟩ := hSw; go_simp; try with_reducible rfl)
      try simp only [Act.put, List.setIfInBounds_toArray, List.set_cons_zero, List.set_cons_succ]
      refine takeL (i := 3) (v := ?_) rfl (by kernel_rfl) (by kernel_rfl) (by kernel_rfl) (fun _ _ _ h => h) (Or.inl ⟨by rfl, ?_⟩) (by assumption) ?_
      rotate_left
      focus (intro w hSw; obtain ⟨s0, s1, s2, s3, s4, s5, s6, s7, s8, s9, s10, s11, s12, s13⟩ := hSw; go_simp; try with_reducible rfl)
      try simp only [Act.put, List.setIfInBounds_toArray, List.set_cons_zero, List.set_cons_succ]
      refine takeL (i := 4) (v := ?_) rfl (by kernel_rfl) (by kernel_rfl) (by kernel_rfl) (fun _ _ _ h => h) (Or.inl ⟨by rfl, ?_⟩) (by assumption) ?_
      rotate_left
      focus (intro w hSw; obtain ⟨s0, s1, s2, s3, s4, s5, s6, s7, s8, s9, s10, s11, s12, s13⟩ := hSw; go_simp; try with_reducible rfl)
      try simp only [Act.put, List.setIfInBounds_toArray, List.set_cons_zero, List.set_cons_succ]
      refine takeL (i := 5) (v := ?_) rfl (by kernel_rfl) (by kernel_rfl) (by kernel_rfl) (fun _ _ _ h => h) (Or.inl ⟨by rfl, ?_⟩) (by assumption) ?_
      rotate_left
      focus (intro w hSw; obtain ⟨s0, s1, s2, s3, s4, s5, s6, s7, s8, s9, s10, s11, s12, s13⟩ := hSw; go_simp; try with_reducible rfl)
      try simp only [Act.put, List.setIfInBounds_toArray, List.set_cons_zero, List.set_cons_succ]
      refine takeL (i := 6) (v := ?_) rfl (by kernel_rfl) (by kernel_rfl) (by kernel_rfl) (fun _ _ _ h => h) (Or.inl ⟨by rfl, ?_⟩) (by assumption) ?_
      rotate_left
      focus (intro w hSw; obtain ⟨s0, s1, s2, s3, s4, s5, s6, s7, s8, s9, s10, s11, s12, s13⟩ := hSw; go_simp; try with_reducible rfl)
      try simp only [Act.put, List.setIfInBounds_toArray, List.set_cons_zero, List.set_cons_succ]
      refine takeL (i := 7) (v := ?_) rfl (by kernel_rfl) (by kernel_rfl) (by kernel_rfl) (fun _ _ _ h => h) (Or.inl ⟨by rfl, ?_⟩) (by assumption) ?_
      rotate_left
      focus (intro w hSw; obtain ⟨s0, s1, s2, s3, s4, s5, s6, s7, s8, s9, s10, s11, s12, s13⟩ := hSw; go_simp; try with_reducible rfl)
      try simp only [Act.put, List.setIfInBounds_toArray, List.set_cons_zero, List.set_cons_succ]
      refine takeL (i := 8) (v := ?_) rfl (by kernel_rfl) (by kernel_rfl) (by kernel_rfl) (fun _ _ _ h => h) (Or.inl ⟨by rfl, ?_⟩) (by assumption) ?_
      rotate_left
      focus (intro w hSw; obtain ⟨s0, s1, s2, s3, s4, s5, s6, s7, s8, s9, s10, s11, s12, s13⟩ := hSw; go_simp; try with_reducible rfl)
      try simp only [Act.put, List.setIfInBounds_toArray, List.set_cons_zero, List.set_cons_succ]
      refine takeL (i := 9) (v := ?_) rfl (by kernel_rfl) (by kernel_rfl) (by kernel_rfl) (fun _ _ _ h => h) (Or.inl ⟨by rfl, ?_⟩) (by assumption) ?_
      rotate_left
      focus (intro w hSw; obtain ⟨s0, s1, s2, s3, s4, s5, s6, s7, s8, s9, s10, s11, s12, s13⟩ := hSw; go_simp; try with_reducible rfl)
      try simp only [Act.put, List.setIfInBounds_toArray, List.set_cons_zero, List.set_cons_succ]
      refine callL (i := 10) (by kernel_rfl) rfl (fun K hQ => ?_)
      go_simp
      go_at_call 13
      with_reducible refine (hcall.out wr.drew (Below.refl _ _).drew).mono ?_
      rintro e x1 ⟨rfl, hb1⟩
      have HK1 := hid (hK.out.trans (((Below.refl _ wr).drew.trans hb1).mono g0))
      have hS1 : x1.cell? ⟨w.heap.size, 5, none⟩ = some (.slice (some ⟨b, off, none⟩) l.length cap) ∧ x1.cell? ⟨w.heap.size + 1, 5, none⟩ = some (.slice (some ⟨b', off', none⟩) l'.length cap') ∧ x1.cell? ⟨b, off + q * 6, none⟩ = some (.int .i64 kd) ∧ x1.cell? ⟨b, off + q * 6 + 1, none⟩ = some (.int .i64 xk) ∧ x1.cell? ⟨b, off + q * 6 + 2, none⟩ = some (.int .i64 xt) ∧ x1.cell? ⟨b, off + q * 6 + 3, none⟩ = some (.int .i64 xa) ∧ x1.cell? ⟨b, off + q * 6 + 4, none⟩ = some (.int .i64 xn) ∧ x1.cell? ⟨b, off + q * 6 + 5, none⟩ = some (.slice ka kl kc) ∧ x1.cell? ⟨b', off' + q * 6, none⟩ = some (.int .i64 kd') ∧ x1.cell? ⟨b', off' + q * 6 + 1, none⟩ = some (.int .i64 xk') ∧ x1.cell? ⟨b', off' + q * 6 + 2, none⟩ = some (.int .i64 xt') ∧ x1.cell? ⟨b', off' + q * 6 + 3, none⟩ = some (.int .i64 xa') ∧ x1.cell? ⟨b', off' + q * 6 + 4, none⟩ = some (.int .i64 xn') ∧ x1.cell? ⟨b', off' + q * 6 + 5, none⟩ = some (.slice ka' kl' kc') :=
        ⟨(hb1.cell (p := ⟨w.heap.size, 5, none⟩) gw).trans y5, (hb1.cell (p := ⟨w.heap.size + 1, 5, none⟩) gw').trans y5', (hb1.cell (p := ⟨b, off + q * 6, none⟩) gb).trans e0, (hb1.cell (p := ⟨b, off + q * 6 + 1, none⟩) gb).trans e1, (hb1.cell (p := ⟨b, off + q * 6 + 2, none⟩) gb).trans e2, (hb1.cell (p := ⟨b, off + q * 6 + 3, none⟩) gb).trans e3, (hb1.cell (p := ⟨b, off + q * 6 + 4, none⟩) gb).trans e4, (hb1.cell (p := ⟨b, off + q * 6 + 5, none⟩) gb).trans e5, (hb1.cell (p := ⟨b', off' + q * 6, none⟩) gb').trans d0, (hb1.cell (p := ⟨b', off' + q * 6 + 1, none⟩) gb').trans d1, (hb1.cell (p := ⟨b', off' + q * 6 + 2, none⟩) gb').trans d2, (hb1.cell (p := ⟨b', off' + q * 6 + 3, none⟩) gb').trans d3, (hb1.cell (p := ⟨b', off' + q * 6 + 4, none⟩) gb').trans d4, (hb1.cell (p := ⟨b', off' + q * 6 + 5, none⟩) gb').trans d5⟩
      clear hb1
      refine hQ.out _ _ hS1 (fun hHeld => ?_)
      clear hQ
      try simp only [Act.put, List.setIfInBounds_toArray, List.set_cons_zero, List.set_cons_succ]
      refine takeL (i := 11) (v := ?_) rfl (by kernel_rfl) (by kernel_rfl) (by kernel_rfl) (fun _ _ _ h => h) (Or.inl ⟨by rfl, ?_⟩) (by assumption) ?_
      rotate_left
      focus (intro w hSw; obtain ⟨s0, s1, s2, s3, s4, s5, s6, s7, s8, s9, s10, s11, s12, s13⟩ := hSw; go_simp; try with_reducible rfl)
      try simp only [Act.put, List.setIfInBounds_toArray, List.set_cons_zero, List.set_cons_succ]
      refine wpAnyH_done (by kernel_rfl) ?_ _
      go_wp2_with fail
      go_ret
      exact ⟨ret_bool (by rw [Hres2.out, hf.out]), HK1.out⟩
    · have hg := hid (hgood.out rfl)
      clear hbad hgood
      go_upto_region 6 with fail
      refine wp_region_held_drew (S := fun W => W.cell? ⟨w.heap.size, 5, none⟩ = some (.slice (some ⟨b, off, none⟩) l.length cap) ∧ W.cell? ⟨w.heap.size + 1, 5, none⟩ = some (.slice (some ⟨b', off', none⟩) l'.length cap') ∧ W.cell? ⟨b, off + q * 6, none⟩ = some (.int .i64 kd) ∧ W.cell? ⟨b, off + q * 6 + 1, none⟩ = some (.int .i64 xk) ∧ W.cell? ⟨b, off + q * 6 + 2, none⟩ = some (.int .i64 xt) ∧ W.cell? ⟨b, off + q * 6 + 3, none⟩ = some (.int .i64 xa) ∧ W.cell? ⟨b, off + q * 6 + 4, none⟩ = some (.int .i64 xn) ∧ W.cell? ⟨b, off + q * 6 + 5, none⟩ = some (.slice ka kl kc) ∧ W.cell? ⟨b', off' + q * 6, none⟩ = some (.int .i64 kd') ∧ W.cell? ⟨b', off' + q * 6 + 1, none⟩ = some (.int .i64 xk') ∧ W.cell? ⟨b', off' + q * 6 + 2, none⟩ = some (.int .i64 xt') ∧ W.cell? ⟨b', off' + q * 6 + 3, none⟩ = some (.int .i64 xa') ∧ W.cell? ⟨b', off' + q * 6 + 4, none⟩ = some (.int .i64 xn') ∧ W.cell? ⟨b', off' + q * 6 + 5, none⟩ = some (.slice ka' kl' kc')) (by kernel_rfl) ⟨y5, y5', e0, e1, e2, e3, e4, e5, d0, d1, d2, d3, d4, d5⟩ (fun hHeld => ?_)
      refine takeL (i := 0) (v := ?_) rfl (by kernel_rfl) (by kernel_rfl) (by kernel_rfl) (fun _ _ _ h => h) (Or.inl ⟨by rfl, ?_⟩) (by assumption) ?_
      rotate_left
      focus (intro w hSw; obtain ⟨s0, s1, s2, s3, s4, s5, s6, s7, s8, s9, s10, s11, s12, s13⟩ := hSw; go_simp; try with_reducible rfl)
      try simp only [Act.put, List.setIfInBounds_toArray, List.set_cons_zero, List.set_cons_succ]
      refine takeL (i := 1) (v := ?_) rfl (by kernel_rfl) (by kernel_rfl) (by kernel_rfl) (fun _ _ _ h => h) (Or.inl ⟨by rfl, ?_⟩) (by assumption) ?_
      rotate_left
      focus (intro w hSw; obtain ⟨s0, s1, s2, s3, s4, s5, s6, s7, s8, s9, s10, s11, s12, s13⟩ := hSw; go_simp; try with_reducible rfl)
      try simp only [Act.put, List.setIfInBounds_toArray, List.set_cons_zero, List.set_cons_succ]
      refine takeL (i := 2) (v := ?_) rfl (by kernel_rfl) (by kernel_rfl) (by kernel_rfl) (fun _ _ _ h => h) (Or.inl ⟨by rfl, ?_⟩) (by assumption) ?_
      rotate_left
      focus (intro w hSw; obtain ⟨s0, s1, s2, s3, s4, s5, s6, s7, s8, s9, s10, s11, s12, s13⟩ := hSw; go_simp; try with_reducible rfl)
      try simp only [Act.put, List.setIfInBounds_toArray, List.set_cons_zero, List.set_cons_succ]
      refine takeL (i := 3) (v := ?_) rfl (by kernel_rfl) (by kernel_rfl) (by kernel_rfl) (fun _ _ _ h => h) (Or.inl ⟨by rfl, ?_⟩) (by assumption) ?_
      rotate_left
      focus (intro w hSw; obtain ⟨s0, s1, s2, s3, s4, s5, s6, s7, s8, s9, s10, s11, s12, s13⟩ := hSw; go_simp; try with_reducible rfl)
      try simp only [Act.put, List.setIfInBounds_toArray, List.set_cons_zero, List.set_cons_succ]
      refine takeL (i := 4) (v := ?_) rfl (by kernel_rfl) (by kernel_rfl) (by kernel_rfl) (fun _ _ _ h => h) (Or.inl ⟨by rfl, ?_⟩) (by assumption) ?_
      rotate_left
      focus (intro w hSw; obtain ⟨s0, s1, s2, s3, s4, s5, s6, s7, s8, s9, s10, s11, s12, s13⟩ := hSw; go_simp; try with_reducible rfl)
      try simp only [Act.put, List.setIfInBounds_toArray, List.set_cons_zero, List.set_cons_succ]
      refine takeL (i := 5) (v := ?_) rfl (by kernel_rfl) (by kernel_rfl) (by kernel_rfl) (fun _ _ _ h => h) (Or.inl ⟨by rfl, ?_⟩) (by assumption) ?_
      rotate_left
      focus (intro w hSw; obtain ⟨s0, s1, s2, s3, s4, s5, s6, s7, s8, s9, s10, s11, s12, s13⟩ := hSw; go_simp; try with_reducible rfl)
      try simp only [Act.put, List.setIfInBounds_toArray, List.set_cons_zero, List.set_cons_succ]
      refine takeL (i := 6) (v := ?_) rfl (by kernel_rfl) (by kernel_rfl) (by kernel_rfl) (fun _ _ _ h => h) (Or.inl ⟨by rfl, ?_⟩) (by assumption) ?_
      rotate_left
      focus (intro w hSw; obtain ⟨s0, s1, s2, s3, s4, s5, s6, s7, s8, s9, s10, s11, s12, s13⟩ := hSw; go_simp; try with_reducible rfl)
      try simp only [Act.put, List.setIfInBounds_toArray, List.set_cons_zero, List.set_cons_succ]
      refine takeL (i := 7) (v := ?_) rfl (by kernel_rfl) (by kernel_rfl) (by kernel_rfl) (fun _ _ _ h => h) (Or.inl ⟨by rfl, ?_⟩) (by assumption) ?_
      rotate_left
      focus (intro w hSw; obtain ⟨s0, s1, s2, s3, s4, s5, s6, s7, s8, s9, s10, s11, s12, s13⟩ := hSw; go_simp; try with_reducible rfl)
      try simp only [Act.put, List.setIfInBounds_toArray, List.set_cons_zero, List.set_cons_succ]
      refine takeL (i := 8) (v := ?_) rfl (by kernel_rfl) (by kernel_rfl) (by kernel_rfl) (fun _ _ _ h => h) (Or.inl ⟨by rfl, ?_⟩) (by assumption) ?_
      rotate_left
      focus (intro w hSw; obtain ⟨s0, s1, s2, s3, s4, s5, s6, s7, s8, s9, s10, s11, s12, s13⟩ := hSw; go_simp; try with_reducible rfl)
      try simp only [Act.put, List.setIfInBounds_toArray, List.set_cons_zero, List.set_cons_succ]
      refine takeL (i := 9) (v := ?_) rfl (by kernel_rfl) (by kernel_rfl) (by kernel_rfl) (fun _ _ _ h => h) (Or.inl ⟨by rfl, ?_⟩) (by assumption) ?_
      rotate_left
      focus (intro w hSw; obtain ⟨s0, s1, s2, s3, s4, s5, s6, s7, s8, s9, s10, s11, s12, s13⟩ := hSw; go_simp; try with_reducible rfl)
      try simp only [Act.put, List.setIfInBounds_toArray, List.set_cons_zero, List.set_cons_succ]
      refine callL (i := 10) (by kernel_rfl) rfl (fun K hQ => ?_)
      go_simp
      go_at_call 13
      with_reducible refine (hcall.out wr.drew (Below.refl _ _).drew).mono ?_
      rintro e x1 ⟨rfl, hb1⟩
      have HK1 := hid (HK0.out.trans (((Below.refl _ wr).drew.trans hb1).mono HK0.out.size))
      have hS1 : x1.cell? ⟨w.heap.size, 5, none⟩ = some (.slice (some ⟨b, off, none⟩) l.length cap) ∧ x1.cell? ⟨w.heap.size + 1, 5, none⟩ = some (.slice (some ⟨b', off', none⟩) l'.length cap') ∧ x1.cell? ⟨b, off + q * 6, none⟩ = some (.int .i64 kd) ∧ x1.cell? ⟨b, off + q * 6 + 1, none⟩ = some (.int .i64 xk) ∧ x1.cell? ⟨b, off + q * 6 + 2, none⟩ = some (.int .i64 xt) ∧ x1.cell? ⟨b, off + q * 6 + 3, none⟩ = some (.int .i64 xa) ∧ x1.cell? ⟨b, off + q * 6 + 4, none⟩ = some (.int .i64 xn) ∧ x1.cell? ⟨b, off + q * 6 + 5, none⟩ = some (.slice ka kl kc) ∧ x1.cell? ⟨b', off' + q * 6, none⟩ = some (.int .i64 kd') ∧ x1.cell? ⟨b', off' + q * 6 + 1, none⟩ = some (.int .i64 xk') ∧ x1.cell? ⟨b', off' + q * 6 + 2, none⟩ = some (.int .i64 xt') ∧ x1.cell? ⟨b', off' + q * 6 + 3, none⟩ = some (.int .i64 xa') ∧ x1.cell? ⟨b', off' + q * 6 + 4, none⟩ = some (.int .i64 xn') ∧ x1.cell? ⟨b', off' + q * 6 + 5, none⟩ = some (.slice ka' kl' kc') :=
        ⟨(hb1.cell (p := ⟨w.heap.size, 5, none⟩) gw).trans y5, (hb1.cell (p := ⟨w.heap.size + 1, 5, none⟩) gw').trans y5', (hb1.cell (p := ⟨b, off + q * 6, none⟩) gb).trans e0, (hb1.cell (p := ⟨b, off + q * 6 + 1, none⟩) gb).trans e1, (hb1.cell (p := ⟨b, off + q * 6 + 2, none⟩) gb).trans e2, (hb1.cell (p := ⟨b, off + q * 6 + 3, none⟩) gb).trans e3, (hb1.cell (p := ⟨b, off + q * 6 + 4, none⟩) gb).trans e4, (hb1.cell (p := ⟨b, off + q * 6 + 5, none⟩) gb).trans e5, (hb1.cell (p := ⟨b', off' + q * 6, none⟩) gb').trans d0, (hb1.cell (p := ⟨b', off' + q * 6 + 1, none⟩) gb').trans d1, (hb1.cell (p := ⟨b', off' + q * 6 + 2, none⟩) gb').trans d2, (hb1.cell (p := ⟨b', off' + q * 6 + 3, none⟩) gb').trans d3, (hb1.cell (p := ⟨b', off' + q * 6 + 4, none⟩) gb').trans d4, (hb1.cell (p := ⟨b', off' + q * 6 + 5, none⟩) gb').trans d5⟩
      clear hb1
      refine hQ.out _ _ hS1 (fun hHeld => ?_)
      clear hQ
      try simp only [Act.put, List.setIfInBounds_toArray, List.set_cons_zero, List.set_cons_succ]
      refine takeL (i := 11) (v := ?_) rfl (by kernel_rfl) (by kernel_rfl) (by kernel_rfl) (fun _ _ _ h => h) (Or.inl ⟨by rfl, ?_⟩) (by assumption) ?_
      rotate_left
      focus (intro w hSw; obtain ⟨s0, s1, s2, s3, s4, s5, s6, s7, s8, s9, s10, s11, s12, s13⟩ := hSw; go_simp; try with_reducible rfl)
      try simp only [Act.put, List.setIfInBounds_toArray, List.set_cons_zero, List.set_cons_succ]
      refine wpAnyH_done (by kernel_rfl) ?_ _
      go_wp2_with fail
      go_roundw
      case rel => exact ⟨q + 1, by omega, by simp, hg, HK1⟩
      case measure => simp [intOf]; omega
theorem rsame_all : ∀ (n : Nat) (x : Fm), x.size ≤ n → RSaF x
  | 0, .mk k p l, h => by rw [Fm.size_eq] at h; omega
  | n + 1, .mk k p l, h => rsamF_step k p l fun x hx => rsame_all n x (by have := sizeL_mem x hx; rw [Fm.size_eq] at h; omega)
theorem rsame_any (x : Fm) : RSaF x := rsame_all x.size x (Nat.le_refl _)
end Go.Proofs.YtogopcejapklgaaGreatDoor
