/- The program's Same. -/
import Derived.Test.YtogopcejapklgaaGreatDoorTxD
namespace Go.Proofs.YtogopcejapklgaaGreatDoor
open Go.RowKit

def PSaF (x : Fm) : Prop := ∀ (y : Fm) (cs ds : List Value) (w : World), FmIn w (In_ w) cs x → FmIn w (In_ w) ds y →
  Calls Tryz.prog 14 #[.agg cs.toArray, .agg ds.toArray] w fun e w' => e = .returned (.bool (eqF x y)) ∧ Below w.heap.size w w'
theorem eqL_ne {l m : List Fm} (h : ¬ l.length = m.length) : eqL l m = false := by
  cases e : eqL l m
  · rfl
  · exact absurd (congrArg List.length ((eqL_iff l m).1 e)) h
theorem eqL_bad {l m : List Fm} {q : Nat} (h1 : q < l.length) (h2 : q < m.length) (h : eqF l[q] m[q] = false) : eqL l m = false := by
  cases e : eqL l m
  · rfl
  · obtain rfl := (eqL_iff l m).1 e
    rw [eqF_self] at h
    cases h

set_option maxRecDepth 100000 in
set_option maxHeartbeats 8000000 in
theorem eqFunF (l l' : List Fm) (ih : ∀ x, x ∈ l → PSaF x) (a a' : Option Addr) (cap cap' : Nat) (w : World) (hk : FmRow w (In_ w) a l.length cap l) (hk' : FmRow w (In_ w) a' l'.length cap' l') :
    Calls Tryz.prog 28 #[.slice a l.length cap, .slice a' l'.length cap', .func (.func 14) #[] #[]] w fun e w' => e = .returned (.bool (eqL l l')) ∧ Below w.heap.size w w' := by
  have hle := hk.le
  have hmx := hk.mx
  have hle' := hk'.le
  have hmx' := hk'.mx
  unfold maxLen at hmx hmx'
  have Hk := hid hk
  have Hk' := hid hk'
  have Hih := hid ih
  clear hk hk' ih
  go_enter Tryz.func28, Tryz.ntmps28
  by_cases hl : l.length = l'.length
  case neg =>
    have e4 : ((l.length : Int) != l'.length) = true := by simpa using fun e => hl (by omega)
    go_wp2_with fail
    go_ret
    exact ⟨ret_bool (by rw [eqL_ne hl]), Below.refl _ _⟩
  have e4 : ((l.length : Int) != l'.length) = false := by rw [hl]; simp
  have Hl := hid hl
  clear hl
  go_wp2_with fail
  clear e4
  go_loopw [17] (fun i wr => ∃ q : Nat, q ≤ l.length ∧ i = .int .i64 q ∧ Hid (∀ i (h1 : i < l.length) (h2 : i < l'.length), i < q → eqF l[i] l'[i] = true) ∧ Hid (Below w.heap.size w wr)) (fun i _ => l.length - (intOf i).toNat)
  case atStart => exact ⟨0, Nat.zero_le _, rfl, fun i _ _ h => absurd h (by omega), Below.refl _ _⟩
  case round =>
    obtain ⟨q, hq, rfl, hI, hK⟩ := hrel
    by_cases hlt : q < l.length
    case neg =>
      obtain rfl : q = l.length := by omega
      have hf : Hid (eqL l l' = true) := hid ((eqL_take Hl.out).2 fun i h1 h2 => hI.out i h1 h2 h1)
      clear hI
      go_wp2_with fail
      go_ret
      exact ⟨ret_bool (by rw [hf.out]), hK.out⟩
    have hlt' : q < l'.length := by have := Hl.out; omega
    have hin' : FmRow wr (In_ w) a l.length cap l := Hk.out.keep fun b o hb => hK.out.cell (p := ⟨b, o, none⟩) hb
    have hin2 : FmRow wr (In_ w) a' l'.length cap' l' := Hk'.out.keep fun b o hb => hK.out.cell (p := ⟨b, o, none⟩) hb
    obtain ⟨b, off, ka, kc, rfl, hb, ⟨e0, e1, e2, e3, e4, e5⟩, -, hfm⟩ := hin'.at_ q hlt
    obtain ⟨b', off', ka', kc', rfl, hb', ⟨d0, d1, d2, d3, d4, d5⟩, -, hfm'⟩ := hin2.at_ q hlt'
    have g0 := hK.out.size
    have hbl : b < w.heap.size := hb
    have hbl' : b' < w.heap.size := hb'
    have q0 : (0 : Int) ≤ q := by omega
    have q1 : (q : Int) < l.length := by omega
    have q2 : (q : Int) < l'.length := by omega
    have gb : b < wr.heap.size := by omega
    have gb' : b' < wr.heap.size := by omega
    have hbad := hid (fun h => eqL_bad hlt hlt' h)
    have hgood : Hid (eqF l[q] l'[q] = true → ∀ i (h1 : i < l.length) (h2 : i < l'.length), i < q + 1 → eqF l[i] l'[i] = true) := fun h i h1 h2 hi => by
      by_cases e : i = q
      · subst e; exact h
      · exact hI.out i h1 h2 (by omega)
    have hcall : Hid (∀ W, Below wr.heap.size wr W → Calls Tryz.prog 14 #[.agg #[.int .i64 l[q].kind, .int .i64 l[q].prop.k, .int .i64 l[q].prop.t, .int .i64 l[q].prop.a, .int .i64 l[q].prop.n, .slice ka l[q].kids.length kc], .agg #[.int .i64 l'[q].kind, .int .i64 l'[q].prop.k, .int .i64 l'[q].prop.t, .int .i64 l'[q].prop.a, .int .i64 l'[q].prop.n, .slice ka' l'[q].kids.length kc']] W fun e w' => e = .returned (.bool (eqF l[q] l'[q])) ∧ Below W.heap.size W w') :=
      hid fun W hbW => Hih.out l[q] (List.getElem_mem hlt) l'[q] _ _ W
        ((hfm.keep fun b o hb => hbW.cell (p := ⟨b, o, none⟩) (Nat.lt_of_lt_of_le hb g0)).widen fun b hb => Nat.lt_of_lt_of_le hb (Nat.le_trans g0 hbW.size))
        ((hfm'.keep fun b o hb => hbW.cell (p := ⟨b, o, none⟩) (Nat.lt_of_lt_of_le hb g0)).widen fun b hb => Nat.lt_of_lt_of_le hb (Nat.le_trans g0 hbW.size))
    have hAA : Hid (∀ o1 o2, Below wr.heap.size wr ((wr.alloc o1).alloc o2)) := hid fun o1 o2 => ((Below.refl _ _).alloc (Nat.le_refl _) _).alloc (by simp) _
    generalize eqF l[q] l'[q] = bq at *
    generalize l[q].kind = kd at *
    generalize l[q].prop.k = pk at *
    generalize l[q].prop.t = pt at *
    generalize l[q].prop.a = pa at *
    generalize l[q].prop.n = pn at *
    generalize l[q].kids.length = kl at *
    generalize l'[q].kind = kd' at *
    generalize l'[q].prop.k = pk' at *
    generalize l'[q].prop.t = pt' at *
    generalize l'[q].prop.a = pa' at *
    generalize l'[q].prop.n = pn' at *
    generalize l'[q].kids.length = kl' at *
    clear hI hin' hin2 hfm hfm' hlt'
    cases bq
    · have hf := hid (hbad.out rfl)
      clear hbad hgood
      go_wp2_with (first
        | (go_at_call 14
           with_reducible refine (hcall.out _ (hAA.out _ _)).mono ?_
           rintro e w1 ⟨rfl, hb1⟩
           have HK1 := hid (hK.out.trans (((hAA.out _ _).trans (hb1.mono (hAA.out _ _).size)).mono g0))
           clear hb1)
        | fail)
      go_ret
      exact ⟨ret_bool (by rw [hf.out]), HK1.out⟩
    · have hg := hid (hgood.out rfl)
      clear hbad hgood
      go_wp2_with (first
        | (go_at_call 14
           with_reducible refine (hcall.out _ (hAA.out _ _)).mono ?_
           rintro e w1 ⟨rfl, hb1⟩
           have HK1 := hid (hK.out.trans (((hAA.out _ _).trans (hb1.mono (hAA.out _ _).size)).mono g0))
           clear hb1)
        | fail)
      go_roundw
      case rel => exact ⟨q + 1, by omega, by simp, hg, HK1⟩
      case measure => simp [intOf]; omega

set_option maxRecDepth 100000 in
set_option maxHeartbeats 8000000 in
theorem psamF_step (k : Int) (p : Pr) (l : List Fm) (ih : ∀ x, x ∈ l → PSaF x) : PSaF (.mk k p l) := by
  intro y cs ds w hin hin2
  obtain ⟨k', p', l'⟩ := y
  have hres := eqF_mk k k' p p' l l'
  obtain ⟨a, cap, rfl, -, -, hk⟩ := hin.open_
  obtain ⟨a', cap', rfl, -, -, hk'⟩ := hin2.open_
  obtain ⟨pk, pt, pa, pn⟩ := p
  obtain ⟨pk', pt', pa', pn'⟩ := p'
  simp only [eqP] at hres
  have hcall : Hid (∀ W, Below w.heap.size w W → Calls Tryz.prog 28 #[.slice a l.length cap, .slice a' l'.length cap', .func (.func 14) #[] #[]] W fun e w' => e = .returned (.bool (eqL l l')) ∧ Below W.heap.size W w') :=
    hid fun W hb => eqFunF l l' ih a a' cap cap' W ((hk.keep fun b o hlt => hb.cell (p := ⟨b, o, none⟩) hlt).widen fun b hlt => Nat.lt_of_lt_of_le hlt hb.size) ((hk'.keep fun b o hlt => hb.cell (p := ⟨b, o, none⟩) hlt).widen fun b hlt => Nat.lt_of_lt_of_le hlt hb.size)
  have hAA : Hid (∀ o1 o2, Below w.heap.size w ((w.alloc o1).alloc o2)) := hid fun o1 o2 => ((Below.refl _ _).alloc (Nat.le_refl _) _).alloc (by simp) _
  have Hres := hid hres
  clear hin hin2 hk hk' ih hres
  generalize eqL l l' = bw at *
  generalize l.length = n at *
  generalize l'.length = n' at *
  go_enter Tryz.func14, Tryz.ntmps14
  cases e1 : (k == k')
  · go_wp2_with fail
    go_ret
    exact ⟨ret_bool (by rw [Hres.out, e1]; rfl), hAA.out _ _⟩
  by_cases h_pk : pk = pk'
  case neg =>
    have hbq : (pk == pk') = false := by simpa using h_pk
    go_wp2_with fail
    go_ret
    exact ⟨ret_bool (by rw [Hres.out, hbq]; simp), hAA.out _ _⟩
  subst h_pk
  by_cases h_pt : pt = pt'
  case neg =>
    have hbq : (pt == pt') = false := by simpa using h_pt
    go_wp2_with fail
    go_ret
    exact ⟨ret_bool (by rw [Hres.out, hbq]; simp), hAA.out _ _⟩
  subst h_pt
  by_cases h_pa : pa = pa'
  case neg =>
    have hbq : (pa == pa') = false := by simpa using h_pa
    go_wp2_with fail
    go_ret
    exact ⟨ret_bool (by rw [Hres.out, hbq]; simp), hAA.out _ _⟩
  subst h_pa
  by_cases h_pn : pn = pn'
  case neg =>
    have hbq : (pn == pn') = false := by simpa using h_pn
    go_wp2_with fail
    go_ret
    exact ⟨ret_bool (by rw [Hres.out, hbq]; simp), hAA.out _ _⟩
  subst h_pn
  have Hres2 : Hid (eqF (.mk k ⟨pk, pt, pa, pn⟩ l) (.mk k' ⟨pk, pt, pa, pn⟩ l') = bw) := by show _ = _; rw [Hres.out, e1]; simp
  clear Hres
  go_wp2_with (first
    | (go_at_call 28
       with_reducible refine (hcall.out _ (hAA.out _ _)).mono ?_
       rintro e w1 ⟨rfl, hb1⟩
       have HK1 := hid ((hAA.out _ _).trans (hb1.mono (hAA.out _ _).size))
       clear hb1)
    | fail)
  go_ret
  exact ⟨ret_bool (by rw [Hres2.out]), HK1.out⟩
theorem same_all : ∀ (n : Nat) (x : Fm), x.size ≤ n → PSaF x
  | 0, .mk k p l, h => by rw [Fm.size_eq] at h; omega
  | n + 1, .mk k p l, h => psamF_step k p l fun x hx => same_all n x (by have := sizeL_mem x hx; rw [Fm.size_eq] at h; omega)
theorem lsame_any (x : Fm) : PSaF x := same_all x.size x (Nat.le_refl _)
end Go.Proofs.YtogopcejapklgaaGreatDoor
