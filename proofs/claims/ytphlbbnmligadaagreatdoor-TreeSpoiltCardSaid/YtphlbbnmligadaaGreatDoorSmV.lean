/- The program's word on whether rows of statements are the same. -/
import Derived.Test.YtphlbbnmligadaaGreatDoorBunI
namespace Go.Proofs.YtphlbbnmligadaaGreatDoor
open Go.RowKit

def PSaS (x : St) : Prop := ∀ (y : St) (cs ds : List Value) (w : World), StIn w (In_ w) cs x → StIn w (In_ w) ds y →
  Calls Tryz.prog 58 #[.agg cs.toArray, .agg ds.toArray] w fun e w' => e = .returned (.bool (eqS x y)) ∧ Below w.heap.size w w'

set_option maxRecDepth 100000 in
set_option maxHeartbeats 8000000 in
theorem eqFunS (l l' : List St) (ih : ∀ x, x ∈ l → PSaS x) (a a' : Option Addr) (cap cap' : Nat) (w : World) (hk : StRow w (In_ w) a l.length cap l) (hk' : StRow w (In_ w) a' l'.length cap' l') :
    Calls Tryz.prog 57 #[.slice a l.length cap, .slice a' l'.length cap', .func (.func 58) #[] #[]] w fun e w' => e = .returned (.bool (eqW eqS l l')) ∧ Below w.heap.size w w' := by
  have hle := hk.le
  have hmx := hk.mx
  have hle' := hk'.le
  have hmx' := hk'.mx
  unfold maxLen at hmx hmx'
  have Hk := hid hk
  have Hk' := hid hk'
  have Hih := hid ih
  clear hk hk' ih
  go_enter Tryz.func57, Tryz.ntmps57
  by_cases hl : l.length = l'.length
  case neg =>
    have e4 : ((l.length : Int) != l'.length) = true := by simpa using fun e => hl (by omega)
    go_wp2_with fail
    go_ret
    exact ⟨ret_bool (by rw [eqW_ne _ hl]), Below.refl _ _⟩
  have e4 : ((l.length : Int) != l'.length) = false := by rw [hl]; simp
  have Hl := hid hl
  clear hl
  go_wp2_with fail
  clear e4
  go_loopw [17] (fun i wr => ∃ q : Nat, q ≤ l.length ∧ i = .int .i64 q ∧ Hid (∀ i (h1 : i < l.length) (h2 : i < l'.length), i < q → eqS l[i] l'[i] = true) ∧ Kp w wr) (fun i _ => l.length - (intOf i).toNat)
  case atStart => exact ⟨0, Nat.zero_le _, rfl, fun i _ _ h => absurd h (by omega), Kp.refl _⟩
  case round =>
    obtain ⟨q, hq, rfl, hI, hK⟩ := hrel
    have g0 := hK.1.size
    by_cases hlt : q < l.length
    case neg =>
      obtain rfl : q = l.length := by omega
      have hf : Hid (eqW eqS l l' = true) := eqW_of eqS Hl.out fun i h1 h2 => hI.out i h1 h2 h1
      clear hI
      go_wp2_with fail
      go_ret
      exact ⟨ret_bool (by rw [hf.out]), hK.1⟩
    have hlt' : q < l'.length := by have := Hl.out; omega
    obtain ⟨b, off, u0, u1, u2, u3, v0, v1, v2, v3, ta, ea, tc, ec, rfl, hb, ⟨f0, f1, f2⟩, ⟨f3, f4, f5, f6⟩, ⟨f7, f8, f9, f10⟩, ⟨f11, f12⟩, ⟨hxa, hxb, -, -⟩, hx⟩ := Hk.out.at_ q hlt
    obtain ⟨b', off', s0, s1, s2, s3, t0, t1, t2, t3, ta', ea', tc', ec', rfl, hb', ⟨h0, h1, h2⟩, ⟨h3, h4, h5, h6⟩, ⟨h7, h8, h9, h10⟩, ⟨h11, h12⟩, ⟨hya, hyb, -, -⟩, hy⟩ := Hk'.out.at_ q hlt'
    have hbl : b < w.heap.size := hb
    have hbl' : b' < w.heap.size := hb'
    have q0 : (0 : Int) ≤ q := by omega
    have q1 : (q : Int) < l.length := by omega
    have q2 : (q : Int) < l'.length := by omega
    have gb : b < wr.heap.size := by omega
    have gb' : b' < wr.heap.size := by omega
    have hbad := hid (fun h => eqW_bad eqS q hlt hlt' h)
    have hgood : Hid (eqS l[q] l'[q] = true → ∀ i (h1 : i < l.length) (h2 : i < l'.length), i < q + 1 → eqS l[i] l'[i] = true) := fun h i h1 h2 hi => by
      by_cases e : i = q
      · subst e; exact h
      · exact hI.out i h1 h2 (by omega)
    have hcall : Hid (∀ W, Kp w W → Calls Tryz.prog 58 #[.agg #[.int .i64 l[q].kind, .int .i64 l[q].reg, .int .i64 l[q].var, u0, u1, u2, u3, v0, v1, v2, v3, .slice ta l[q].t.length tc, .slice ea l[q].e.length ec], .agg #[.int .i64 l'[q].kind, .int .i64 l'[q].reg, .int .i64 l'[q].var, s0, s1, s2, s3, t0, t1, t2, t3, .slice ta' l'[q].t.length tc', .slice ea' l'[q].e.length ec']] W fun e w' => e = .returned (.bool (eqS l[q] l'[q])) ∧ Below W.heap.size W w') := fun W hW => Hih.out l[q] (List.getElem_mem hlt) l'[q] [.int .i64 l[q].kind, .int .i64 l[q].reg, .int .i64 l[q].var, u0, u1, u2, u3, v0, v1, v2, v3, .slice ta l[q].t.length tc, .slice ea l[q].e.length ec] [.int .i64 l'[q].kind, .int .i64 l'[q].reg, .int .i64 l'[q].var, s0, s1, s2, s3, t0, t1, t2, t3, .slice ta' l'[q].t.length tc', .slice ea' l'[q].e.length ec'] W (hW.st hx) (hW.st hy)
    obtain ⟨p0, p1, p2, p3⟩ := hxa.ones
    obtain ⟨p4, p5, p6, p7⟩ := hxb.ones
    obtain ⟨p8, p9, p10, p11⟩ := hya.ones
    obtain ⟨p12, p13, p14, p15⟩ := hyb.ones
    have r0 := fun ad W m => run_store (P := Tryz.prog) W ad u0 m p0
    have r1 := fun ad W m => run_store (P := Tryz.prog) W ad u1 m p1
    have r2 := fun ad W m => run_store (P := Tryz.prog) W ad u2 m p2
    have r3 := fun ad W m => run_store (P := Tryz.prog) W ad u3 m p3
    have r4 := fun ad W m => run_store (P := Tryz.prog) W ad v0 m p4
    have r5 := fun ad W m => run_store (P := Tryz.prog) W ad v1 m p5
    have r6 := fun ad W m => run_store (P := Tryz.prog) W ad v2 m p6
    have r7 := fun ad W m => run_store (P := Tryz.prog) W ad v3 m p7
    have r8 := fun ad W m => run_store (P := Tryz.prog) W ad s0 m p8
    have r9 := fun ad W m => run_store (P := Tryz.prog) W ad s1 m p9
    have r10 := fun ad W m => run_store (P := Tryz.prog) W ad s2 m p10
    have r11 := fun ad W m => run_store (P := Tryz.prog) W ad s3 m p11
    have r12 := fun ad W m => run_store (P := Tryz.prog) W ad t0 m p12
    have r13 := fun ad W m => run_store (P := Tryz.prog) W ad t1 m p13
    have r14 := fun ad W m => run_store (P := Tryz.prog) W ad t2 m p14
    have r15 := fun ad W m => run_store (P := Tryz.prog) W ad t3 m p15
    clear hx hy hxa hxb hya hyb hI p0 p1 p2 p3 p4 p5 p6 p7 p8 p9 p10 p11 p12 p13 p14 p15
    have HK := hid hK
    generalize eqS l[q] l'[q] = bq at *
    generalize l[q].kind = xk at *
    generalize l[q].reg = xr at *
    generalize l[q].var = xv at *
    generalize l[q].t.length = xt at *
    generalize l[q].e.length = xe at *
    generalize l'[q].kind = yk at *
    generalize l'[q].reg = yr at *
    generalize l'[q].var = yv at *
    generalize l'[q].t.length = yt at *
    generalize l'[q].e.length = ye at *
    have HH := hid hlt'
    clear hlt'
    cases bq
    · have hf := hid (hbad.out rfl)
      clear hbad hgood
      go_wp2_with (first
        | (go_at_call 58
           with_reducible refine (hcall.out _ (Kp.alloc (Kp.alloc HK.out _) _)).mono ?_
           rintro e w1 ⟨rfl, hb1⟩
           have HK1 := hid ((Kp.alloc (Kp.alloc HK.out _) _).next hb1)
           clear hb1)
        | fail)
      go_ret
      exact ⟨ret_bool (by rw [hf.out]), HK1.out.1⟩
    · have hg := hid (hgood.out rfl)
      clear hbad hgood
      go_wp2_with (first
        | (go_at_call 58
           with_reducible refine (hcall.out _ (Kp.alloc (Kp.alloc HK.out _) _)).mono ?_
           rintro e w1 ⟨rfl, hb1⟩
           have HK1 := hid ((Kp.alloc (Kp.alloc HK.out _) _).next hb1)
           clear hb1)
        | fail)
      go_roundw
      case rel => exact ⟨q + 1, by omega, by simp, hg, HK1.out⟩
      case measure => simp [intOf]; omega
end Go.Proofs.YtphlbbnmligadaaGreatDoor
