/- Are two programs the same? No program in sight. -/
import Derived.Test.YtphlbbnmligadaaGreatDoorBunS
import Derived.Test.YtphlbbnmligadaaGreatDoorBunN
namespace Go.Proofs.YtphlbbnmligadaaGreatDoor
open Go.RowKit

/-- Are two statements the same? -/
noncomputable def eqS (a b : St) : Bool := @decide (a = b) (Classical.propDecidable _)
theorem eqS_iff (a b : St) : eqS a b = true ↔ a = b := @decide_eq_true_iff _ (Classical.propDecidable _)
theorem eqL_iff (a b : List St) : eqW eqS a b = true ↔ a = b := eqW_eq eqS fun x _ y => eqS_iff x y
theorem eqT_iff (a b : List (List St)) : eqW (eqW eqS) a b = true ↔ a = b := eqW_eq (eqW eqS) fun x _ y => eqL_iff x y
theorem eqS_eq (x y : St) : eqS x y = (x.kind == y.kind && x.reg == y.reg && x.var == y.var && eqE x.a y.a && eqE x.b y.b && eqW eqS x.t y.t && eqW eqS x.e y.e) := by
  obtain ⟨k, r, v, a, b, t, e⟩ := x
  obtain ⟨k', r', v', a', b', t', e'⟩ := y
  rw [Bool.eq_iff_iff, eqS_iff]
  simp only [Bool.and_eq_true, beq_iff_eq, eqL_iff, eqE_iff, St.mk.injEq, and_assoc, St.kind, St.reg, St.var, St.a, St.b, St.t, St.e]
/-- Two names. -/
def eqB (a b : ByteArray) : Bool := decide (a = b)
theorem eqV_iff (a b : List ByteArray) : eqW eqB a b = true ↔ a = b := eqW_eq eqB fun x _ y => by simp [eqB]
/-- Two programs. -/
noncomputable def eqP (p q : Pg) : Bool := p.dom == q.dom && eqW eqB p.vars q.vars && eqW (eqW eqS) p.ths q.ths
theorem eqP_iff (p q : Pg) : eqP p q = true ↔ p = q := by
  obtain ⟨v, d, t⟩ := p
  obtain ⟨v', d', t'⟩ := q
  unfold eqP
  simp only [Bool.and_eq_true, beq_iff_eq, eqV_iff, eqT_iff, Pg.mk.injEq]
  constructor
  · rintro ⟨⟨h1, h2⟩, h3⟩; exact ⟨h2, h1, h3⟩
  · rintro ⟨h1, h2, h3⟩; exact ⟨⟨h2, h1⟩, h3⟩
end Go.Proofs.YtphlbbnmligadaaGreatDoor
namespace Go.Proofs.YtphlbbnmligadaaGreatDoor
open Go.RowKit

def PSaE (x : Ex) : Prop := ∀ (y : Ex) (cs ds : List Value) (w : World), ExIn w (In_ w) cs x → ExIn w (In_ w) ds y →
  Calls Tryz.prog 101 #[.agg cs.toArray, .agg ds.toArray] w fun e w' => e = .returned (.bool (eqE x y)) ∧ Below w.heap.size w w'

/-- A row of expressions. -/
def ExRowIn (w : World) (a : Option Addr) (l : List Ex) : Prop := ∀ i (_ : i < l.length), ∃ b off u0 u1 u2 u3, a = some ⟨b, off, none⟩ ∧ In_ w b ∧ w.cell? ⟨b, off + i * 4, none⟩ = some u0 ∧ w.cell? ⟨b, off + i * 4 + 1, none⟩ = some u1 ∧ w.cell? ⟨b, off + i * 4 + 2, none⟩ = some u2 ∧ w.cell? ⟨b, off + i * 4 + 3, none⟩ = some u3 ∧
        ExIn w (In_ w) [u0, u1, u2, u3] l[i]

set_option maxRecDepth 100000 in
set_option maxHeartbeats 8000000 in
theorem eqFunE (l l' : List Ex) (ih : ∀ x, x ∈ l → PSaE x) (a a' : Option Addr) (cap cap' : Nat) (w : World) (hle : l.length ≤ cap) (_hle' : l'.length ≤ cap') (hmx : cap ≤ 9223372036854775807) (_hmx' : cap' ≤ 9223372036854775807) (hk : Hid (ExRowIn w a l)) (hk' : Hid (ExRowIn w a' l')) :
    Calls Tryz.prog 132 #[.slice a l.length cap, .slice a' l'.length cap', .func (.func 101) #[] #[]] w fun e w' => e = .returned (.bool (eqW eqE l l')) ∧ Below w.heap.size w w' := by
  have Hih := hid ih
  clear ih
  go_enter Tryz.func132, Tryz.ntmps132
  by_cases hl : l.length = l'.length
  case neg =>
    have e4 : ((l.length : Int) != l'.length) = true := by simpa using fun e => hl (by omega)
    go_wp2_with fail
    go_ret
    exact ⟨ret_bool (by rw [eqW_ne _ hl]), Below.refl _ _⟩
  have e4 : ((l.length : Int) != l'.length) = false := by rw [hl]; simp
  have Hl := hid hl
  clear hl
  go_wp2_with fail
  clear e4
  go_loopw [17] (fun i wr => ∃ q : Nat, q ≤ l.length ∧ i = .int .i64 q ∧ Hid (∀ i (h1 : i < l.length) (h2 : i < l'.length), i < q → eqE l[i] l'[i] = true) ∧ Kp w wr) (fun i _ => l.length - (intOf i).toNat)
  case atStart => exact ⟨0, Nat.zero_le _, rfl, fun i _ _ h => absurd h (by omega), Kp.refl _⟩
  case round =>
    obtain ⟨q, hq, rfl, hI, hK⟩ := hrel
    have g0 := hK.1.size
    by_cases hlt : q < l.length
    case neg =>
      obtain rfl : q = l.length := by omega
      have hf : Hid (eqW eqE l l' = true) := eqW_of eqE Hl.out fun i h1 h2 => hI.out i h1 h2 h1
      clear hI
      go_wp2_with fail
      go_ret
      exact ⟨ret_bool (by rw [hf.out]), hK.1⟩
    have hlt' : q < l'.length := by have := Hl.out; omega
    obtain ⟨b, off, u0, u1, u2, u3, rfl, hb, f0, f1, f2, f3, hx⟩ := hk.out q hlt
    obtain ⟨b', off', v0, v1, v2, v3, rfl, hb', h0, h1, h2, h3, hy⟩ := hk'.out q hlt'
    have hbl : b < w.heap.size := hb
    have hbl' : b' < w.heap.size := hb'
    have q0 : (0 : Int) ≤ q := by omega
    have q1 : (q : Int) < l.length := by omega
    have q2 : (q : Int) < l'.length := by omega
    have gb : b < wr.heap.size := by omega
    have gb' : b' < wr.heap.size := by omega
    have hbad := hid (fun h => eqW_bad eqE q hlt hlt' h)
    have hgood : Hid (eqE l[q] l'[q] = true → ∀ i (h1 : i < l.length) (h2 : i < l'.length), i < q + 1 → eqE l[i] l'[i] = true) := fun h i h1 h2 hi => by
      by_cases e : i = q
      · subst e; exact h
      · exact hI.out i h1 h2 (by omega)
    have hcall : Hid (∀ W, Kp w W → Calls Tryz.prog 101 #[.agg #[u0, u1, u2, u3], .agg #[v0, v1, v2, v3]] W fun e w' => e = .returned (.bool (eqE l[q] l'[q])) ∧ Below W.heap.size W w') := fun W hW => Hih.out l[q] (List.getElem_mem hlt) l'[q] [u0, u1, u2, u3] [v0, v1, v2, v3] W (hW.ex hx) (hW.ex hy)
    obtain ⟨p0, p1, p2, p3⟩ := hx.ones
    obtain ⟨p4, p5, p6, p7⟩ := hy.ones
    have r0 := fun ad W m => run_store (P := Tryz.prog) W ad u0 m p0
    have r1 := fun ad W m => run_store (P := Tryz.prog) W ad u1 m p1
    have r2 := fun ad W m => run_store (P := Tryz.prog) W ad u2 m p2
    have r3 := fun ad W m => run_store (P := Tryz.prog) W ad u3 m p3
    have r4 := fun ad W m => run_store (P := Tryz.prog) W ad v0 m p4
    have r5 := fun ad W m => run_store (P := Tryz.prog) W ad v1 m p5
    have r6 := fun ad W m => run_store (P := Tryz.prog) W ad v2 m p6
    have r7 := fun ad W m => run_store (P := Tryz.prog) W ad v3 m p7
    clear hx hy hI p0 p1 p2 p3 p4 p5 p6 p7
    have HK := hid hK
    generalize eqE l[q] l'[q] = bq at *
    have HH := hid hlt'
    clear hlt'
    cases bq
    · have hf := hid (hbad.out rfl)
      clear hbad hgood
      go_wp2_with (first
        | (go_at_call 101
           with_reducible refine (hcall.out _ (Kp.alloc (Kp.alloc HK.out _) _)).mono ?_
           rintro e w1 ⟨rfl, hb1⟩
           have HK1 := hid ((Kp.alloc (Kp.alloc HK.out _) _).next hb1)
           clear hb1)
        | fail)
      go_ret
      exact ⟨ret_bool (by rw [hf.out]), HK1.out.1⟩
    · have hg := hid (hgood.out rfl)
      clear hbad hgood
      go_wp2_with (first
        | (go_at_call 101
           with_reducible refine (hcall.out _ (Kp.alloc (Kp.alloc HK.out _) _)).mono ?_
           rintro e w1 ⟨rfl, hb1⟩
           have HK1 := hid ((Kp.alloc (Kp.alloc HK.out _) _).next hb1)
           clear hb1)
        | fail)
      go_roundw
      case rel => exact ⟨q + 1, by omega, by simp, hg, HK1.out⟩
      case measure => simp [intOf]; omega
end Go.Proofs.YtphlbbnmligadaaGreatDoor
namespace Go.Proofs.YtphlbbnmligadaaGreatDoor
open Go.RowKit

set_option maxRecDepth 100000 in
set_option maxHeartbeats 8000000 in
theorem psamE_step (k n o : Int) (l : List Ex) (ih : ∀ x, x ∈ l → PSaE x) : PSaE (.mk k n o l) := by
  intro y cs ds w hin hin2
  obtain ⟨k', n', o', l'⟩ := y
  have hres := eqE_mk k n o k' n' o' l l'
  obtain ⟨a, cap, rfl, hle, hmx, -, -, -, hk⟩ := hin.open_
  obtain ⟨a', cap', rfl, hle', hmx', -, -, -, hk'⟩ := hin2.open_
  unfold maxLen at hmx hmx'
  generalize hW : (w.alloc (.cells #[.int .i64 k, .int .i64 n, .int .u8 o, .slice a l.length cap] 44)).alloc (.cells #[.int .i64 k', .int .i64 n', .int .u8 o', .slice a' l'.length cap'] 44) = W0
  have hB : Below w.heap.size w W0 := by subst hW; exact ((Below.refl _ _).alloc (Nat.le_refl _) _).alloc (by simp) _
  have z1 : w.heap.size + 1 < W0.heap.size := by subst hW; simp
  have z0 : w.heap.size < W0.heap.size := by omega
  have c0 : W0.cell? ⟨w.heap.size, 0, none⟩ = some (.int .i64 k) := by subst hW; go_simp
  have c1 : W0.cell? ⟨w.heap.size, 1, none⟩ = some (.int .i64 n) := by subst hW; go_simp
  have c2 : W0.cell? ⟨w.heap.size, 2, none⟩ = some (.int .u8 o) := by subst hW; go_simp
  have c3 : W0.cell? ⟨w.heap.size, 3, none⟩ = some (.slice a l.length cap) := by subst hW; go_simp
  have d0 : W0.cell? ⟨w.heap.size + 1, 0, none⟩ = some (.int .i64 k') := by subst hW; go_simp
  have d1 : W0.cell? ⟨w.heap.size + 1, 1, none⟩ = some (.int .i64 n') := by subst hW; go_simp
  have d2 : W0.cell? ⟨w.heap.size + 1, 2, none⟩ = some (.int .u8 o') := by subst hW; go_simp
  have d3 : W0.cell? ⟨w.heap.size + 1, 3, none⟩ = some (.slice a' l'.length cap') := by subst hW; go_simp
  have HKB : Kp w W0 := Kp.of hB
  have hR : Hid (ExRowIn W0 a l) := fun i hi => by
    obtain ⟨b, off, u0, u1, u2, u3, rfl, hb, f0, f1, f2, f3, hx⟩ := hk i hi
    exact ⟨b, off, u0, u1, u2, u3, rfl, Nat.lt_of_lt_of_le hb hB.size, (HKB.2 _ _ hb).trans f0, (HKB.2 _ _ hb).trans f1, (HKB.2 _ _ hb).trans f2, (HKB.2 _ _ hb).trans f3, HKB.ex hx⟩
  have hR' : Hid (ExRowIn W0 a' l') := fun i hi => by
    obtain ⟨b, off, u0, u1, u2, u3, rfl, hb, f0, f1, f2, f3, hx⟩ := hk' i hi
    exact ⟨b, off, u0, u1, u2, u3, rfl, Nat.lt_of_lt_of_le hb hB.size, (HKB.2 _ _ hb).trans f0, (HKB.2 _ _ hb).trans f1, (HKB.2 _ _ hb).trans f2, (HKB.2 _ _ hb).trans f3, HKB.ex hx⟩
  have hcall := hid (eqFunE l l' ih a a' cap cap' W0 hle hle' hmx hmx' hR hR')
  have HB := hid hB
  have hWx := hid hW
  have Hres := hid hres
  clear hW hB hin hin2 hk hk' ih hres HKB hR hR'
  generalize eqW eqE l l' = bw at *
  go_enter Tryz.func101, Tryz.ntmps101
  cases e1 : (k == k')
  · go_wp2_with fail
    rw [hWx.out]
    go_ret
    exact ⟨ret_bool (by rw [Hres.out, e1]; rfl), HB.out⟩
  cases e2 : (n == n')
  · go_wp2_with fail
    rw [hWx.out]
    go_ret
    exact ⟨ret_bool (by rw [Hres.out, e2]; simp), HB.out⟩
  cases e3 : (o == o')
  · go_wp2_with fail
    rw [hWx.out]
    go_ret
    exact ⟨ret_bool (by rw [Hres.out, e3]; simp), HB.out⟩
  have Hres2 : Hid (eqE (.mk k n o l) (.mk k' n' o' l') = bw) := by show _ = _; rw [Hres.out, e1, e2, e3]; rfl
  clear Hres
  clear c0 c1 c2 c3 d0 d1 d2 d3 z0 z1
  go_wp2_with (first
    | (go_at_call 132
       rw [hWx.out]
       with_reducible refine hcall.out.mono ?_
       rintro e w1 ⟨rfl, hb1⟩
       have HB1 := hid (Kp.fin HB.out ((Kp.refl W0).next hb1))
       clear hb1)
    | fail)
  go_ret
  exact ⟨ret_bool (by rw [Hres2.out]), HB1.out⟩
theorem psamE_any (x : Ex) : PSaE x := by
  induction x using Ex.ind with
  | h k n o l ih => exact psamE_step k n o l ih
end Go.Proofs.YtphlbbnmligadaaGreatDoor
