/- The maker of statements by numbers: what it leaves; many statements, by one. -/
import Derived.Test.YtphlbbnmligadaaGreatDoorBunS
import Derived.Test.YtphlbbnmligadaaGreatDoorBunE
import Derived.Test.YtphlbbnmligadaaGreatDoorBunN
namespace Go.Proofs.YtphlbbnmligadaaGreatDoor
open Go.RowKit

/-- The most statements that one of a depth has; the most numbers that it takes. -/
def cB : Nat → Nat
  | 0 => 1
  | d + 1 => 1 + 3 * cB d
def tB : Nat → Nat
  | 0 => 60
  | d + 1 => 60 + 3 * tB d
def New (w w' : World) (b : Nat) : Prop := w.heap.size ≤ b ∧ b < w'.heap.size

theorem fit_mono (dom : Int) (x : Ex) : ∀ {n m : Nat}, n ≤ m → x.fit dom n = true → x.fit dom m = true := by
  induction x using Ex.ind with
  | h k n0 o l ih =>
    intro n m hnm h
    match n, m, hnm, h with
    | 0, _, _, h => simp [Ex.fit] at h
    | n + 1, 0, hnm, _ => omega
    | n + 1, m + 1, hnm, h =>
      have hnm : n ≤ m := by omega
      unfold Ex.fit at h ⊢
      split at h
      · rename_i h1; rw [if_pos h1]; exact h
      · rename_i h1; rw [if_neg h1]
        split at h
        · rename_i h2; rw [if_pos h2]; exact h
        · rename_i h2; rw [if_neg h2]
          split at h
          · rename_i h3; rw [if_pos h3]
            match l, ih, h with
            | [], _, h => simp at h
            | [_], _, h => simp at h
            | [x, y], ih, h =>
              simp only [Bool.and_eq_true] at h ⊢
              exact ⟨h.1, ih x (by simp) hnm h.2.1, ih y (by simp) hnm h.2.2⟩
            | _ :: _ :: _ :: _, _, h => simp at h
          · cases h
theorem okS_mono (vars dom : Int) (x : St) : ∀ {n m : Nat}, n ≤ m → okS vars dom n x = true → okS vars dom m x = true := by
  induction x using St.ind with
  | h k r v a b t e iht ihe =>
    intro n m hnm h
    match n, m, hnm, h with
    | 0, _, _, h => simp [okS] at h
    | n + 1, 0, hnm, _ => omega
    | n + 1, m + 1, hnm, h =>
      have hnm : n ≤ m := by omega
      unfold okS at h ⊢
      simp only [Bool.and_eq_true, List.all_eq_true] at h ⊢
      exact ⟨⟨h.1.1, fun x hx => iht x hx hnm (h.1.2 x hx)⟩, fun x hx => ihe x hx hnm (h.2 x hx)⟩
theorem okL_mono {vars dom : Int} {l : List St} {n m : Nat} (hnm : n ≤ m) (h : okL vars dom n l = true) : okL vars dom m l = true := by
  unfold okL at h ⊢
  simp only [List.all_eq_true] at h ⊢
  exact fun x hx => okS_mono vars dom x hnm (h x hx)

/-- The kinds to pick from lie in 'w', below block B. -/
def KdIn (w : World) (B : Nat) (a : Option Addr) (n cap : Nat) : Prop :=
  1 ≤ n ∧ n ≤ cap ∧ cap ≤ maxLen ∧ ∃ b off, a = some ⟨b, off, none⟩ ∧ b < B ∧ ∀ i, i < n → ∃ k : Int, 1 ≤ k ∧ k ≤ 11 ∧ w.cell? ⟨b, off + i, none⟩ = some (.int .i64 k)
theorem KdIn.keep {w w' : World} {B : Nat} {a : Option Addr} {n cap : Nat} (h : KdIn w B a n cap) (hk : ∀ b o, b < B → w'.cell? ⟨b, o, none⟩ = w.cell? ⟨b, o, none⟩) : KdIn w' B a n cap := by
  obtain ⟨h1, h2, h3, b, off, e, hb, hc⟩ := h
  refine ⟨h1, h2, h3, b, off, e, hb, fun i hi => ?_⟩
  obtain ⟨k, k1, k2, k3⟩ := hc i hi
  exact ⟨k, k1, k2, (hk _ _ hb).trans k3⟩
theorem KdIn.grown {w w' : World} {B m t : Nat} {a : Option Addr} {n cap : Nat} (h : KdIn w B a n cap) (hM : Mkr w B m t) (hg : w.grownBy w' (some m)) : KdIn w' B a n cap :=
  h.keep fun b o hb => grownBy_cell hg (by have := hM.1; have := hM.lt; omega) (by have := hM.1; omega)

/-- What the maker's stmt leaves: a statement that may be, in new memory. -/
def MStPost (B m t : Nat) (vars dom : Int) (d : Nat) (w : World) (e : Ending) (w' : World) : Prop :=
  ∃ (cs : List Value) (x : St) (t' : Nat), e = .returned (.agg cs.toArray) ∧ StX w' w.heap.size w'.heap.size cs x ∧ (okS vars dom (d + 1) x && shS x) = true ∧ cntS x ≤ cB d ∧ Mkr w' B m t' ∧ t' ≤ t + tB d ∧ w.grownBy w' (some m)
def MStsPost (B m t : Nat) (vars dom : Int) (d n : Nat) (w : World) (e : Ending) (w' : World) : Prop :=
  ∃ (a : Option Addr) (cap : Nat) (L : List St) (t' : Nat), e = .returned (.slice a L.length cap) ∧ StsX w' w.heap.size w'.heap.size (.slice a L.length cap) L ∧ L.length = n ∧ (okL vars dom (d + 1) L && shL L) = true ∧ cntL L ≤ n * cB d ∧ Mkr w' B m t' ∧ t' ≤ t + n * tB d ∧ w.grownBy w' (some m)
def StmtAt (B m : Nat) (vars dom : Int) (ka : Option Addr) (kn kc : Nat) (d : Nat) : Prop := ∀ (di : Int) (t : Nat) (w : World), di = d → Mkr w B m t → KdIn w B ka kn kc → t + tB d < 4611686018427387904 →
    Calls Tryz.prog 50 #[.pointer (some ⟨m, 0, none⟩), .int .i64 di, .int .i64 vars, .int .i64 dom, .slice ka kn kc] w (MStPost B m t vars dom d w)
def StmtsAt (B m : Nat) (vars dom : Int) (ka : Option Addr) (kn kc : Nat) (d : Nat) : Prop := ∀ (di : Int) (n t : Nat) (w : World), di = d → n ≤ 1000 → Mkr w B m t → KdIn w B ka kn kc → t + n * tB d < 4611686018427387904 →
    Calls Tryz.prog 24 #[.pointer (some ⟨m, 0, none⟩), .int .i64 n, .int .i64 di, .int .i64 vars, .int .i64 dom, .slice ka kn kc] w (MStsPost B m t vars dom d n w)

/-- q statements have been made. -/
def StsQ (B m t : Nat) (vars dom : Int) (d : Nat) (w wr : World) (q : Nat) (v : Value) (tq : Nat) : Prop :=
  ∃ L : List St, L.length = q ∧ StsX wr w.heap.size wr.heap.size v L ∧ (okL vars dom (d + 1) L && shL L) = true ∧ cntL L ≤ q * cB d ∧ Mkr wr B m tq ∧ tq ≤ t + q * tB d ∧ w.grownBy wr (some m)

theorem cntL_snoc (L : List St) (y : St) : cntL (L ++ [y]) = cntL L + cntS y := by simp [cntL]
theorem okL_snoc {vars dom : Int} {n : Nat} {L : List St} {y : St} (h : okL vars dom n L = true) (hy : okS vars dom n y = true) : okL vars dom n (L ++ [y]) = true := by
  unfold okL at h ⊢
  simp only [List.all_append, h, List.all_cons, hy, List.all_nil, Bool.and_self]

theorem okX_snoc {vars dom : Int} {n : Nat} {L : List St} {y : St} (h : (okL vars dom n L && shL L) = true) (hy : (okS vars dom n y && shS y) = true) : (okL vars dom n (L ++ [y]) && shL (L ++ [y])) = true := by
  rw [Bool.and_eq_true] at h hy ⊢
  exact ⟨okL_snoc h.1 hy.1, shL_snoc h.2 hy.2⟩
theorem stsX_call {B m t : Nat} {w wr w1 : World} {v : Value} {L : List St} (h : StsX wr w.heap.size wr.heap.size v L) (hM0 : Mkr w B m t) (hg : wr.grownBy w1 (some m)) : StsX w1 w.heap.size wr.heap.size v L := by
  have hm := hM0.lt
  exact h.kept fun b hb hb' => hg.block b hb' (by simp; omega)
theorem grown_own {w w1 w2 : World} {m : Nat} {v : Value} (h : w.grownBy w1 (some m)) (hg : w1.grownBy w2 v.ownBlock) (hv : ∀ k, v.ownBlock = some k → w.heap.size ≤ k) : w.grownBy w2 (some m) :=
  ⟨hg.os.trans h.os, hg.tape.trans h.tape, hg.output.trans h.output, Nat.le_trans h.size hg.size, fun i hi hne => (hg.block i (Nat.lt_of_lt_of_le hi h.size) fun e => by have := hv i e.symm; omega).trans (h.block i hi hne)⟩
theorem Mkr.grown_own {w1 w2 : World} {B m t : Nat} {v : Value} (h : Mkr w1 B m t) (hg : w1.grownBy w2 v.ownBlock) (hv : ∀ k, v.ownBlock = some k → m < k) : Mkr w2 B m t := by
  have hm := h.lt
  have hB := h.1
  exact h.keep (hg.block m hm fun e => by have := hv m e.symm; omega) fun b o hb => World.cell?_of_block (hg.block b (by omega) fun e => by have := hv b e.symm; omega)
theorem sts_next {B m t t0 tq t1 d : Nat} {vars dom : Int} {w wr w1 w2 : World} {v v' : Value} {L : List St} {x : St} {o : Obj} (hM0 : Mkr w B m t0) (hO : StsX wr w.heap.size wr.heap.size v L) (hg : w.grownBy wr (some m)) (hg1 : wr.grownBy w1 (some m)) (hg2 : (w1.alloc o).grownBy w2 v.ownBlock)
    (hO2 : StsX w2 w.heap.size w2.heap.size v' (L ++ [x])) (hok : (okL vars dom (d + 1) L && shL L) = true) (hoky : (okS vars dom (d + 1) x && shS x) = true) (hc : cntL L ≤ L.length * cB d) (hcy : cntS x ≤ cB d)
    (hM1 : Mkr w1 B m t1) (hq : tq ≤ t + L.length * tB d) (h1 : t1 ≤ tq + tB d) : StsQ B m t vars dom d w w2 (L.length + 1) v' t1 := by
  have hm := hM0.lt
  have hv : ∀ k, v.ownBlock = some k → w.heap.size ≤ k := fun k hk => (hO.own k hk).1
  refine ⟨L ++ [x], by simp, hO2, okX_snoc hok hoky, ?_, ?_, ?_, grown_own (grownBy_alloc (grownBy_trans hg hg1) o) hg2 hv⟩
  · rw [cntL_snoc, Nat.succ_mul]; omega
  · exact (hM1.alloc o).grown_own hg2 fun k hk => by have := hv k hk; omega
  · rw [Nat.succ_mul]; omega

set_option maxRecDepth 100000 in
set_option maxHeartbeats 4000000 in
theorem stmts_of {B m : Nat} {vars dom : Int} {ka : Option Addr} {kn kc d : Nat} (h1 : StmtAt B m vars dom ka kn kc d) : StmtsAt B m vars dom ka kn kc d := by
  intro di n t w hdi hn hM hKd ht
  have hmlt := hM.lt
  have H1 := hid h1
  have Hdi := hid hdi
  have HKd := hid hKd
  have HM0 := hid hM
  have hT : ∀ q, q < n → q * tB d + tB d ≤ n * tB d := fun q hq => by rw [← Nat.succ_mul]; exact Nat.mul_le_mul_right _ hq
  have HT := hid hT
  clear h1 hdi hKd hT hM
  go_enter Tryz.func24, Tryz.ntmps24
  go_wp2_with fail
  go_loopw [13, 14] (fun v i wr => ∃ (q : Nat) (av : Option Addr) (cv tq : Nat), q ≤ n ∧ i = .int .i64 q ∧ v = .slice av q cv ∧ Hid (StsQ B m t vars dom d w wr q (.slice av q cv) tq)) (fun _ i _ => n - (intOf i).toNat)
  case atStart => exact ⟨0, none, 0, t, Nat.zero_le _, rfl, rfl, ⟨[], rfl, StsX.nil_, rfl, by simp [cntL], HM0.out, by omega, grownBy_refl _ _⟩⟩
  case round =>
    obtain ⟨q, av, cv, tq, hq, rfl, rfl, hQ⟩ := hrel
    by_cases hlt : q < n
    · have q0 : (0 : Int) ≤ q := by omega
      have q1 : (q : Int) < n := by omega
      obtain ⟨L, rfl, hO, hok, hcn, hM, htq, hg⟩ := hQ.out
      have hTq := HT.out L.length hlt
      have hcall := hid (H1.out di tq wr Hdi.out hM (HKd.out.grown HM0.out hg) (by have := HT.out L.length hlt; omega))
      have HO := hid hO
      have Hok := hid hok
      have Hcn := hid hcn
      have HM := hid hM
      have Hg := hid hg
      have Htq := hid htq
      have gz := hg.size
      clear hQ hO hok hcn hM hg htq hTq
      go_wp2_with (first
        | (go_at_call 50
           with_reducible refine hcall.out.mono ?_
           rintro e w1 ⟨cs, ⟨k, r, v, xa, xb, xt, xe⟩, t1, rfl, hst, hoky, hcy, hM1, ht1, hg1⟩
           obtain ⟨u0, u1, u2, u3, v0, v1, v2, v3, ta, ea, tc, ec, rfl, -, -, -, -⟩ := hst.in_.open_
           have HS1 := hid hst
           have Hoky := hid hoky
           have Hcy := hid hcy
           have HM1 := hid hM1
           have Ht1 := hid ht1
           have Hg1 := hid hg1
           have gz1 := hg1.size
           clear hst hoky hcy hM1 ht1 hg1)
        | (at_builtin
           (refine list_stX (lo := w.heap.size) (p := wr.heap.size) (.tmp 20) (.tmp 27) (.slice av L.length cv) L (.mk k r v xa xb xt xe) [.int .i64 k, .int .i64 r, .int .i64 v, u0, u1, u2, u3, v0, v1, v2, v3, .slice ta xt.length tc, .slice ea xe.length ec] ?_ ?_ ?_ ?_ ?_ ?_ ?_ ?_ ?_ ?_)
           (focus rfl); (focus rfl); (focus rfl); (focus rfl)
           (focus exact stsX_call HO.out HM0.out Hg1.out)
           (focus exact HS1.out)
           (focus omega); (focus exact gz); (focus exact gz1)
           intro a2 c2 w2 hO2 hg2 hat2
           have HO2 := hid hO2
           have Hg2 := hid hg2
           clear hO2 hg2 hat2)
        | fail)
      go_roundw
      case rel => exact ⟨L.length + 1, a2, c2, t1, by omega, by simp, rfl, sts_next HM0.out HO.out Hg.out Hg1.out Hg2.out HO2.out Hok.out Hoky.out Hcn.out Hcy.out HM1.out Htq.out Ht1.out⟩
      case measure => simp [intOf]; omega
    · obtain rfl : q = n := by omega
      have HQ := hid hQ.out
      clear hQ
      go_wp2_with fail
      go_ret
      obtain ⟨L, rfl, hO, hok, hcn, hM, htq, hg⟩ := HQ.out
      exact ⟨av, cv, L, tq, rfl, hO, rfl, hok, hcn, hM, htq, hg⟩
end Go.Proofs.YtphlbbnmligadaaGreatDoor
