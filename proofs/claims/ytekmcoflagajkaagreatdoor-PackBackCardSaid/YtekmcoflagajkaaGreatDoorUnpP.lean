/- The program's Unpack. -/
import Derived.Test.YtekmcoflagajkaaGreatDoorThd
import Derived.Test.YtekmcoflagajkaaGreatDoorUnpR
import Derived.Defers
import Derived.Recover
namespace Go.Proofs.YtekmcoflagajkaaGreatDoor
open Go.RowKit

theorem ta_no (w : World) : (Instr.typeAssert .nilIface 20 71 true).run Tryz.prog w = .ok (.tuple #[.agg #[], .bool false]) w := by kernel_rfl
theorem ta_yes (w : World) : (Instr.typeAssert (.iface 71 (.agg #[])) 20 71 true).run Tryz.prog w = .ok (.tuple #[.agg #[], .bool true]) w := by kernel_rfl
set_option maxRecDepth 100000 in
/-- The closure that recovers: behind too few bytes. -/
theorem catch_short (p q : Nat) (u0 u1 u2 u3 : Value) (older : List PanicEntry) (w : World) (hp : p < w.heap.size) (hq : q < w.heap.size) (hpq : p ≠ q)
    (h0 : w.cell? ⟨p, 0, none⟩ = some u0) (h1 : w.cell? ⟨p, 1, none⟩ = some u1) (h2 : w.cell? ⟨p, 2, none⟩ = some u2) (h3 : w.cell? ⟨q, 0, none⟩ = some u3)
    (hf : ∀ o, w.frozen? ⟨p, o, none⟩ = false) (hg : w.frozen? ⟨q, 0, none⟩ = false) :
    CallsD Tryz.prog 27 #[.pointer (some ⟨p, 0, none⟩), .pointer (some ⟨q, 0, none⟩)] (.panicking ({ v := .iface 71 (.agg #[]), recovered := false } :: older)) w fun e u' w' =>
      e = .returned (.tuple #[]) ∧ u' = .panicking ({ v := .iface 71 (.agg #[]), recovered := true } :: older) ∧
        w' = ((((w.setCell ⟨p, 0, none⟩ (.slice none 0 0)).setCell ⟨p, 1, none⟩ (.slice none 0 0)).setCell ⟨p, 2, none⟩ (.bool false)).setCell ⟨q, 0, none⟩ (.int .i64 60)).alloc (.cells #[] 71) := by
  refine callsD_of_wpS Tryz.func27 rfl fun c₀ cs hu => ?_
  apply wpS_seq
  apply wpS_region
  simp [wpOpsS, go_sem, recoverD, hu, Tryz.ntmps27, Exit.thenS, ta_yes]
  apply wpS_seq
  apply wpS_region
  simp [wpOpsS, go_sem, Exit.thenS]
  refine wpS_cond (t := true) (by simp [Act.eval, Array.replicate]) ?_
  simp only [if_true]
  have k0 : p ≠ w.heap.size := by omega
  have k1 : q ≠ w.heap.size := by omega
  have f0 := hf 0
  have f1 := hf 1
  have f2 := hf 2
  have hqp : q ≠ p := fun e => hpq e.symm
  clear hf
  refine wpS_of_wp ?_
  simp [Array.replicate]
  go_wp2_with fail
  simp [bodyPostS, results, Tryz.results27]

set_option maxRecDepth 100000 in
theorem catch_idle (p q : Nat) (w : World) :
    CallsD Tryz.prog 27 #[.pointer (some ⟨p, 0, none⟩), .pointer (some ⟨q, 0, none⟩)] .returning w fun e u' w' =>
      e = .returned (.tuple #[]) ∧ u' = .returning ∧ w' = w.alloc (.cells #[] 71) := by
  refine callsD_of_wpS Tryz.func27 rfl fun c₀ cs hu => ?_
  apply wpS_seq
  apply wpS_region
  simp [wpOpsS, go_sem, recoverD, hu, Tryz.ntmps27, Exit.thenS, ta_no]
  apply wpS_seq
  apply wpS_region
  simp [wpOpsS, go_sem, Exit.thenS]
  refine wpS_cond (t := false) (by simp [Act.eval, Array.replicate]) ?_
  simp only [Bool.false_eq_true, if_false]
  refine wpS_of_wp (wp_skip ?_)
  cases c₀
  simp_all [bodyPostS, results, Tryz.results27]

/-- Behind too few bytes: the door. -/
theorem door_short (p q : Nat) (tm : Array Value) (w W : World) (R : (Bool × List Int × List Thr) × Int) (hR : R = ((false, [], []), 60)) (u0 u1 u2 u3 : Value)
    (t6 : tm[6]? = some (.pointer (some ⟨p, 0, none⟩))) (t7 : tm[7]? = some (.pointer (some ⟨q, 0, none⟩))) (hp : p < W.heap.size) (hq : q < W.heap.size) (hpq : p ≠ q)
    (h0 : W.cell? ⟨p, 0, none⟩ = some u0) (h1 : W.cell? ⟨p, 1, none⟩ = some u1) (h2 : W.cell? ⟨p, 2, none⟩ = some u2) (h3 : W.cell? ⟨q, 0, none⟩ = some u3)
    (hf : ∀ o, W.frozen? ⟨p, o, none⟩ = false) (hg : W.frozen? ⟨q, 0, none⟩ = false) (hB : Below w.heap.size w W) (hwp : w.heap.size ≤ p) (hwq : w.heap.size ≤ q) :
    bodyPostD Tryz.prog Tryz.f14 (UnpPost w R) (Exit.panic [{ v := .iface 71 (.agg #[]), recovered := false }])
      { tmps := tm, defers := [{ target := Target.fn (Fn.func 27) #[.pointer (some ⟨p, 0, none⟩), .pointer (some ⟨q, 0, none⟩)], args := #[] }] } W := by
  refine leaves_cons (f := 27) (args := #[.pointer (some ⟨p, 0, none⟩), .pointer (some ⟨q, 0, none⟩)]) (by simp) (by simp [go_sem]) ?_
  refine (catch_short p q u0 u1 u2 u3 [] W hp hq hpq h0 h1 h2 h3 hf hg).mono ?_
  rintro e u' w'' ⟨rfl, rfl, hw⟩
  have hqp : q ≠ p := fun e => hpq e.symm
  have k0 : p ≠ W.heap.size := by omega
  have k1 : q ≠ W.heap.size := by omega
  have hc : w''.cell? ⟨p, 0, none⟩ = some (.slice none 0 0) ∧ w''.cell? ⟨p, 1, none⟩ = some (.slice none 0 0) ∧ w''.cell? ⟨p, 2, none⟩ = some (.bool false) ∧ w''.cell? ⟨q, 0, none⟩ = some (.int .i64 60) := by
    subst hw
    refine ⟨?_, ?_, ?_, ?_⟩ <;> go_simp
  have hb : Below w.heap.size w w'' := by
    subst hw
    exact ((((hB.setCell hwp _).setCell hwp _).setCell hwp _).setCell hwq _).alloc (by have := hB.size; simpa [World.setCell] using this) _
  clear hw
  obtain ⟨x0, x1, x2, x3⟩ := hc
  have hpost := UnpPost.zero (n := 60) hb
  rw [← hR] at hpost
  have hpost := hid hpost
  simp [Leaves, settle, results, Tryz.results14, go_sem, t6, t7, x0, x1, x2, x3]
  exact hpost.out
/-- Behind the end: the door. -/
theorem door_ret (p q : Nat) (tm : Array Value) (w W : World) (R : (Bool × List Int × List Thr) × Int) (a b c n : Value)
    (t6 : tm[6]? = some (.pointer (some ⟨p, 0, none⟩))) (t7 : tm[7]? = some (.pointer (some ⟨q, 0, none⟩))) (hp : p < W.heap.size) (hq : q < W.heap.size)
    (h0 : W.cell? ⟨p, 0, none⟩ = some a) (h1 : W.cell? ⟨p, 1, none⟩ = some b) (h2 : W.cell? ⟨p, 2, none⟩ = some c) (h3 : W.cell? ⟨q, 0, none⟩ = some n)
    (hpost : Hid (∀ W', Below W.heap.size W W' → UnpPost w R (.returned (.tuple #[.agg #[a, b, c], n])) W')) :
    bodyPostD Tryz.prog Tryz.f14 (UnpPost w R) Exit.ret
      { tmps := tm, defers := [{ target := Target.fn (Fn.func 27) #[.pointer (some ⟨p, 0, none⟩), .pointer (some ⟨q, 0, none⟩)], args := #[] }] } W := by
  refine leaves_cons (f := 27) (args := #[.pointer (some ⟨p, 0, none⟩), .pointer (some ⟨q, 0, none⟩)]) (by simp) (by simp [go_sem]) ?_
  refine (catch_idle p q W).mono ?_
  rintro e u' w'' ⟨rfl, rfl, hw⟩
  have k0 : p ≠ W.heap.size := by omega
  have k1 : q ≠ W.heap.size := by omega
  have hc : w''.cell? ⟨p, 0, none⟩ = some a ∧ w''.cell? ⟨p, 1, none⟩ = some b ∧ w''.cell? ⟨p, 2, none⟩ = some c ∧ w''.cell? ⟨q, 0, none⟩ = some n := by
    subst hw
    refine ⟨?_, ?_, ?_, ?_⟩ <;> go_simp
  have hpo := hid (hpost.out w'' (by subst hw; exact (Below.refl _ _).alloc (Nat.le_refl _) _))
  clear hw
  obtain ⟨x0, x1, x2, x3⟩ := hc
  simp [Leaves, settle, results, Tryz.results14, go_sem, t6, t7, x0, x1, x2, x3]
  exact hpo.out

theorem ThOL.grown {w w' : World} {B : Nat} {v : Value} {LL : List (Thr × Option Addr × Nat)} {r : Option Nat} (h1 : w.ownsRow B 64 6 v LL.length (LL.flatMap thC)) (h2 : ∀ y ∈ LL, EnIn w (Sx w B v) y.2.1 y.1.buf.length y.2.2 y.1.buf) (hg : w.grownBy w' r) (hr : ∀ k, r = some k → k < B) :
    w'.ownsRow B 64 6 v LL.length (LL.flatMap thC) ∧ ∀ y ∈ LL, EnIn w' (Sx w' B v) y.2.1 y.1.buf.length y.2.2 y.1.buf := by
  refine ⟨h1.kept hg ?_, fun y hy => ?_⟩
  · rcases hv : v.ownBlock with _ | k
    · exact .inl rfl
    · right
      intro e
      have := h1.lt k hv
      have := hr k e.symm
      omega
  · refine ((h2 y hy).keep fun b o hb => ?_).widen fun b hb => ⟨hb.1, Nat.lt_of_lt_of_le hb.2.1 hg.size, hb.2.2⟩
    exact World.cell?_of_block (w := w) (a := ⟨b, o, none⟩) (hg.block b hb.2.1 (fun e => by have := hr b e.symm; have := hb.1; omega))
theorem int_grown {w w' : World} {lo hi n cap : Nat} {a : Option Addr} {l : List Int} {r : Option Nat} (h : IntIn w (fun b => lo ≤ b ∧ b < hi) a n cap l) (hg : w.grownBy w' r) (hw : hi ≤ w.heap.size) (hr : ∀ k, r = some k → ¬ (lo ≤ k ∧ k < hi)) : IntIn w' (fun b => lo ≤ b ∧ b < hi) a n cap l :=
  h.keep fun b o hb => World.cell?_of_block (w := w) (a := ⟨b, o, none⟩) (hg.block b (by omega) (fun e => hr b e.symm hb))
theorem takeThr_buf {L r : List Int} {x : Thr} (hb : ∀ y ∈ L, ∃ n : Nat, n ≤ 255 ∧ y = n) (h : takeThr L = some (x, r)) : x.buf.length ≤ 1000 ∧ ∀ y ∈ r, ∃ n : Nat, n ≤ 255 ∧ y = n := by
  unfold takeThr at h
  by_cases h0 : L.length < 7
  · rw [if_pos h0] at h; cases h
  rw [if_neg h0] at h
  by_cases h1 : L.length < 7 + 2 * (L.getD 6 0).toNat
  · rw [if_pos h1] at h; cases h
  rw [if_neg h1] at h
  simp only [Option.some.injEq, Prod.mk.injEq] at h
  obtain ⟨rfl, rfl⟩ := h
  have h6 : 6 < L.length := by omega
  refine ⟨?_, fun y hy => hb y (List.mem_of_mem_drop hy)⟩
  show (pairsL _ _).length ≤ 1000
  rw [pairsL_len, ← List.getElem_eq_getD (h := h6)]
  obtain ⟨n, hn, e⟩ := hb L[6] (List.getElem_mem h6)
  rw [e]
  omega

set_option maxRecDepth 100000 in
set_option maxHeartbeats 16000000 in
theorem unpack_any (vars dom m b : Int) (ac : Option Addr) (nc capc : Nat) (t : List (List Ins)) (s : ByteArray) (w : World)
    (hc : ThsIn w (In_ w) ac nc capc t) (hs : s.size ≤ 100000) (wv : (Lit.int .i64 vars).wf = true) :
    Calls Tryz.prog 14 #[.agg #[.int .i64 vars, .int .i64 dom, .slice ac nc capc], .agg #[.int .i64 m, .int .i64 b], .string s] w (UnpPost w (unpS vars dom t m b (bytL s))) := by
  have hn1 := hc.1
  subst hn1
  obtain ⟨W0, hW⟩ : ∃ W0, W0 = (((w.alloc (.cells #[.int .i64 vars, .int .i64 dom, .slice ac t.length capc] 25)).alloc (.cells #[.int .i64 m, .int .i64 b] 30)).alloc (.cells #[.slice none 0 0, .slice none 0 0, .bool false] 34)).alloc (.cells #[.int .i64 0] 36) := ⟨_, rfl⟩
  have hB : Below w.heap.size w W0 := by subst hW; exact ((((Below.refl _ _).alloc (Nat.le_refl _) _).alloc (by simp) _).alloc (by simp; omega) _).alloc (by simp; omega) _
  have z3 : w.heap.size + 1 + 1 + 1 < W0.heap.size := by subst hW; simp
  have z2 : w.heap.size + 1 + 1 < W0.heap.size := by omega
  have z1 : w.heap.size + 1 < W0.heap.size := by omega
  have z0 : w.heap.size < W0.heap.size := by omega
  have c0 : W0.cell? ⟨w.heap.size, 0, none⟩ = some (.int .i64 vars) := by subst hW; go_simp
  have c1 : W0.cell? ⟨w.heap.size, 1, none⟩ = some (.int .i64 dom) := by subst hW; go_simp
  have c2 : W0.cell? ⟨w.heap.size, 2, none⟩ = some (.slice ac t.length capc) := by subst hW; go_simp
  have m0 : W0.cell? ⟨w.heap.size + 1, 0, none⟩ = some (.int .i64 m) := by subst hW; go_simp
  have m1 : W0.cell? ⟨w.heap.size + 1, 1, none⟩ = some (.int .i64 b) := by subst hW; go_simp
  have r0 : W0.cell? ⟨w.heap.size + 1 + 1, 0, none⟩ = some (.slice none 0 0) := by subst hW; go_simp
  have r1 : W0.cell? ⟨w.heap.size + 1 + 1, 1, none⟩ = some (.slice none 0 0) := by subst hW; go_simp
  have r2 : W0.cell? ⟨w.heap.size + 1 + 1, 2, none⟩ = some (.bool false) := by subst hW; go_simp
  have r3 : W0.cell? ⟨w.heap.size + 1 + 1 + 1, 0, none⟩ = some (.int .i64 0) := by subst hW; go_simp
  have q0 : ∀ o, W0.frozen? ⟨w.heap.size + 1 + 1, o, none⟩ = false := by subst hW; intro o; go_simp
  have q3 : W0.frozen? ⟨w.heap.size + 1 + 1 + 1, 0, none⟩ = false := by subst hW; go_simp
  have hc0 := hid ((Kp.of hB).ths hc)
  have hmay := hid (may_any vars dom m b ac t.length capc t W0 hc0.out)
  have hmf : Hid (mayL vars dom t m b = true → 1 ≤ vars ∧ vars ≤ 4 ∧ 1 ≤ t.length ∧ t.length ≤ 4) := may_facts
  have hu0 : Hid (mayL vars dom t m b = false → unpS vars dom t m b (bytL s) = ((false, [], []), 1)) := unpS_may
  have hu1 : Hid (mayL vars dom t m b = true → unpL vars.toNat t.length (bytL s) = none → unpS vars dom t m b (bytL s) = ((false, [], []), 60)) := unpS_none
  have hu2 : Hid (mayL vars dom t m b = true → ∀ bad mem th, unpL vars.toNat t.length (bytL s) = some (bad, mem, th) → unpS vars dom t m b (bytL s) = if fitsL vars dom t m b th mem then ((bad, mem, th), 0) else ((false, [], []), 60)) := fun h _ _ _ => unpS_fit h
  generalize unpS vars dom t m b (bytL s) = R at *
  generalize mayL vars dom t m b = my at *
  have HB := hid hB
  have HC := hid hc
  have hWx := hid hW
  clear hW hB hc
  have hmkf : ∀ (fn : Fn) (first cap : Array Value) (w : World), (Instr.makeFunc fn first cap).run Tryz.prog w = .ok (.func fn first cap) w := fun _ _ _ _ => rfl
  go_enter_defers Tryz.func14, Tryz.ntmps14
  go_wp2_with fail
  rw [← hWx.out]
  refine hmay.out.mono ?_
  rintro e w1 ⟨rfl, hb1⟩
  have hK1 : Kp W0 w1 := Kp.of hb1
  have hf1 : ∀ b o, b < W0.heap.size → w1.frozen? ⟨b, o, none⟩ = W0.frozen? ⟨b, o, none⟩ := fun b o h => hb1.frozen (p := ⟨b, o, none⟩) h
  have HK1 := hid hK1
  have g1 := hK1.1.size
  clear hmay hWx hb1
  cases my
  case false =>
    have hR : Hid (R = ((false, [], []), 1)) := hu0.out rfl
    obtain ⟨W3, e3, x0, x1, x2⟩ := three (a := .slice none 0 0) (b := .slice none 0 0) (c := .bool false) ((hK1.2 _ _ z2).trans r0) ((hK1.2 _ _ z2).trans r1) ((hK1.2 _ _ z2).trans r2)
    have y3 : W3.cell? ⟨w.heap.size + 1 + 1 + 1, 0, none⟩ = some (.int .i64 0) := by rw [e3, three_cell _ _ (by omega)]; exact (hK1.2 _ _ z3).trans r3
    have hfin0 := three_below (a := .slice none 0 0) (b := .slice none 0 0) (c := .bool false) (Kp.fin HB.out HK1.out) (show w.heap.size ≤ w.heap.size + 1 + 1 by omega)
    rw [← e3] at hfin0
    have E3 := hid e3
    clear e3
    obtain ⟨W4, e4⟩ : ∃ W4, W4 = W3.setCell ⟨w.heap.size + 1 + 1 + 1, 0, none⟩ (.int .i64 1) := ⟨_, rfl⟩
    have u0 : W4.cell? ⟨w.heap.size + 1 + 1, 0, none⟩ = some (.slice none 0 0) := by subst e4; go_simp
    have u1 : W4.cell? ⟨w.heap.size + 1 + 1, 1, none⟩ = some (.slice none 0 0) := by subst e4; go_simp
    have u2 : W4.cell? ⟨w.heap.size + 1 + 1, 2, none⟩ = some (.bool false) := by subst e4; go_simp
    have u3 : W4.cell? ⟨w.heap.size + 1 + 1 + 1, 0, none⟩ = some (.int .i64 1) := by subst e4; go_simp
    have hfin : Hid (Below w.heap.size w W4) := by subst e4; exact hfin0.setCell (by show w.heap.size ≤ w.heap.size + 1 + 1 + 1; omega) _
    have E4 := hid e4
    clear e4 y3 x0 x1 x2 hfin0
    go_wp2_with fail
    rw [← E3.out, ← E4.out, hR.out]
    have hpost := hid (UnpPost.zero (n := 1) hfin.out)
    simp [bodyPostD, Leaves, results, Tryz.results14, go_sem, u0, u1, u2, u3]
    exact hpost.out
  obtain ⟨v1, v4, t1, t4⟩ := hmf.out rfl
  clear hmf
  obtain ⟨vn, hvn⟩ : ∃ vn : Nat, vars = vn := ⟨vars.toNat, by omega⟩
  subst hvn
  have hdoor : Hid (∀ (W : World) (tm : Array Value) (v mv : Value) (bad : Bool), R = ((false, [], []), 60) → w1.grownBy W (some (w.heap.size + 1 + 1)) → SBox W (w.heap.size + 1 + 1) v mv bad →
      tm[6]? = some (.pointer (some ⟨w.heap.size + 1 + 1, 0, none⟩)) → tm[7]? = some (.pointer (some ⟨w.heap.size + 1 + 1 + 1, 0, none⟩)) →
      bodyPostD Tryz.prog Tryz.f14 (UnpPost w R) (Exit.panic [{ v := .iface 71 (.agg #[]), recovered := false }])
        { tmps := tm, defers := [{ target := Target.fn (Fn.func 27) #[.pointer (some ⟨w.heap.size + 1 + 1, 0, none⟩), .pointer (some ⟨w.heap.size + 1 + 1 + 1, 0, none⟩)], args := #[] }] } W) := by
    intro W tm v mv bad hR hG hS h6 h7
    have hz := hG.size
    have hqb := hG.block (w.heap.size + 1 + 1 + 1) (by omega) (by simp)
    refine door_short (w.heap.size + 1 + 1) (w.heap.size + 1 + 1 + 1) tm w W R hR v mv (.bool bad) (.int .i64 0) h6 h7 hS.lt (by omega) (by omega) hS.c0 hS.c1 hS.c2 ?_ hS.f0 ?_ ?_ (by omega) (by omega)
    · exact (World.cell?_of_block (w := w1) (a := ⟨_, 0, none⟩) hqb).trans ((HK1.out.2 _ _ z3).trans r3)
    · exact (World.frozen?_of_block (w := w1) (a := ⟨_, 0, none⟩) hqb).trans ((hf1 _ _ z3).trans q3)
    · exact (Kp.fin HB.out HK1.out).trans (grown_below hG (by omega) (fun n hn => by simp at hn; omega))
  have hcode : Hid (∀ (W : World), w1.grownBy W (some (w.heap.size + 1 + 1)) → W.cell? ⟨w.heap.size, 0, none⟩ = some (.int .i64 vn) ∧ W.cell? ⟨w.heap.size, 1, none⟩ = some (.int .i64 dom) ∧ W.cell? ⟨w.heap.size, 2, none⟩ = some (.slice ac t.length capc) ∧ W.cell? ⟨w.heap.size + 1, 0, none⟩ = some (.int .i64 m) ∧ W.cell? ⟨w.heap.size + 1, 1, none⟩ = some (.int .i64 b)) := by
    intro W hG
    have ha := hG.block w.heap.size (by omega) (by simp; omega)
    have hb := hG.block (w.heap.size + 1) (by omega) (by simp)
    exact ⟨(World.cell?_of_block (w := w1) (a := ⟨_, 0, none⟩) ha).trans ((HK1.out.2 _ _ z0).trans c0), (World.cell?_of_block (w := w1) (a := ⟨_, 1, none⟩) ha).trans ((HK1.out.2 _ _ z0).trans c1), (World.cell?_of_block (w := w1) (a := ⟨_, 2, none⟩) ha).trans ((HK1.out.2 _ _ z0).trans c2),
      (World.cell?_of_block (w := w1) (a := ⟨_, 0, none⟩) hb).trans ((HK1.out.2 _ _ z1).trans m0), (World.cell?_of_block (w := w1) (a := ⟨_, 1, none⟩) hb).trans ((HK1.out.2 _ _ z1).trans m1)⟩
  have hths : Hid (∀ (W : World), w1.grownBy W (some (w.heap.size + 1 + 1)) → ThsIn W (In_ W) ac t.length capc t) := by
    intro W hG
    refine (HC.out.keep fun b o hb => ?_).widen fun b hb => ?_
    · have hb' : b < w.heap.size := hb
      exact ((World.cell?_of_block (w := w1) (a := ⟨b, o, none⟩) (hG.block b (by omega) (by simp; omega))).trans (HK1.out.2 _ _ (by omega))).trans (HB.out.cell (p := ⟨b, o, none⟩) hb')
    · have hb' : b < w.heap.size := hb
      have := hG.size
      show b < _
      omega
  have htk := hid (taker_any s w1)
  go_wp2_with fail
  refine htk.out.mono ?_
  rintro e w2 ⟨rfl, hw2⟩
  have hz2 : w2.heap.size = w1.heap.size + 1 := by subst hw2; simp
  have hG2 : Hid (w1.grownBy w2 (some (w.heap.size + 1 + 1))) := by subst hw2; exact grown_alloc ⟨rfl, rfl, rfl, Nat.le_refl _, fun _ _ _ => rfl⟩ _
  have hS2 : Hid (StB w2 w1.heap.size (bytL s)) := by
    subst hw2
    refine ⟨by simp, ?_, s, ?_, rfl, hs⟩ <;> go_simp
  have hX2 : Hid (SBox w2 (w.heap.size + 1 + 1) (.slice none 0 0) (.slice none 0 0) false) := by
    subst hw2
    have hx : SBox w1 (w.heap.size + 1 + 1) (.slice none 0 0) (.slice none 0 0) false := ⟨by omega, (hK1.2 _ _ z2).trans r0, (hK1.2 _ _ z2).trans r1, (hK1.2 _ _ z2).trans r2, fun o => (hf1 _ _ z2).trans (q0 o)⟩
    exact hx.block (by simp) (Below.heap_alloc _ _ _ (by omega))
  have hfq : Hid (w1.frozen? ⟨w.heap.size + 1 + 1 + 1, 0, none⟩ = false) := (hf1 _ _ z3).trans q3
  clear hw2 htk hf1 hK1 q0
  generalize hL : bytL s = L at *
  cases L with
  | nil =>
    have hn := hid (next_any w1.heap.size [] w2 hS2.out)
    have hR : Hid (R = ((false, [], []), 60)) := hu1.out (by first | rfl | trivial) (unpL_short (by simp; omega))
    clear hL
    go_wp2_with fail
    refine hn.out.mono ?_
    rintro e w3 ⟨rfl, rfl⟩
    go_wp2_with fail
    exact hdoor.out _ _ _ _ _ hR.out hG2.out hX2.out rfl rfl
  | cons x L1 =>
    have hn := hid (next_any w1.heap.size (x :: L1) w2 hS2.out)
    obtain ⟨xn, hxn, hx⟩ := bytL_byte s 0
    rw [hL] at hx
    obtain rfl : x = (xn : Int) := hx
    have HL := hid hL
    clear hL
    go_wp2_with fail
    refine hn.out.mono ?_
    rintro e w3 ⟨rfl, hS3, hG3, hz3⟩
    have hGw3 : Hid (w1.grownBy w3 (some (w.heap.size + 1 + 1))) := grown_new hG2.out hG3 (fun n hn => by simp at hn; omega)
    have hX3 := hid (hX2.out.grown hG3 (by simp; omega))
    have hS3 := hid hS3
    obtain ⟨p9, p0, p1, p2, pf⟩ := hX3.out
    have pf2 := pf 2
    obtain ⟨bb, hbb⟩ : ∃ bb : Bool, ((xn : Int) == 1) = bb := ⟨_, rfl⟩
    clear hG3 hn hS2 hX2 hG2 pf
    obtain ⟨n0, -, n2, -, -⟩ := hcode.out w3 hGw3.out
    go_wp2_with fail
    generalize hV3 : World.setCell w3 _ _ = V3
    have hG3 : Hid (w1.grownBy V3 (some (w.heap.size + 1 + 1))) := by subst hV3; exact grown_trans hGw3.out (grown_set _ _ _ _)
    have hS3' : Hid (StB V3 w1.heap.size L1) := by subst hV3; exact hS3.out.set (by omega)
    have hX3' : Hid (SBox V3 (w.heap.size + 1 + 1) (.slice none 0 0) (.slice none 0 0) bb) := by
      subst hV3
      have hpf := hX3.out.f0
      refine ⟨by simpa [World.setCell] using p9, ?_, ?_, ?_, fun o => frozen_put (hpf o)⟩ <;> go_simp
    have hz3' : w1.heap.size < V3.heap.size := hS3'.out.lt
    clear hV3 hS3 hX3 hGw3 p9 p0 p1 p2 pf2 n0 n2 hz3
    go_loopw [29] (fun i wr => ∃ (k : Nat) (mv : Value), k ≤ vn ∧ k ≤ L1.length ∧ i = .int .i64 k ∧ Hid (w1.grownBy wr (some (w.heap.size + 1 + 1))) ∧ Hid (SBox wr (w.heap.size + 1 + 1) (.slice none 0 0) mv bb) ∧ Hid (StB wr w1.heap.size (L1.drop k)) ∧ Hid (NumIs wr (w1.heap.size + 1) mv (L1.take k))) (fun i _ => vn - (intOf i).toNat)
    case atStart => exact ⟨0, _, Nat.zero_le _, Nat.zero_le _, rfl, hG3.out, hX3'.out, hS3'.out, NumIs.nil⟩
    case round =>
      clear hG3 hS3' hX3'
      obtain ⟨k, mv, hk, hkl, rfl, hG4, hX4, hS4, hN4⟩ := hrel
      by_cases hlt : k < vn
      · cases hd : L1.drop k with
        | nil =>
          have hle := drop_end hd
          have hR : Hid (R = ((false, [], []), 60)) := hu1.out (by first | rfl | trivial) (unpL_short (by simp; omega))
          have hn := hid (next_any w1.heap.size [] wr.drew (by rw [← hd]; exact hS4.out.drew))
          obtain ⟨p9, p0, p1, p2, pf⟩ := hX4.out
          clear hd
          go_wp2_with fail
          refine wp_region_any (by kernel_rfl) ?_
          refine wpAny_ready (rs := [0, 2]) (by kernel_rfl) (by decide) (AllReady.cons rfl (fun K0_0 h0_0 => ?_) (AllReady.cons rfl (fun K0_2 h0_2 => ?_) (AllReady.nil)))
          · go_simp
            refine h0_0 _ _ ?_
            clear h0_0 K0_0
            refine wpAny_ready (rs := [1, 2]) (by kernel_rfl) (by decide) (AllReady.cons rfl (fun K1_1 h1_1 => ?_) (AllReady.cons rfl (fun K1_2 h1_2 => ?_) (AllReady.nil)))
            · go_simp
              refine h1_1 _ _ ?_
              clear h1_1 K1_1
              refine wpAny_ready (rs := [2]) (by kernel_rfl) (by decide) (AllReady.cons rfl (fun K2_2 h2_2 => ?_) (AllReady.nil))
              · go_simp
                refine h2_2 _ _ ?_
                clear h2_2 K2_2
                refine wpAny_ready (rs := [3]) (by kernel_rfl) (by decide) (AllReady.cons rfl (fun K3_3 h3_3 => ?_) (AllReady.nil))
                · go_simp
                  refine hn.out.mono ?_
                  rintro e w3 ⟨rfl, rfl⟩
                  exact hdoor.out _ _ _ _ _ hR.out (grown_drew hG4.out) (hX4.out.block (Nat.le_refl _) rfl) rfl rfl
            · go_simp
              refine h1_2 _ _ ?_
              clear h1_2 K1_2
              refine wpAny_ready (rs := [1, 3]) (by kernel_rfl) (by decide) (AllReady.cons rfl (fun K4_1 h4_1 => ?_) (AllReady.cons rfl (fun K4_3 h4_3 => ?_) (AllReady.nil)))
              · go_simp
                refine h4_1 _ _ ?_
                clear h4_1 K4_1
                refine wpAny_ready (rs := [3]) (by kernel_rfl) (by decide) (AllReady.cons rfl (fun K5_3 h5_3 => ?_) (AllReady.nil))
                · go_simp
                  refine hn.out.mono ?_
                  rintro e w3 ⟨rfl, rfl⟩
                  exact hdoor.out _ _ _ _ _ hR.out (grown_drew hG4.out) (hX4.out.block (Nat.le_refl _) rfl) rfl rfl
              · go_simp
                refine hn.out.mono ?_
                rintro e w3 ⟨rfl, rfl⟩
                exact hdoor.out _ _ _ _ _ hR.out (grown_drew hG4.out) (hX4.out.block (Nat.le_refl _) rfl) rfl rfl
          · go_simp
            refine h0_2 _ _ ?_
            clear h0_2 K0_2
            refine wpAny_ready (rs := [0, 3]) (by kernel_rfl) (by decide) (AllReady.cons rfl (fun K6_0 h6_0 => ?_) (AllReady.cons rfl (fun K6_3 h6_3 => ?_) (AllReady.nil)))
            · go_simp
              refine h6_0 _ _ ?_
              clear h6_0 K6_0
              refine wpAny_ready (rs := [1, 3]) (by kernel_rfl) (by decide) (AllReady.cons rfl (fun K7_1 h7_1 => ?_) (AllReady.cons rfl (fun K7_3 h7_3 => ?_) (AllReady.nil)))
              · go_simp
                refine h7_1 _ _ ?_
                clear h7_1 K7_1
                refine wpAny_ready (rs := [3]) (by kernel_rfl) (by decide) (AllReady.cons rfl (fun K8_3 h8_3 => ?_) (AllReady.nil))
                · go_simp
                  refine hn.out.mono ?_
                  rintro e w3 ⟨rfl, rfl⟩
                  exact hdoor.out _ _ _ _ _ hR.out (grown_drew hG4.out) (hX4.out.block (Nat.le_refl _) rfl) rfl rfl
              · go_simp
                refine hn.out.mono ?_
                rintro e w3 ⟨rfl, rfl⟩
                exact hdoor.out _ _ _ _ _ hR.out (grown_drew hG4.out) (hX4.out.block (Nat.le_refl _) rfl) rfl rfl
            · go_simp
              refine hn.out.mono ?_
              rintro e w3 ⟨rfl, rfl⟩
              exact hdoor.out _ _ _ _ _ hR.out (grown_drew hG4.out) (hX4.out.block (Nat.le_refl _) rfl) rfl rfl
        | cons x r =>
          obtain ⟨hd0, hd1, hd2⟩ := drop_head hd
          have hts : Hid (L1.take (k + 1) = L1.take k ++ [x]) := by
            show _ = _
            rw [List.take_succ_eq_append_getElem (show k < L1.length by omega)]
            rw [← hd0, ← List.getElem_eq_getD (h := show k < L1.length by omega)]
          have hle : Hid ((L1.take k).length ≤ 10) := by show _ ≤ _; rw [List.length_take]; omega
          obtain ⟨⟨a1, n1, c1', rfl⟩, hown⟩ := hN4.out
          have hown := hid hown
          have hn := hid (next_any w1.heap.size (x :: r) wr.drew (by rw [← hd]; exact hS4.out.drew))
          obtain ⟨p9, p0, p1, p2, pf⟩ := hX4.out
          have pf1 := pf 1
          generalize L1.take k = C at *
          clear hd pf hN4 hS4
          go_wp2_with fail
          refine wp_region_noPanic ?_
          go_region_law (first
            | (go_simp; go_at_call 49; (with_reducible refine hn.out.mono ?_); rintro e w4 ⟨rfl, hS5, hG5, hz5⟩;
               have hG5d : Hid (wr.grownBy w4 (some w1.heap.size)) := ⟨hG5.os, hG5.tape, hG5.output, hG5.size, hG5.block⟩;
               have hX5 := hid (hX4.out.grown hG5d.out (by simp; omega));
               have hGw5 : Hid (w1.grownBy w4 (some (w.heap.size + 1 + 1))) := grown_new hG4.out hG5d.out (fun n hn => by simp at hn; omega);
               have hO5 := hid (hown.out.kept hG5d.out (.inr (fun e => by have := (hown.out.lt _ e).1; omega)));
               have hS5 := hid hS5;
               clear hG5 hz5 hG5d;
               obtain ⟨z9, z0, z1', z2', zf⟩ := hX5.out;
               have zf1 := zf 1;
               clear zf)
            | (refine step_i6 (base := w1.heap.size + 1) (.tmp 32) (.tmp 35) (.slice a1 n1 c1') C.length (C.map (Value.int .i64)) 1 [.int .i64 x] ?_ ?_ ?_ ?_ ?_ ?_ ?_ ?_ ?_;
               (focus rfl); (focus rfl); (focus rfl); (focus exact hO5.out.alloc _); (focus (first | exact ⟨_, _, rfl, src_new rfl⟩ | exact ⟨_, _, rfl, src_new_d rfl⟩)); (focus exact one_i6); (focus (have := hle.out; omega)); (focus (have := hS5.out.lt; simp; omega));
               intro v6 w6 hown6 hg6 hat6;
               have hg9 := hid (grown_pre' hg6);
               have hr9 : Hid ((Value.slice a1 n1 c1').ownBlock ≠ some (w.heap.size + 1 + 1)) := fun e => by have := (hO5.out.lt _ e).1; omega;
               have hX6 := hid (hX5.out.grown hg9.out hr9.out);
               have hS6 := hid (hS5.out.grown hg9.out (fun e => by have := (hO5.out.lt _ e).1; omega));
               have hGw6 : Hid (w1.grownBy w6 (some (w.heap.size + 1 + 1))) := grown_new hGw5.out hg9.out (fun n hn => by have := (hO5.out.lt n hn).1; omega);
               have hO6 := hid (NumIs.app (L := C) (news := [x]) hown6);
               clear hg6 hat6 hown6 hg9 hr9;
               obtain ⟨⟨a6, n6, c6, rfl⟩, _⟩ := hO6.out;
               obtain ⟨y9, y0, y1, y2, yf⟩ := hX6.out;
               have yf1 := yf 1;
               clear yf)
            | fail)
          all_goals
            have hGn : Hid (w1.grownBy (w6.setCell ⟨w.heap.size + 1 + 1, 1, none⟩ (.slice a6 n6 c6)) (some (w.heap.size + 1 + 1))) := grown_trans hGw6.out (grown_set _ _ _ _)
            have hXn : Hid (SBox (w6.setCell ⟨w.heap.size + 1 + 1, 1, none⟩ (.slice a6 n6 c6)) (w.heap.size + 1 + 1) (.slice none 0 0) (.slice a6 n6 c6) bb) := by
              have hpf := hX6.out.f0
              refine ⟨by simpa [World.setCell] using y9, ?_, ?_, ?_, fun o => frozen_put (hpf o)⟩ <;> go_simp
            have hSn : Hid (StB (w6.setCell ⟨w.heap.size + 1 + 1, 1, none⟩ (.slice a6 n6 c6)) w1.heap.size (L1.drop (k + 1))) := by
              show StB _ _ _
              rw [hd1]
              exact hS6.out.set (by omega)
            have hNn : Hid (NumIs (w6.setCell ⟨w.heap.size + 1 + 1, 1, none⟩ (.slice a6 n6 c6)) (w1.heap.size + 1) (.slice a6 n6 c6) (L1.take (k + 1))) := by
              show NumIs _ _ _ _
              rw [hts.out]
              exact ⟨hO6.out.1, ownsRow_setCell_below hO6.out.2 (a := ⟨w.heap.size + 1 + 1, 1, none⟩) (by show w.heap.size + 1 + 1 < _; omega) _⟩
            clear hX6 hS6 hGw6 hO6 y9 y0 y1 y2 yf1 hX5 hGw5 hO5 hS5 z9 z0 z1' z2' zf1 p9 p0 p1 p2 pf1
            refine NoPanic.normal ?_
            go_wp2_with fail
            go_roundw
            case rel => exact ⟨k + 1, _, by omega, by omega, by simp, hGn, hXn, hSn, hNn⟩
            case measure => simp [intOf]; omega
      · obtain rfl : k = vn := by omega
        obtain ⟨n0, -, n2, -, -⟩ := hcode.out wr hG4.out
        have hmx := hc0.out.le
        have hmx2 := hc0.out.mx
        unfold maxLen at hmx2
        have hml : (L1.take k).length = k := by rw [List.length_take]; omega
        obtain ⟨am, capm, hmv, hmi⟩ := IntIn.of_own hN4.out.2
        rw [hml] at hmv hmi
        subst hmv
        have hB5 : w1.heap.size < wr.heap.size := hS4.out.lt
        have hby : Hid (∀ y ∈ L1.drop k, ∃ n : Nat, n ≤ 255 ∧ y = n) := by
          intro y hy
          have h1 : y ∈ bytL s := by rw [HL.out]; exact List.mem_cons_of_mem _ (List.mem_of_mem_drop hy)
          unfold bytL at h1
          obtain ⟨c, _, rfl⟩ := List.mem_map.1 h1
          exact ⟨c.toNat, by have := c.toNat_lt; omega, rfl⟩
        have hdr : Hid (((xn : Int) :: L1).drop (1 + k) = L1.drop k) := by show _ = _; rw [Nat.add_comm]; rfl
        have HMI := hid hmi
        clear hmi hN4
        obtain ⟨W5, rfl⟩ : ∃ W5 : World, W5 = wr := ⟨_, rfl⟩
        go_wp2_with fail
        go_loopw [42] (fun i wr => ∃ (j : Nat) (C : List Thr) (r : List Int) (v : Value), j ≤ t.length ∧ i = .int .i64 j ∧ Hid (takeThrs j (((xn : Int) :: L1).drop (1 + k)) = some (C, r)) ∧ Hid (∀ x ∈ C, x.buf.length ≤ 1000) ∧ Hid (w1.grownBy wr (some (w.heap.size + 1 + 1))) ∧ Hid (SBox wr (w.heap.size + 1 + 1) v (.slice am k capm) bb) ∧ Hid (StB wr w1.heap.size r) ∧ Hid (∀ y ∈ r, ∃ n : Nat, n ≤ 255 ∧ y = n) ∧ Hid (W5.heap.size ≤ wr.heap.size ∧ ThO wr W5.heap.size v C) ∧ Hid (IntIn wr (fun b => w1.heap.size + 1 ≤ b ∧ b < W5.heap.size) am k capm (L1.take k))) (fun i _ => t.length - (intOf i).toNat)
        case atStart => exact ⟨0, [], L1.drop k, _, Nat.zero_le _, rfl, by show _ = _; rw [hdr.out]; rfl, fun x hx => by simp at hx, hG4.out, hX4.out, hS4.out, hby.out, ⟨Nat.le_refl _, ThO.nil⟩, HMI.out⟩
        case round =>
          clear hG4 hX4 hS4 HMI n0 n2 hby
          obtain ⟨j, C, r, v, hj, rfl, hT, hbf, hG6, hX6, hS6, hby6, hO6, hM6⟩ := hrel
          by_cases hjt : j < t.length
          · obtain ⟨LL, hLL, hown, hen⟩ := hO6.out.2
            obtain ⟨av, cv, rfl⟩ := own_at3 hown
            have hLLn : LL.length ≤ 100 := by have h := congrArg List.length hLL; rw [List.length_map, takeThrs_len hT.out] at h; omega
            have hzz := hO6.out.1
            have HLL := hid hLL
            have Hown := hid hown
            have Hen := hid hen
            have hnt := hid (thread_any w1.heap.size r wr.drew hS6.out.drew hby6.out)
            obtain ⟨p9, p0, p1, p2, pf⟩ := hX6.out
            have pf0 := pf 0
            clear hLL hown hen pf hO6
            cases hx : takeThr r with
            | none =>
              have hn : Hid (Calls Tryz.prog 29 #[.func (.func 49) #[] #[.pointer (some ⟨w1.heap.size, 0, none⟩)]] wr.drew fun e w' => e = shortP ∧ wr.drew.grownBy w' (some w1.heap.size)) := hnt.out.mono fun e w' h => by unfold ThreadPost at h; rw [hx] at h; exact h
              have hR : Hid (R = ((false, [], []), 60)) := hu1.out (by first | rfl | trivial) (unpL_none (takeThrs_none (takeThrs_stop hT.out hx) (by omega)))
              have hGd := hid (grown_drew hG6.out)
              have hXd : Hid (SBox wr.drew (w.heap.size + 1 + 1) (.slice av LL.length cv) (.slice am k capm) bb) := hX6.out.block (Nat.le_refl _) rfl
              clear hx hnt
              go_wp2_with fail
              refine wp_region_any (by kernel_rfl) ?_
              refine wpAny_ready (rs := [0, 2]) (by kernel_rfl) (by decide) (AllReady.cons rfl (fun K0_0 h0_0 => ?_) (AllReady.cons rfl (fun K0_2 h0_2 => ?_) (AllReady.nil)))
              · go_simp
                refine h0_0 _ _ ?_
                clear h0_0 K0_0
                refine wpAny_ready (rs := [1, 2]) (by kernel_rfl) (by decide) (AllReady.cons rfl (fun K1_1 h1_1 => ?_) (AllReady.cons rfl (fun K1_2 h1_2 => ?_) (AllReady.nil)))
                · go_simp
                  refine h1_1 _ _ ?_
                  clear h1_1 K1_1
                  refine wpAny_ready (rs := [2]) (by kernel_rfl) (by decide) (AllReady.cons rfl (fun K2_2 h2_2 => ?_) (AllReady.nil))
                  · go_simp
                    refine h2_2 _ _ ?_
                    clear h2_2 K2_2
                    refine wpAny_ready (rs := [3]) (by kernel_rfl) (by decide) (AllReady.cons rfl (fun K3_3 h3_3 => ?_) (AllReady.nil))
                    · go_simp
                      refine hn.out.mono ?_
                      rintro e w3 ⟨rfl, hg3⟩
                      exact hdoor.out _ _ _ _ _ hR.out (grown_new hGd.out hg3 (fun n hn => by simp at hn; omega)) (hXd.out.grown hg3 (by simp; omega)) rfl rfl
                · go_simp
                  refine h1_2 _ _ ?_
                  clear h1_2 K1_2
                  refine wpAny_ready (rs := [1, 3]) (by kernel_rfl) (by decide) (AllReady.cons rfl (fun K4_1 h4_1 => ?_) (AllReady.cons rfl (fun K4_3 h4_3 => ?_) (AllReady.nil)))
                  · go_simp
                    refine h4_1 _ _ ?_
                    clear h4_1 K4_1
                    refine wpAny_ready (rs := [3]) (by kernel_rfl) (by decide) (AllReady.cons rfl (fun K5_3 h5_3 => ?_) (AllReady.nil))
                    · go_simp
                      refine hn.out.mono ?_
                      rintro e w3 ⟨rfl, hg3⟩
                      exact hdoor.out _ _ _ _ _ hR.out (grown_new hGd.out hg3 (fun n hn => by simp at hn; omega)) (hXd.out.grown hg3 (by simp; omega)) rfl rfl
                  · go_simp
                    refine hn.out.mono ?_
                    rintro e w3 ⟨rfl, hg3⟩
                    exact hdoor.out _ _ _ _ _ hR.out (grown_new hGd.out hg3 (fun n hn => by simp at hn; omega)) (hXd.out.grown hg3 (by simp; omega)) rfl rfl
              · go_simp
                refine h0_2 _ _ ?_
                clear h0_2 K0_2
                refine wpAny_ready (rs := [0, 3]) (by kernel_rfl) (by decide) (AllReady.cons rfl (fun K6_0 h6_0 => ?_) (AllReady.cons rfl (fun K6_3 h6_3 => ?_) (AllReady.nil)))
                · go_simp
                  refine h6_0 _ _ ?_
                  clear h6_0 K6_0
                  refine wpAny_ready (rs := [1, 3]) (by kernel_rfl) (by decide) (AllReady.cons rfl (fun K7_1 h7_1 => ?_) (AllReady.cons rfl (fun K7_3 h7_3 => ?_) (AllReady.nil)))
                  · go_simp
                    refine h7_1 _ _ ?_
                    clear h7_1 K7_1
                    refine wpAny_ready (rs := [3]) (by kernel_rfl) (by decide) (AllReady.cons rfl (fun K8_3 h8_3 => ?_) (AllReady.nil))
                    · go_simp
                      refine hn.out.mono ?_
                      rintro e w3 ⟨rfl, hg3⟩
                      exact hdoor.out _ _ _ _ _ hR.out (grown_new hGd.out hg3 (fun n hn => by simp at hn; omega)) (hXd.out.grown hg3 (by simp; omega)) rfl rfl
                  · go_simp
                    refine hn.out.mono ?_
                    rintro e w3 ⟨rfl, hg3⟩
                    exact hdoor.out _ _ _ _ _ hR.out (grown_new hGd.out hg3 (fun n hn => by simp at hn; omega)) (hXd.out.grown hg3 (by simp; omega)) rfl rfl
                · go_simp
                  refine hn.out.mono ?_
                  rintro e w3 ⟨rfl, hg3⟩
                  exact hdoor.out _ _ _ _ _ hR.out (grown_new hGd.out hg3 (fun n hn => by simp at hn; omega)) (hXd.out.grown hg3 (by simp; omega)) rfl rfl
            | some p =>
              obtain ⟨⟨pc, r0, r1, r2, r3, buf⟩, r'⟩ := p
              have hn : Hid (Calls Tryz.prog 29 #[.func (.func 49) #[] #[.pointer (some ⟨w1.heap.size, 0, none⟩)]] wr.drew fun e w' => ∃ ar kr, e = .returned (.agg #[.int .i64 pc, .int .i64 r0, .int .i64 r1, .int .i64 r2, .int .i64 r3, .slice ar buf.length kr]) ∧ EnIn w' (fun b => wr.heap.size ≤ b ∧ b < w'.heap.size) ar buf.length kr buf ∧ StB w' w1.heap.size r' ∧ wr.drew.grownBy w' (some w1.heap.size)) := hnt.out.mono fun e w' h => by unfold ThreadPost at h; rw [hx] at h; exact h
              obtain ⟨hb1, hby7⟩ := takeThr_buf hby6.out hx
              have hTn := hid (takeThrs_step hT.out hx)
              have hby7 := hid hby7
              clear hx hnt
              go_wp2_with fail
              refine wp_region_noPanic ?_
              go_region_law (first
                | (go_simp; go_at_call 29; (with_reducible refine hn.out.mono ?_); rintro e w4 ⟨ar, kr, rfl, hen7, hS7, hG7⟩;
                   have hG7d : Hid (wr.grownBy w4 (some w1.heap.size)) := ⟨hG7.os, hG7.tape, hG7.output, hG7.size, hG7.block⟩;
                   have hX7 := hid (hX6.out.grown hG7d.out (by simp; omega));
                   have hGw7 : Hid (w1.grownBy w4 (some (w.heap.size + 1 + 1))) := grown_new hG6.out hG7d.out (fun n hn => by simp at hn; omega);
                   have hOL7 := hid (ThOL.grown Hown.out Hen.out hG7d.out (fun n hn => by simp at hn; omega));
                   have hM7 := hid (int_grown hM6.out hG7d.out hzz (fun n hn => by simp at hn; omega));
                   have hz7 := hG7d.out.size;
                   have hS7 := hid hS7;
                   have hen7 := hid hen7;
                   clear hG7 hG7d;
                   obtain ⟨z9, z0, z1', z2', zf⟩ := hX7.out;
                   have zf0 := zf 0;
                   clear zf)
                | (refine step_th (base := W5.heap.size) (.tmp 45) (.tmp 48) (.slice av LL.length cv) LL.length (LL.flatMap thC) 1 [.int .i64 pc, .int .i64 r0, .int .i64 r1, .int .i64 r2, .int .i64 r3, .slice ar buf.length kr] ?_ ?_ ?_ ?_ ?_ ?_ ?_ ?_ ?_;
                   (focus rfl); (focus rfl); (focus rfl); (focus exact hOL7.out.1.alloc _); (focus (first | exact ⟨_, _, rfl, src_new rfl⟩ | exact ⟨_, _, rfl, src_new_d rfl⟩)); (focus exact thC_one [(⟨pc, r0, r1, r2, r3, buf⟩, ar, kr)]); (focus omega); (focus (simp; omega));
                   intro v8 w8 hown8 hg8 hat8;
                   have hgp := hid (grown_pre' hg8);
                   have hap := hid (at_pre hat8);
                   have hr8 : Hid ((Value.slice av LL.length cv).ownBlock ≠ some (w.heap.size + 1 + 1)) := fun e => by have := (hOL7.out.1.lt _ e).1; omega;
                   have hX8 := hid (hX7.out.grown hgp.out hr8.out);
                   have hS8 := hid (hS7.out.grown hgp.out (fun e => by have := (hOL7.out.1.lt _ e).1; omega));
                   have hGw8 : Hid (w1.grownBy w8 (some (w.heap.size + 1 + 1))) := grown_new hGw7.out hgp.out (fun n hn => by have := (hOL7.out.1.lt n hn).1; omega);
                   have hM8 := hid (int_grown hM7.out hgp.out (by omega) (fun n hn => by have := (hOL7.out.1.lt n hn).1; omega));
                   have hO8 : Hid (ThO w8 W5.heap.size v8 (LL.map (·.1) ++ [⟨pc, r0, r1, r2, r3, buf⟩])) := ThO.app (ar := ar) (kr := kr) hown8 hgp.out hap.out hOL7.out.2 (hen7.out.widen fun n hn => ⟨by have h1 : wr.heap.size ≤ n := hn.1; omega, hn.2, fun e => by have h1 : wr.heap.size ≤ n := hn.1; have := (Hown.out.lt n e).2; omega⟩);
                   have hz8 := hgp.out.size;
                   obtain ⟨a8, c8, rfl⟩ := own_at3 hown8;
                   clear hown8 hg8 hat8 hgp hap hr8;
                   obtain ⟨y9, y0, y1, y2, yf⟩ := hX8.out;
                   have yf0 := yf 0;
                   clear yf)
                | fail)
              all_goals
                have hGn : Hid (w1.grownBy (w8.setCell ⟨w.heap.size + 1 + 1, 0, none⟩ (.slice a8 (LL.length + 1) c8)) (some (w.heap.size + 1 + 1))) := grown_trans hGw8.out (grown_set _ _ _ _)
                have hXn : Hid (SBox (w8.setCell ⟨w.heap.size + 1 + 1, 0, none⟩ (.slice a8 (LL.length + 1) c8)) (w.heap.size + 1 + 1) (.slice a8 (LL.length + 1) c8) (.slice am k capm) bb) := by
                  have hpf := hX8.out.f0
                  refine ⟨by simpa [World.setCell] using y9, ?_, ?_, ?_, fun o => frozen_put (hpf o)⟩ <;> go_simp
                have hSn : Hid (StB (w8.setCell ⟨w.heap.size + 1 + 1, 0, none⟩ (.slice a8 (LL.length + 1) c8)) w1.heap.size r') := hS8.out.set (by omega)
                have hOn : Hid (W5.heap.size ≤ (w8.setCell ⟨w.heap.size + 1 + 1, 0, none⟩ (.slice a8 (LL.length + 1) c8)).heap.size ∧ ThO (w8.setCell ⟨w.heap.size + 1 + 1, 0, none⟩ (.slice a8 (LL.length + 1) c8)) W5.heap.size (.slice a8 (LL.length + 1) c8) (LL.map (·.1) ++ [⟨pc, r0, r1, r2, r3, buf⟩])) :=
                  ⟨by simp [World.setCell]; omega, ThO.grown hO8.out (grown_set _ _ _ _) (fun n hn => by simp at hn; omega)⟩
                have hMn : Hid (IntIn (w8.setCell ⟨w.heap.size + 1 + 1, 0, none⟩ (.slice a8 (LL.length + 1) c8)) (fun b => w1.heap.size + 1 ≤ b ∧ b < W5.heap.size) am k capm (L1.take k)) := int_grown hM8.out (grown_set _ _ _ _) (by omega) (fun n hn => by simp at hn; omega)
                have hTn9 : Hid (takeThrs (j + 1) (((xn : Int) :: L1).drop (1 + k)) = some (LL.map (·.1) ++ [⟨pc, r0, r1, r2, r3, buf⟩], r')) := by show _ = _; rw [← HLL.out]; exact hTn.out
                have hbf9 : Hid (∀ x ∈ LL.map (·.1) ++ [(⟨pc, r0, r1, r2, r3, buf⟩ : Thr)], x.buf.length ≤ 1000) := by
                  intro x hx
                  rcases List.mem_append.1 hx with hx | hx
                  · rw [← HLL.out] at hx
                    exact hbf.out x hx
                  · simp at hx
                    subst hx
                    exact hb1
                clear hX8 hS8 hGw8 hO8 hM8 y9 y0 y1 y2 yf0 hX7 hGw7 hOL7 hM7 hS7 hen7 z9 z0 z1' z2' zf0 p9 p0 p1 p2 pf0
                refine NoPanic.normal ?_
                go_wp2_with fail
                go_roundw
                case rel => exact ⟨j + 1, _, r', _, by omega, by simp, hTn9, hbf9, hGn, hXn, hSn, hby7, hOn, hMn⟩
                case measure => simp [intOf]; omega
          · obtain rfl : j = t.length := by omega
            have hq3 : Hid (∀ W, w1.grownBy W (some (w.heap.size + 1 + 1)) → W.frozen? ⟨w.heap.size + 1 + 1 + 1, 0, none⟩ = false) := fun W hG => (World.frozen?_of_block (w := w1) (a := ⟨w.heap.size + 1 + 1 + 1, 0, none⟩) (hG.block (w.heap.size + 1 + 1 + 1) (by omega) (by simp))).trans hfq.out
            have hz6 := hX6.out.lt
            have hz7 := hG6.out.size
            by_cases hx1 : (1 : Int) < xn
            · have hR : Hid (R = ((false, [], []), 60)) := hu1.out (by first | rfl | trivial) (unpL_big (by show (1 : Int) < xn; exact hx1))
              have hGz := hG6.out
              have hqz := hGz.block (w.heap.size + 1 + 1 + 1) (by omega) (by simp)
              have qc : wr.cell? ⟨w.heap.size + 1 + 1 + 1, 0, none⟩ = some (.int .i64 0) := (World.cell?_of_block (w := w1) (a := ⟨_, 0, none⟩) hqz).trans ((HK1.out.2 _ _ z3).trans r3)
              have qf : wr.frozen? ⟨w.heap.size + 1 + 1 + 1, 0, none⟩ = false := hq3.out wr hGz
              obtain ⟨p9, p0, p1, p2, pf⟩ := hX6.out
              obtain ⟨W3, e3, x0, x1, x2⟩ := three (W := wr) (B := w.heap.size + 1 + 1) (a := .slice none 0 0) (b := .slice none 0 0) (c := .bool false) p0 p1 p2
              have hW3q : W3.cell? ⟨w.heap.size + 1 + 1 + 1, 0, none⟩ = some (.int .i64 0) := by rw [e3, three_cell _ _ (by omega)]; exact qc
              have hW3g : Hid (w1.grownBy W3 (some (w.heap.size + 1 + 1))) := by subst e3; exact grown_trans (grown_trans (grown_trans hGz (grown_set _ _ _ _)) (grown_set _ _ _ _)) (grown_set _ _ _ _)
              have E3 := hid e3
              clear e3
              obtain ⟨W4, e4⟩ : ∃ W4, W4 = W3.setCell ⟨w.heap.size + 1 + 1 + 1, 0, none⟩ (.int .i64 60) := ⟨_, rfl⟩
              have u0 : W4.cell? ⟨w.heap.size + 1 + 1, 0, none⟩ = some (.slice none 0 0) := by subst e4; go_simp
              have u1 : W4.cell? ⟨w.heap.size + 1 + 1, 1, none⟩ = some (.slice none 0 0) := by subst e4; go_simp
              have u2 : W4.cell? ⟨w.heap.size + 1 + 1, 2, none⟩ = some (.bool false) := by subst e4; go_simp
              have u3 : W4.cell? ⟨w.heap.size + 1 + 1 + 1, 0, none⟩ = some (.int .i64 60) := by subst e4; go_simp
              have hz4 : W4.heap.size = wr.heap.size := by rw [e4, E3.out]; simp [World.setCell]
              have hblk : Hid (∀ k, k < W4.heap.size → k ≠ w.heap.size + 1 + 1 → k ≠ w.heap.size + 1 + 1 + 1 → W4.heap[k]? = wr.heap[k]?) := fun k _ h1 h2 => by rw [e4, E3.out]; exact (Below.heap_setCell _ _ _ _ h2).trans (three_heap k h1)
              have hfin : Hid (Below w.heap.size w W4) := by subst e4; exact (((Kp.fin HB.out HK1.out).trans (grown_below hW3g.out (n := w.heap.size) (by omega) (fun n hn => by simp at hn; omega)))).setCell (by show w.heap.size ≤ w.heap.size + 1 + 1 + 1; omega) _
              have E4 := hid e4
              clear e4 hW3q x0 x1 x2
              go_wp2_with fail
              rw [← E3.out, ← E4.out]
              refine door_ret _ _ _ w W4 R (.slice none 0 0) (.slice none 0 0) (.bool false) (.int .i64 60) rfl rfl (by omega) (by omega) u0 u1 u2 u3 (fun W' hW' => ?_)
              rw [hR.out]
              exact UnpPost.zero (hfin.out.trans (hW'.mono (by omega)))
            cases r with
            | cons y ys =>
              have hR : Hid (R = ((false, [], []), 60)) := hu1.out (by first | rfl | trivial) (unpL_left hT.out (by simp))
              have hlf := hid (left_any w1.heap.size (y :: ys) wr hS6.out)
              have hl0 : (0 : Int) < ((y :: ys).length : Int) := by simp
              generalize (y :: ys).length = ln at *
              have hGz := hG6.out
              have hqz := hGz.block (w.heap.size + 1 + 1 + 1) (by omega) (by simp)
              have qc : wr.cell? ⟨w.heap.size + 1 + 1 + 1, 0, none⟩ = some (.int .i64 0) := (World.cell?_of_block (w := w1) (a := ⟨_, 0, none⟩) hqz).trans ((HK1.out.2 _ _ z3).trans r3)
              have qf : wr.frozen? ⟨w.heap.size + 1 + 1 + 1, 0, none⟩ = false := hq3.out wr hGz
              obtain ⟨p9, p0, p1, p2, pf⟩ := hX6.out
              obtain ⟨W3, e3, x0, x1, x2⟩ := three (W := wr) (B := w.heap.size + 1 + 1) (a := .slice none 0 0) (b := .slice none 0 0) (c := .bool false) p0 p1 p2
              have hW3q : W3.cell? ⟨w.heap.size + 1 + 1 + 1, 0, none⟩ = some (.int .i64 0) := by rw [e3, three_cell _ _ (by omega)]; exact qc
              have hW3g : Hid (w1.grownBy W3 (some (w.heap.size + 1 + 1))) := by subst e3; exact grown_trans (grown_trans (grown_trans hGz (grown_set _ _ _ _)) (grown_set _ _ _ _)) (grown_set _ _ _ _)
              have E3 := hid e3
              clear e3
              obtain ⟨W4, e4⟩ : ∃ W4, W4 = W3.setCell ⟨w.heap.size + 1 + 1 + 1, 0, none⟩ (.int .i64 60) := ⟨_, rfl⟩
              have u0 : W4.cell? ⟨w.heap.size + 1 + 1, 0, none⟩ = some (.slice none 0 0) := by subst e4; go_simp
              have u1 : W4.cell? ⟨w.heap.size + 1 + 1, 1, none⟩ = some (.slice none 0 0) := by subst e4; go_simp
              have u2 : W4.cell? ⟨w.heap.size + 1 + 1, 2, none⟩ = some (.bool false) := by subst e4; go_simp
              have u3 : W4.cell? ⟨w.heap.size + 1 + 1 + 1, 0, none⟩ = some (.int .i64 60) := by subst e4; go_simp
              have hz4 : W4.heap.size = wr.heap.size := by rw [e4, E3.out]; simp [World.setCell]
              have hblk : Hid (∀ k, k < W4.heap.size → k ≠ w.heap.size + 1 + 1 → k ≠ w.heap.size + 1 + 1 + 1 → W4.heap[k]? = wr.heap[k]?) := fun k _ h1 h2 => by rw [e4, E3.out]; exact (Below.heap_setCell _ _ _ _ h2).trans (three_heap k h1)
              have hfin : Hid (Below w.heap.size w W4) := by subst e4; exact (((Kp.fin HB.out HK1.out).trans (grown_below hW3g.out (n := w.heap.size) (by omega) (fun n hn => by simp at hn; omega)))).setCell (by show w.heap.size ≤ w.heap.size + 1 + 1 + 1; omega) _
              have E4 := hid e4
              clear e4 hW3q x0 x1 x2
              go_wp2_with fail
              refine hlf.out.mono ?_
              rintro e w9 ⟨rfl, rfl⟩
              go_wp2_with fail
              rw [← E3.out, ← E4.out]
              refine door_ret _ _ _ w W4 R (.slice none 0 0) (.slice none 0 0) (.bool false) (.int .i64 60) rfl rfl (by omega) (by omega) u0 u1 u2 u3 (fun W' hW' => ?_)
              rw [hR.out]
              exact UnpPost.zero (hfin.out.trans (hW'.mono (by omega)))
            | nil =>
            have hlf := hid (left_any w1.heap.size [] wr hS6.out)
            obtain ⟨ah, caph, rfl, hthr⟩ := hO6.out.2.in_
            have hml : (L1.take k).length = k := by rw [List.length_take]; omega
            have hsome := unpL_some (vars := k) (n := t.length) (L := (xn : Int) :: L1) (by simp; omega) (by show (xn : Int) ≤ 1; omega) hT.out
            have hsome2 : unpL k t.length ((xn : Int) :: L1) = some (bb, L1.take k, C) := by
              rw [hsome, ← hbb]
              congr 3
              rw [Nat.add_comm]
              rfl
            have hR2 := hid (hu2.out (by first | rfl | trivial) _ _ _ hsome2)
            have HTHR := hid hthr
            have HML := hid hml
            have hfit := hid (fits_any k dom m b ac t.length capc t ah C.length caph C am k capm (L1.take k) bb wr (hths.out wr hG6.out) (hthr.widen fun b hb => hb.2) (hM6.out.widen fun b hb => by show b < _; have := hb.2; have := hO6.out.1; omega) hbf.out)
            have hfit := hid hfit
            have HM6 := hM6
            generalize hmem : L1.take k = mem at *
            generalize fitsL (k : Int) dom t m b C mem = fit at *
            have hcd := hcode.out wr hG6.out
            obtain ⟨n0, n1, n2, n3, n4⟩ := hcd
            obtain ⟨p9, p0, p1, p2, pf⟩ := hX6.out
            clear hsome hsome2 hthr hml pf
            go_wp2_with fail
            refine hlf.out.mono ?_
            rintro e w9 ⟨rfl, rfl⟩
            go_wp2_with fail
            refine hfit.out.mono ?_
            rintro e w9 ⟨rfl, hb9⟩
            have hG9 : Hid (w1.grownBy w9 (some (w.heap.size + 1 + 1))) := grown_new hG6.out (below_grown hb9 none) (fun n hn => by cases hn)
            have hX9 := hid (SBox.block hX6.out hb9.size (hb9.block _ hX6.out.lt))
            have HB9 := hid hb9
            have hz9 := hb9.size
            clear n0 n1 n2 n3 n4 p9 p0 p1 p2 hb9 hfit
            cases fit
            · have hR : Hid (R = ((false, [], []), 60)) := hR2.out
              have hGz := hG9.out
              have hqz := hGz.block (w.heap.size + 1 + 1 + 1) (by omega) (by simp)
              have qc : w9.cell? ⟨w.heap.size + 1 + 1 + 1, 0, none⟩ = some (.int .i64 0) := (World.cell?_of_block (w := w1) (a := ⟨_, 0, none⟩) hqz).trans ((HK1.out.2 _ _ z3).trans r3)
              have qf : w9.frozen? ⟨w.heap.size + 1 + 1 + 1, 0, none⟩ = false := hq3.out w9 hGz
              obtain ⟨p9, p0, p1, p2, pf⟩ := hX9.out
              obtain ⟨W3, e3, x0, x1, x2⟩ := three (W := w9) (B := w.heap.size + 1 + 1) (a := .slice none 0 0) (b := .slice none 0 0) (c := .bool false) p0 p1 p2
              have hW3q : W3.cell? ⟨w.heap.size + 1 + 1 + 1, 0, none⟩ = some (.int .i64 0) := by rw [e3, three_cell _ _ (by omega)]; exact qc
              have hW3g : Hid (w1.grownBy W3 (some (w.heap.size + 1 + 1))) := by subst e3; exact grown_trans (grown_trans (grown_trans hGz (grown_set _ _ _ _)) (grown_set _ _ _ _)) (grown_set _ _ _ _)
              have E3 := hid e3
              clear e3
              obtain ⟨W4, e4⟩ : ∃ W4, W4 = W3.setCell ⟨w.heap.size + 1 + 1 + 1, 0, none⟩ (.int .i64 60) := ⟨_, rfl⟩
              have u0 : W4.cell? ⟨w.heap.size + 1 + 1, 0, none⟩ = some (.slice none 0 0) := by subst e4; go_simp
              have u1 : W4.cell? ⟨w.heap.size + 1 + 1, 1, none⟩ = some (.slice none 0 0) := by subst e4; go_simp
              have u2 : W4.cell? ⟨w.heap.size + 1 + 1, 2, none⟩ = some (.bool false) := by subst e4; go_simp
              have u3 : W4.cell? ⟨w.heap.size + 1 + 1 + 1, 0, none⟩ = some (.int .i64 60) := by subst e4; go_simp
              have hz4 : W4.heap.size = w9.heap.size := by rw [e4, E3.out]; simp [World.setCell]
              have hblk : Hid (∀ k, k < W4.heap.size → k ≠ w.heap.size + 1 + 1 → k ≠ w.heap.size + 1 + 1 + 1 → W4.heap[k]? = w9.heap[k]?) := fun k _ h1 h2 => by rw [e4, E3.out]; exact (Below.heap_setCell _ _ _ _ h2).trans (three_heap k h1)
              have hfin : Hid (Below w.heap.size w W4) := by subst e4; exact (((Kp.fin HB.out HK1.out).trans (grown_below hW3g.out (n := w.heap.size) (by omega) (fun n hn => by simp at hn; omega)))).setCell (by show w.heap.size ≤ w.heap.size + 1 + 1 + 1; omega) _
              have E4 := hid e4
              clear e4 hW3q x0 x1 x2
              go_wp2_with fail
              rw [← E3.out, ← E4.out]
              refine door_ret _ _ _ w W4 R (.slice none 0 0) (.slice none 0 0) (.bool false) (.int .i64 60) rfl rfl (by omega) (by omega) u0 u1 u2 u3 (fun W' hW' => ?_)
              rw [hR.out]
              exact UnpPost.zero (hfin.out.trans (hW'.mono (by omega)))
            · have hR : Hid (R = ((bb, mem, C), 0)) := hR2.out
              have hGz := hG9.out
              have hqz := hGz.block (w.heap.size + 1 + 1 + 1) (by omega) (by simp)
              have qc : w9.cell? ⟨w.heap.size + 1 + 1 + 1, 0, none⟩ = some (.int .i64 0) := (World.cell?_of_block (w := w1) (a := ⟨_, 0, none⟩) hqz).trans ((HK1.out.2 _ _ z3).trans r3)
              have qf : w9.frozen? ⟨w.heap.size + 1 + 1 + 1, 0, none⟩ = false := hq3.out w9 hGz
              obtain ⟨p9, p0, p1, p2, pf⟩ := hX9.out
              obtain ⟨W3, e3, x0, x1, x2⟩ := three (W := w9) (B := w.heap.size + 1 + 1) (a := .slice ah C.length caph) (b := .slice am k capm) (c := .bool bb) p0 p1 p2
              have hW3q : W3.cell? ⟨w.heap.size + 1 + 1 + 1, 0, none⟩ = some (.int .i64 0) := by rw [e3, three_cell _ _ (by omega)]; exact qc
              have hW3g : Hid (w1.grownBy W3 (some (w.heap.size + 1 + 1))) := by subst e3; exact grown_trans (grown_trans (grown_trans hGz (grown_set _ _ _ _)) (grown_set _ _ _ _)) (grown_set _ _ _ _)
              have E3 := hid e3
              clear e3
              obtain ⟨W4, e4⟩ : ∃ W4, W4 = W3.setCell ⟨w.heap.size + 1 + 1 + 1, 0, none⟩ (.int .i64 0) := ⟨_, rfl⟩
              have u0 : W4.cell? ⟨w.heap.size + 1 + 1, 0, none⟩ = some (.slice ah C.length caph) := by subst e4; go_simp
              have u1 : W4.cell? ⟨w.heap.size + 1 + 1, 1, none⟩ = some (.slice am k capm) := by subst e4; go_simp
              have u2 : W4.cell? ⟨w.heap.size + 1 + 1, 2, none⟩ = some (.bool bb) := by subst e4; go_simp
              have u3 : W4.cell? ⟨w.heap.size + 1 + 1 + 1, 0, none⟩ = some (.int .i64 0) := by subst e4; go_simp
              have hz4 : W4.heap.size = w9.heap.size := by rw [e4, E3.out]; simp [World.setCell]
              have hblk : Hid (∀ k, k < W4.heap.size → k ≠ w.heap.size + 1 + 1 → k ≠ w.heap.size + 1 + 1 + 1 → W4.heap[k]? = w9.heap[k]?) := fun k _ h1 h2 => by rw [e4, E3.out]; exact (Below.heap_setCell _ _ _ _ h2).trans (three_heap k h1)
              have hfin : Hid (Below w.heap.size w W4) := by subst e4; exact (((Kp.fin HB.out HK1.out).trans (grown_below hW3g.out (n := w.heap.size) (by omega) (fun n hn => by simp at hn; omega)))).setCell (by show w.heap.size ≤ w.heap.size + 1 + 1 + 1; omega) _
              have E4 := hid e4
              clear e4 hW3q x0 x1 x2
              go_wp2_with fail
              rw [← E3.out, ← E4.out]
              refine door_ret _ _ _ w W4 R (.slice ah C.length caph) (.slice am k capm) (.bool bb) (.int .i64 0) rfl rfl (by omega) (by omega) u0 u1 u2 u3 (fun W' hW' => ?_)
              rw [hR.out]
              refine ⟨ah, caph, am, capm, ?_, ?_, ?_, hfin.out.trans (hW'.mono (by omega))⟩
              · show _ = Ending.returned (.tuple #[.agg #[.slice ah C.length caph, .slice am mem.length capm, .bool bb], .int .i64 0])
                rw [HML.out]
              · refine (HTHR.out.keep fun n o hn => ?_).widen fun n hn => ?_
                · have h1 : W5.heap.size ≤ n := hn.1
                  have h2 : n < wr.heap.size := hn.2
                  exact ((hW'.cell (p := ⟨n, o, none⟩) (by show n < _; omega)).trans (World.cell?_of_block (w := w9) (a := ⟨n, o, none⟩) (hblk.out n (by omega) (by omega) (by omega)))).trans (HB9.out.cell (p := ⟨n, o, none⟩) h2)
                · have h2 : n < wr.heap.size := hn.2
                  have := hW'.size
                  show n < _
                  omega
              · show IntIn _ _ _ mem.length _ _
                rw [HML.out]
                refine (HM6.out.keep fun n o hn => ?_).widen fun n hn => ?_
                · have h1 : w1.heap.size + 1 ≤ n := hn.1
                  have h2 : n < W5.heap.size := hn.2
                  have h3 := hO6.out.1
                  exact ((hW'.cell (p := ⟨n, o, none⟩) (by show n < _; omega)).trans (World.cell?_of_block (w := w9) (a := ⟨n, o, none⟩) (hblk.out n (by omega) (by omega) (by omega)))).trans (HB9.out.cell (p := ⟨n, o, none⟩) (by show n < _; omega))
                · have h2 : n < W5.heap.size := hn.2
                  have h3 := hO6.out.1
                  have := hW'.size
                  show n < _
                  omega
end Go.Proofs.YtekmcoflagajkaaGreatDoor
