/- PackAny: the walk. -/
import Derived.Test.YtekmcoflagajkaaDoorPkSame
import Derived.Test.YtekmcoflagajkaaDoorPkFew
namespace Go.Proofs.YtekmcoflagajkaaDoor
open Go.RowKit

set_option maxRecDepth 100000 in
set_option maxHeartbeats 16000000 in
theorem packAny_walk (vars dom m b : Int) (ac : Option Addr) (nc capc : Nat) (t : List (List Ins)) (ah : Option Addr) (nh caph : Nat) (th : List Thr) (am : Option Addr) (nm capm : Nat) (mem : List Int) (bad : Bool) (s : ByteArray) (w : World)
    (hc : ThsIn w (In_ w) ac nc capc t) (hh : ThrIn w (In_ w) ah nh caph th) (hm : IntIn w (In_ w) am nm capm mem) (wv : (Lit.int .i64 vars).wf = true)
    (rt : t.length ≤ 140737488355328) (rh : th.length ≤ 140737488355328) (rm : mem.length ≤ 140737488355328)
    (ri : ∀ l ∈ t, l.length ≤ 140737488355328 ∧ ∀ x ∈ l, x.a.kids.length ≤ 140737488355328 ∧ x.b.kids.length ≤ 140737488355328) (rb : ∀ x ∈ th, x.buf.length ≤ 140737488355328) :
    Calls Tryd.prog 3 #[.agg #[.int .i64 vars, .int .i64 dom, .slice ac nc capc], .agg #[.int .i64 m, .int .i64 b], .agg #[.slice ah nh caph, .slice am nm capm, .bool bad], .string s] w
      fun e w' => e = .returned (.bool true) ∧ Below w.heap.size w w' := by
  obtain ⟨W0, hW⟩ : ∃ W0, W0 = ((w.alloc (.cells #[.int .i64 vars, .int .i64 dom, .slice ac nc capc] 24)).alloc (.cells #[.int .i64 m, .int .i64 b] 26)).alloc (.cells #[.slice ah nh caph, .slice am nm capm, .bool bad] 30) := ⟨_, rfl⟩
  have hB : Below w.heap.size w W0 := by subst hW; exact (((Below.refl _ _).alloc (Nat.le_refl _) _).alloc (by simp) _).alloc (by simp; omega) _
  have z2 : w.heap.size + 1 + 1 < W0.heap.size := by subst hW; simp
  have z1 : w.heap.size + 1 < W0.heap.size := by omega
  have z0 : w.heap.size < W0.heap.size := by omega
  have c0 : W0.cell? ⟨w.heap.size, 0, none⟩ = some (.int .i64 vars) := by subst hW; go_simp
  have c1 : W0.cell? ⟨w.heap.size, 1, none⟩ = some (.int .i64 dom) := by subst hW; go_simp
  have c2 : W0.cell? ⟨w.heap.size, 2, none⟩ = some (.slice ac nc capc) := by subst hW; go_simp
  have m0 : W0.cell? ⟨w.heap.size + 1, 0, none⟩ = some (.int .i64 m) := by subst hW; go_simp
  have m1 : W0.cell? ⟨w.heap.size + 1, 1, none⟩ = some (.int .i64 b) := by subst hW; go_simp
  have s0 : W0.cell? ⟨w.heap.size + 1 + 1, 0, none⟩ = some (.slice ah nh caph) := by subst hW; go_simp
  have s1 : W0.cell? ⟨w.heap.size + 1 + 1, 1, none⟩ = some (.slice am nm capm) := by subst hW; go_simp
  have s2 : W0.cell? ⟨w.heap.size + 1 + 1, 2, none⟩ = some (.bool bad) := by subst hW; go_simp
  have hfew : Hid (∀ W, Kp W0 W → Calls Tryd.prog 5 #[.agg #[.int .i64 vars, .int .i64 dom, .slice ac nc capc], .agg #[.slice ah nh caph, .slice am nm capm, .bool bad]] W (FewPost W t th mem)) := fun W hK =>
    few_any vars dom ac nc capc t ah nh caph th am nm capm mem bad W (hK.ths ((Kp.of hB).ths hc)) (hK.thr ((Kp.of hB).thr hh)) (hK.ints ((Kp.of hB).ints hm)) rt rh rm ri rb
  have hsame : Hid (∀ W, Kp W0 W → (∀ x ∈ th, x.buf.length ≤ 1000) → th.length ≤ 1000 → mem.length ≤ 1000 → s.size ≤ 100000 → Calls Tryd.prog 6 #[.agg #[.int .i64 vars, .int .i64 dom, .slice ac nc capc], .agg #[.int .i64 m, .int .i64 b], .agg #[.slice ah nh caph, .slice am nm capm, .bool bad], .string s] W
      fun e w' => e = .returned (.bool true) ∧ Below W.heap.size W w') := fun W hK h1 h2 h3 h4 =>
    same_any vars dom m b ac nc capc t ah nh caph th am nm capm mem bad s W (hK.ths ((Kp.of hB).ths hc)) (hK.thr ((Kp.of hB).thr hh)) (hK.ints ((Kp.of hB).ints hm)) h1 h2 h3 h4 wv
  have HB := hid hB
  have hWx := hid hW
  have hz0 := hB.size
  clear hW hB hc hh hm wv rt rh rm ri rb
  go_enter Tryd.func3, Tryd.ntmps3
  go_wp2_with fail
  rw [← hWx.out]
  go_wp2_with fail
  refine (awake_any _).mono ?_
  rintro e w1 ⟨rfl, hb1⟩
  have hk1 : Kp W0 w1 := Kp.of hb1
  have HK1 := hid hk1
  clear hb1
  go_wp2_with fail
  refine (hfew.out _ HK1.out).mono ?_
  rintro e w2 ⟨bf, rfl, hb2, hf⟩
  have hk2 := HK1.out.next hb2
  have HK2 := hid hk2
  have HF := hid hf
  clear hb2 hk1 hfew hf
  cases bf
  case false =>
    have hF := hid (Kp.fin HB.out HK2.out)
    go_wp2_with fail
    go_ret
    exact ⟨rfl, hF.out⟩
  case true =>
    by_cases hs : (600 : Int) < s.size
    · have hF := hid (Kp.fin HB.out HK2.out)
      go_wp2_with fail
      go_ret
      exact ⟨rfl, hF.out⟩
    · obtain ⟨-, f1, f2, f3⟩ := HF.out rfl
      have hsm := hid (hsame.out w2 HK2.out (fun x hx => by have := f3 x hx; omega) (by omega) (by omega) (by omega))
      clear f1 f2 f3 hsame HF
      go_wp2_with fail
      refine hsm.out.mono ?_
      rintro e w3 ⟨rfl, hb3⟩
      have hF := hid (Kp.fin HB.out (HK2.out.next hb3))
      clear hb3
      go_wp2_with fail
      go_ret
      exact ⟨rfl, hF.out⟩
end Go.Proofs.YtekmcoflagajkaaDoor
