/- The maker's statements, at every depth. -/
import Derived.Test.YtphlbbnmligadaaGreatDoorMkSa
import Derived.Test.YtphlbbnmligadaaGreatDoorMkSb
import Derived.Test.YtphlbbnmligadaaGreatDoorMkSc
import Derived.Test.YtphlbbnmligadaaGreatDoorMkSd
import Derived.Test.YtphlbbnmligadaaGreatDoorMdP
namespace Go.Proofs.YtphlbbnmligadaaGreatDoor
open Go.RowKit

theorem stmt_step (B m : Nat) (vars dom : Int) (hvars : 1 ≤ vars) (hvars2 : vars ≤ 1000) (hdom : 1 ≤ dom) (hdom2 : dom ≤ 9223372036854775807) (ka : Option Addr) (kn kc d : Nat) (hd9 : d ≤ 1000) (ih : ∀ d1, d = d1 + 1 → StmtsAt B m vars dom ka kn kc d1) : StmtAt B m vars dom ka kn kc d := by
  intro di t w hdi hM hKd ht
  have hKd0 := hKd
  obtain ⟨hkn1, hkn, hkc, b, off, rfl, hb, hc⟩ := hKd
  obtain ⟨K, k1, k2, hK⟩ := KindIs.ex hM hkn1 hc
  by_cases h10 : 10 ≤ K
  · cases d with
    | zero => exact stmt_k0 B m vars dom b off kn kc K h10 di t w hdi hM hKd0 hK ht
    | succ d1 =>
      have hS := ih d1 rfl
      have hcase : K = 10 ∨ K = 11 := by omega
      rcases hcase with rfl | rfl
      · exact stmt_k10 B m vars dom hdom hdom2 b off kn kc d1 (by omega) hS di t w hdi hM hKd0 hK ht
      · exact stmt_k11 B m vars dom hdom hdom2 b off kn kc d1 (by omega) hS di t w hdi hM hKd0 hK ht
  · have hcase : K = 1 ∨ K = 2 ∨ K = 3 ∨ K = 4 ∨ K = 5 ∨ K = 6 ∨ K = 7 ∨ K = 8 ∨ K = 9 := by omega
    rcases hcase with rfl | rfl | rfl | rfl | rfl | rfl | rfl | rfl | rfl
    · exact stmt_k1 B m vars dom hvars hvars2 b off kn kc d hd9 di t w hdi hM hKd0 hK ht
    · exact stmt_k2 B m vars dom hvars hvars2 hdom hdom2 b off kn kc d hd9 di t w hdi hM hKd0 hK ht
    · exact stmt_k3 B m vars dom hdom hdom2 b off kn kc d hd9 di t w hdi hM hKd0 hK ht
    · exact stmt_k4 B m vars dom b off kn kc d hd9 di t w hdi hM hKd0 hK ht
    · exact stmt_k5 B m vars dom b off kn kc d hd9 di t w hdi hM hKd0 hK ht
    · exact stmt_k6 B m vars dom hvars hvars2 hdom hdom2 b off kn kc d hd9 di t w hdi hM hKd0 hK ht
    · exact stmt_k7 B m vars dom hvars hvars2 b off kn kc d hd9 di t w hdi hM hKd0 hK ht
    · exact stmt_k8 B m vars dom hvars hvars2 b off kn kc d hd9 di t w hdi hM hKd0 hK ht
    · exact stmt_k9 B m vars dom hdom hdom2 b off kn kc d hd9 di t w hdi hM hKd0 hK ht
/-- .. and so many. -/
theorem stmts_all (B m : Nat) (vars dom : Int) (hvars : 1 ≤ vars) (hvars2 : vars ≤ 1000) (hdom : 1 ≤ dom) (hdom2 : dom ≤ 9223372036854775807) (ka : Option Addr) (kn kc : Nat) : ∀ d, d ≤ 1000 → StmtsAt B m vars dom ka kn kc d := by
  intro d
  induction d with
  | zero => exact fun _ => stmts_of (stmt_step B m vars dom hvars hvars2 hdom hdom2 ka kn kc 0 (by omega) fun d1 e => by omega)
  | succ d ih =>
    intro hd
    refine stmts_of (stmt_step B m vars dom hvars hvars2 hdom hdom2 ka kn kc (d + 1) hd fun d1 e => ?_)
    obtain rfl : d = d1 := by omega
    exact ih (by omega)
end Go.Proofs.YtphlbbnmligadaaGreatDoor
namespace Go.Proofs.YtphlbbnmligadaaGreatDoor
open Go.RowKit

set_option maxRecDepth 100000 in
theorem kinds_any (w : World) : Calls Tryz.prog 11 #[] w fun e w' => e = .returned (.slice (some ⟨w.heap.size, 0, none⟩) 13 13) ∧ KdIn w' w'.heap.size (some ⟨w.heap.size, 0, none⟩) 13 13 ∧ Below w.heap.size w w' := by
  go_enter Tryz.func11, Tryz.ntmps11
  go_wp2_with fail
  go_ret
  refine ⟨rfl, ⟨by decide, by decide, by decide, w.heap.size, 0, rfl, by simp, fun i hi => ?_⟩, (Below.refl _ _).alloc (Nat.le_refl _) _⟩
  have hc := World.cell?_alloc_new w #[.int .i64 1, .int .i64 2, .int .i64 1, .int .i64 2, .int .i64 3, .int .i64 4, .int .i64 5, .int .i64 6, .int .i64 7, .int .i64 8, .int .i64 9, .int .i64 10, .int .i64 11] 3 i
  rw [Nat.zero_add, hc]
  have hi2 : i = 0 ∨ i = 1 ∨ i = 2 ∨ i = 3 ∨ i = 4 ∨ i = 5 ∨ i = 6 ∨ i = 7 ∨ i = 8 ∨ i = 9 ∨ i = 10 ∨ i = 11 ∨ i = 12 := by omega
  rcases hi2 with rfl | rfl | rfl | rfl | rfl | rfl | rfl | rfl | rfl | rfl | rfl | rfl | rfl <;> exact ⟨_, by decide, by decide, rfl⟩

theorem madeP_any (w : World) (la : Option Addr) (ln lc : Nat) (ka : Option Addr) (kn kc : Nat) (hl : U8s w (In_ w) la ln lc) (hK : KdIn w w.heap.size ka kn kc) :
    Calls Tryz.prog 10 #[.slice la ln lc, .slice ka kn kc] w (MadeP w) :=
  madeP_of w la ln lc ka kn kc hl hK fun vars dom h1 h2 h3 h4 => stmts_all _ _ vars dom h1 h2 h3 h4 ka kn kc 2 (by omega)

theorem nms_all {q : Nat} (h1 : 1 ≤ q) (h3 : q ≤ 3) : ((nms q).all nameB && decide (nms q).Nodup) = true := by
  have hq : q = 1 ∨ q = 2 ∨ q = 3 := by omega
  rcases hq with rfl | rfl | rfl <;> decide +kernel
theorem cntT_small : ∀ (T : List (List St)), (∀ L ∈ T, cntL L ≤ 52) → cntT T ≤ 52 * T.length
  | [], _ => by simp [cntT]
  | L :: T, h => by
    have h1 := cntT_small T fun y hy => h y (by simp [hy])
    have h2 := h L (by simp)
    unfold cntT at h1 ⊢
    simp only [List.map_cons, List.sum_cons, List.length_cons]
    omega
/-- A program by numbers may be. -/
theorem MadeP.right {w w' : World} {e : Ending} (h : MadeP w e w') :
    ∃ (p : Pg) (cs : List Value), e = .returned (.agg cs.toArray) ∧ PgX w w' cs p ∧ rightP p = true ∧ p.vars.length ≤ 3 ∧ p.ths.length ≤ 3 ∧ 1 ≤ p.ths.length ∧ Below w.heap.size w w' := by
  obtain ⟨p, q, cs, rfl, hp, hq1, hq3, hv, hd2, hd4, ht1, ht3, hok, hb⟩ := h
  obtain ⟨hql, -⟩ := nms_at hq1 hq3
  refine ⟨p, cs, rfl, hp, ?_, by rw [hv, hql]; exact hq3, ht3, ht1, hb⟩
  have hn := nms_all hq1 hq3
  simp only [Bool.and_eq_true] at hn
  have hc := cntT_small p.ths fun L hL => (hok L hL).2.1
  unfold rightP sumT okT
  rw [hv, hql]
  simp only [Bool.and_eq_true, decide_eq_true_eq, List.all_eq_true] at hn ⊢
  exact ⟨⟨⟨⟨⟨⟨⟨⟨hq1, by omega⟩, hn.1⟩, hn.2⟩, hd2⟩, by omega⟩, ht1⟩, by omega⟩, fun L hL => (hok L hL).1, by omega⟩
end Go.Proofs.YtphlbbnmligadaaGreatDoor
