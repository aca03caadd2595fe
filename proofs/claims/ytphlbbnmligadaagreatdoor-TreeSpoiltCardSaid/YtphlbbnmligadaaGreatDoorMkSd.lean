/- The maker's stmt, kind by kind: what it makes may be. -/
import Derived.Test.YtphlbbnmligadaaGreatDoorBunK
import Derived.Deep.CutRange
namespace Go.Proofs.YtphlbbnmligadaaGreatDoor
open Go.RowKit

set_option maxRecDepth 100000 in
set_option maxHeartbeats 8000000 in
theorem stmt_k10 (B m : Nat) (vars dom : Int) (hdom : 1 ≤ dom) (hdom2 : dom ≤ 9223372036854775807) (b off kn kc d1 : Nat) (hd9 : d1 ≤ 1000) (hS : StmtsAt B m vars dom (some ⟨b, off, none⟩) kn kc d1) : StmtK B m vars dom b off kn kc (d1 + 1) 10 := by
  intro di t w hdi hM hKd hKi ht
  have hmlt := hM.lt
  have hB := hM.1
  have h60 : 60 ≤ tB (d1 + 1) := by simp [tB]
  have hc1 : 1 ≤ cB (d1 + 1) := by simp [cB]
  have hd0 : 0 ≤ di := by omega
  have HKd := hid hKd
  have HM0 := hid hM
  obtain ⟨hkn1, hkn, hkc, b', off', eb, hb, -⟩ := hKd
  simp only [Option.some.injEq, Addr.mk.injEq, and_true] at eb
  obtain ⟨rfl, rfl⟩ := eb
  unfold maxLen at hkc
  have HKi := hid hKi
  clear hKi
  go_enter Tryz.func50, Tryz.ntmps50
  go_wp2_with fail
  refine (pick_is B m t kn _ (hM.alloc _) (by omega) (by omega)).mono ?_
  rintro e w1 ⟨q, rfl, hpq, hM1, hg1⟩
  obtain ⟨hq0, hq1⟩ := hpq.range (hM.alloc _) (by omega)
  have hck := HKi.out _ _ hpq
  have hR : w1.heap[w.heap.size]? = some (.cells z13 56 (0, 0)) := (hg1.block w.heap.size (by simp) (by simp; omega)).trans (heap_alloc_new w _)
  have hg : w.grownBy w1 (some m) := grownBy_trans (World.grownBy_alloc w _ _) hg1
  have hz : w.heap.size < w1.heap.size := (Array.getElem?_eq_some_iff.1 hR).1
  clear hpq HKi
  obtain ⟨n, rfl⟩ : ∃ n : Nat, q = n := ⟨q.toNat, by omega⟩
  rw [Int.toNat_natCast] at hck
  have hck : w1.cell? ⟨b, off + n, none⟩ = some (.int .i64 10) := (grownBy_cell hg (by omega) (by omega)).trans hck
  have hbw : b < w1.heap.size := by omega
  have hb0 := Bld.start (k := 10) hmlt hR hM1 hg
  have hnz : ¬ w1.heap.size = w.heap.size := by omega
  have hnz2 : ¬ w.heap.size = w1.heap.size := by omega
  clear hg1 hM1 hM hg hR
  have HS := hid hS
  have hdd : di - 1 = (d1 : Int) := by omega
  have htB : tB (d1 + 1) = 60 + 3 * tB d1 := rfl
  have hcB : cB (d1 + 1) = 1 + 3 * cB d1 := rfl
  have hwd : IntKind.i64.wrap (di - 1) = di - 1 := IntWalk.i64_in _ (by omega)
  have hdi1 : 1 ≤ di := by omega
  clear hS
  go_wp2_with fail
  refine (made_any B m dom hdom hdom2 1 1 (t + 1) _ rfl (hb0).mkr (by omega)).mono ?_
  rintro e w2 ⟨a0, a1, a2, a3, xa, ta, rfl, hxa, hfa, hM2, hta, hg2⟩
  obtain ⟨ka, na, oa, la⟩ := xa
  obtain ⟨pa, ca, hea, -⟩ := hxa.open_
  simp only [List.cons.injEq, and_true] at hea
  obtain ⟨rfl, rfl, rfl, rfl⟩ := hea
  have hl2 := (hb0).xlt
  have hx2 := hxa.widen (S' := XS w1.heap.size w2) fun b hb => ⟨Nat.lt_of_lt_of_le hl2 hb.1, hb.2⟩
  have hb2 := (hb0).call hM2 hg2
  have hsa := fit2_sh hfa
  have hfa := fit_mono dom (.mk ka na oa la) (m := 20) (by omega) hfa
  have hta : ta ≤ (t + 1) + 16 := hta
  clear hM2 hg2 hxa hl2
  have HX := hb2.hX
  have x0 := cell_of_heap (j := 0) HX
  have x1 := cell_of_heap (j := 1) HX
  have x2 := cell_of_heap (j := 2) HX
  have x3 := cell_of_heap (j := 3) HX
  have x4 := cell_of_heap (j := 4) HX
  have x5 := cell_of_heap (j := 5) HX
  have x6 := cell_of_heap (j := 6) HX
  have x7 := cell_of_heap (j := 7) HX
  have x8 := cell_of_heap (j := 8) HX
  have x9 := cell_of_heap (j := 9) HX
  have x10 := cell_of_heap (j := 10) HX
  have x11 := cell_of_heap (j := 11) HX
  have x12 := cell_of_heap (j := 12) HX
  simp at x0 x1 x2 x3 x4 x5 x6 x7 x8 x9 x10 x11 x12
  clear HX
  have zX := hb2.free
  have lX := hb2.xlt
  go_wp2_with fail
  refine (pick_any B m (ta) 2 _ ((hb2.putA hx2)).mkr (by omega) (by omega)).mono ?_
  rintro e w3 ⟨tq, rfl, tq0, tq1, hM3, hg3⟩
  obtain ⟨tn, rfl⟩ : ∃ n : Nat, tq = n := ⟨tq.toNat, by omega⟩
  have hb3 := ((hb2.putA hx2)).call hM3 hg3
  clear hM3 hg3 x0 x1 x2 x3 x4 x5 x6 x7 x8 x9 x10 x11 x12 zX lX
  have HX := hb3.hX
  have x0 := cell_of_heap (j := 0) HX
  have x1 := cell_of_heap (j := 1) HX
  have x2 := cell_of_heap (j := 2) HX
  have x3 := cell_of_heap (j := 3) HX
  have x4 := cell_of_heap (j := 4) HX
  have x5 := cell_of_heap (j := 5) HX
  have x6 := cell_of_heap (j := 6) HX
  have x7 := cell_of_heap (j := 7) HX
  have x8 := cell_of_heap (j := 8) HX
  have x9 := cell_of_heap (j := 9) HX
  have x10 := cell_of_heap (j := 10) HX
  have x11 := cell_of_heap (j := 11) HX
  have x12 := cell_of_heap (j := 12) HX
  simp at x0 x1 x2 x3 x4 x5 x6 x7 x8 x9 x10 x11 x12
  clear HX
  have zX := hb3.free
  have lX := hb3.xlt
  obtain ⟨cn, hcn⟩ : ∃ cn : Nat, cn = 1 + tn := ⟨_, rfl⟩
  have hw3 : IntKind.i64.wrap (1 + (tn : Int)) = (cn : Int) := (IntWalk.i64_in _ (by omega)).trans (by omega)
  have hpt : cn * tB d1 ≤ 2 * tB d1 := Nat.mul_le_mul_right _ (by omega)
  have hpct : cn * cB d1 ≤ 2 * cB d1 := Nat.mul_le_mul_right _ (by omega)
  go_wp2_with fail
  have HC := HS.out (d1 : Int) cn (ta + 1) _ rfl (by omega) hb3.mkr (HKd.out.grown HM0.out hb3.gr) (by omega)
  rw [show ((cn : Nat) : Int) = 1 + (tn : Int) by omega] at HC
  with_reducible refine HC.mono ?_
  clear HC
  clear x0 x1 x2 x3 x4 x5 x6 x7 x8 x9 x10 x11 x12 zX lX
  rintro e w4 ⟨qt, st, Lt, tt, rfl, hLt, hnt, hokt, hct, hM4, htt, hg4⟩
  rw [Bool.and_eq_true] at hokt
  obtain ⟨hokt, hsht⟩ := hokt
  clear hnt hcn hw3
  have hL4 := hb3.rowT hg4 hLt
  have hb4 := hb3.call hM4 hg4
  clear hM4 hg4 hLt
  have HX := hb4.hX
  have x0 := cell_of_heap (j := 0) HX
  have x1 := cell_of_heap (j := 1) HX
  have x2 := cell_of_heap (j := 2) HX
  have x3 := cell_of_heap (j := 3) HX
  have x4 := cell_of_heap (j := 4) HX
  have x5 := cell_of_heap (j := 5) HX
  have x6 := cell_of_heap (j := 6) HX
  have x7 := cell_of_heap (j := 7) HX
  have x8 := cell_of_heap (j := 8) HX
  have x9 := cell_of_heap (j := 9) HX
  have x10 := cell_of_heap (j := 10) HX
  have x11 := cell_of_heap (j := 11) HX
  have x12 := cell_of_heap (j := 12) HX
  simp at x0 x1 x2 x3 x4 x5 x6 x7 x8 x9 x10 x11 x12
  clear HX
  have zX := hb4.free
  have lX := hb4.xlt
  go_wp2_with fail
  refine (pick_any B m (tt) 2 _ ((hb4.putT hL4)).mkr (by omega) (by omega)).mono ?_
  rintro e w5 ⟨eq, rfl, eq0, eq1, hM5, hg5⟩
  obtain ⟨en, rfl⟩ : ∃ n : Nat, eq = n := ⟨eq.toNat, by omega⟩
  have hb5 := ((hb4.putT hL4)).call hM5 hg5
  clear hM5 hg5 x0 x1 x2 x3 x4 x5 x6 x7 x8 x9 x10 x11 x12 zX lX
  have HX := hb5.hX
  have x0 := cell_of_heap (j := 0) HX
  have x1 := cell_of_heap (j := 1) HX
  have x2 := cell_of_heap (j := 2) HX
  have x3 := cell_of_heap (j := 3) HX
  have x4 := cell_of_heap (j := 4) HX
  have x5 := cell_of_heap (j := 5) HX
  have x6 := cell_of_heap (j := 6) HX
  have x7 := cell_of_heap (j := 7) HX
  have x8 := cell_of_heap (j := 8) HX
  have x9 := cell_of_heap (j := 9) HX
  have x10 := cell_of_heap (j := 10) HX
  have x11 := cell_of_heap (j := 11) HX
  have x12 := cell_of_heap (j := 12) HX
  simp at x0 x1 x2 x3 x4 x5 x6 x7 x8 x9 x10 x11 x12
  clear HX
  have zX := hb5.free
  have lX := hb5.xlt
  have hpe : en * tB d1 ≤ 1 * tB d1 := Nat.mul_le_mul_right _ (by omega)
  have hpce : en * cB d1 ≤ 1 * cB d1 := Nat.mul_le_mul_right _ (by omega)
  go_wp2_with fail
  have HC := HS.out (d1 : Int) en (tt + 1) _ rfl (by omega) hb5.mkr (HKd.out.grown HM0.out hb5.gr) (by omega)
  with_reducible refine HC.mono ?_
  clear HC
  clear x0 x1 x2 x3 x4 x5 x6 x7 x8 x9 x10 x11 x12 zX lX
  rintro e w6 ⟨qe, se, Le, te, rfl, hLe, hne, hoke, hce, hM6, hte, hg6⟩
  rw [Bool.and_eq_true] at hoke
  obtain ⟨hoke, hshe⟩ := hoke
  clear hne
  have hL6 := hb5.rowE hg6 hLe
  have hb6 := hb5.call hM6 hg6
  clear hM6 hg6 hLe
  have HX := hb6.hX
  have x0 := cell_of_heap (j := 0) HX
  have x1 := cell_of_heap (j := 1) HX
  have x2 := cell_of_heap (j := 2) HX
  have x3 := cell_of_heap (j := 3) HX
  have x4 := cell_of_heap (j := 4) HX
  have x5 := cell_of_heap (j := 5) HX
  have x6 := cell_of_heap (j := 6) HX
  have x7 := cell_of_heap (j := 7) HX
  have x8 := cell_of_heap (j := 8) HX
  have x9 := cell_of_heap (j := 9) HX
  have x10 := cell_of_heap (j := 10) HX
  have x11 := cell_of_heap (j := 11) HX
  have x12 := cell_of_heap (j := 12) HX
  simp at x0 x1 x2 x3 x4 x5 x6 x7 x8 x9 x10 x11 x12
  clear HX
  have zX := hb6.free
  have lX := hb6.xlt
  have hbF := (hb6.putE hL6)
  have hok : (okS vars dom ((d1 + 1) + 1) (.mk 10 0 0 (.mk ka na oa la) exZ Lt Le) && shS (.mk 10 0 0 (.mk ka na oa la) exZ Lt Le)) = true := by
    rw [Bool.and_eq_true]
    constructor
    · have hnil : okL vars dom (d1 + 1) [] = true := rfl
      rw [okS_succ, okF_mk]
      simp [partL, numL, oneL, h0, h1, h2, h3, h4, h5, Ex.none, exZ, hfa, hokt, hoke]
    · rw [shS_mk]
      simp [show exZ.sh = true from rfl, hsa, hsht, hshe]
  have HF := hid hbF
  clear hbF
  go_upto_region 30 with fail
  clear x0 x1 x2 x3 x4 x5 x6 x7 x8 x9 x10 x11 x12 zX lX
  have hbF := HF.out
  clear HF
  generalize hWF : World.setCell _ ⟨w1.heap.size, 12, none⟩ _ = WF at hbF ⊢
  have fin := hid (hbF.post (d := (d1 + 1)) (t0 := t) (by decide) (by decide) (by decide) hok (by have hcn0 : cntL [] = 0 := rfl; first | omega | (simp [cntL]; omega) | simp [cntL]) (by omega))
  have hXX := hbF.hX
  have hRR := hbF.hR
  have x0 := cell_of_heap (j := 0) hXX
  have x1 := cell_of_heap (j := 1) hXX
  have x2 := cell_of_heap (j := 2) hXX
  have x3 := cell_of_heap (j := 3) hXX
  have x4 := cell_of_heap (j := 4) hXX
  have x5 := cell_of_heap (j := 5) hXX
  have x6 := cell_of_heap (j := 6) hXX
  have x7 := cell_of_heap (j := 7) hXX
  have x8 := cell_of_heap (j := 8) hXX
  have x9 := cell_of_heap (j := 9) hXX
  have x10 := cell_of_heap (j := 10) hXX
  have x11 := cell_of_heap (j := 11) hXX
  have x12 := cell_of_heap (j := 12) hXX
  have r0 := cell_of_heap (j := 0) hRR
  have r1 := cell_of_heap (j := 1) hRR
  have r2 := cell_of_heap (j := 2) hRR
  have r3 := cell_of_heap (j := 3) hRR
  have r4 := cell_of_heap (j := 4) hRR
  have r5 := cell_of_heap (j := 5) hRR
  have r6 := cell_of_heap (j := 6) hRR
  have r7 := cell_of_heap (j := 7) hRR
  have r8 := cell_of_heap (j := 8) hRR
  have r9 := cell_of_heap (j := 9) hRR
  have r10 := cell_of_heap (j := 10) hRR
  have r11 := cell_of_heap (j := 11) hRR
  have r12 := cell_of_heap (j := 12) hRR
  have zR : ∀ j, _ = false := fun j => unfrozen (j := j) hRR
  have lR := (Array.getElem?_eq_some_iff.1 hRR).1
  have lX := hbF.xlt
  have hR5 := set13_at hbF.hR (.int .i64 10) (.int .i64 0) (.int .i64 0) (.int .i64 ka) (.int .i64 na) (.int .u8 oa) (.slice pa la.length ca) (.int .i64 0) (.int .i64 0) (.int .u8 0) (.slice none 0 0) (.slice qt Lt.length st) (.slice qe Le.length se)
  have g0 := hid (cell_of_heap (j := 0) hR5)
  have g1 := hid (cell_of_heap (j := 1) hR5)
  have g2 := hid (cell_of_heap (j := 2) hR5)
  have g3 := hid (cell_of_heap (j := 3) hR5)
  have g4 := hid (cell_of_heap (j := 4) hR5)
  have g5 := hid (cell_of_heap (j := 5) hR5)
  have g6 := hid (cell_of_heap (j := 6) hR5)
  have g7 := hid (cell_of_heap (j := 7) hR5)
  have g8 := hid (cell_of_heap (j := 8) hR5)
  have g9 := hid (cell_of_heap (j := 9) hR5)
  have g10 := hid (cell_of_heap (j := 10) hR5)
  have g11 := hid (cell_of_heap (j := 11) hR5)
  have g12 := hid (cell_of_heap (j := 12) hR5)
  simp only [z13] at r0 r1 r2 r3 r4 r5 r6 r7 r8 r9 r10 r11 r12
  simp at x0 x1 x2 x3 x4 x5 x6 x7 x8 x9 x10 x11 x12 r0 r1 r2 r3 r4 r5 r6 r7 r8 r9 r10 r11 r12
  clear hXX hRR hR5 hbF hok hWF
  go_wp2_with fail
  refine bodyPost_ret (v := .agg #[.int .i64 10, .int .i64 0, .int .i64 0, .int .i64 ka, .int .i64 na, .int .u8 oa, .slice pa la.length ca, .int .i64 0, .int .i64 0, .int .u8 0, .slice none 0 0, .slice qt Lt.length st, .slice qe Le.length se]) ?_ rfl fin.out
  have g0 := g0.out
  have g1 := g1.out
  have g2 := g2.out
  have g3 := g3.out
  have g4 := g4.out
  have g5 := g5.out
  have g6 := g6.out
  have g7 := g7.out
  have g8 := g8.out
  have g9 := g9.out
  have g10 := g10.out
  have g11 := g11.out
  have g12 := g12.out
  unfold set13 at g0 g1 g2 g3 g4 g5 g6 g7 g8 g9 g10 g11 g12
  simp [results, Tryz.results50, go_sem, g0, g1, g2, g3, g4, g5, g6, g7, g8, g9, g10, g11, g12]

set_option maxRecDepth 100000 in
set_option maxHeartbeats 8000000 in
theorem stmt_k11 (B m : Nat) (vars dom : Int) (hdom : 1 ≤ dom) (hdom2 : dom ≤ 9223372036854775807) (b off kn kc d1 : Nat) (hd9 : d1 ≤ 1000) (hS : StmtsAt B m vars dom (some ⟨b, off, none⟩) kn kc d1) : StmtK B m vars dom b off kn kc (d1 + 1) 11 := by
  intro di t w hdi hM hKd hKi ht
  have hmlt := hM.lt
  have hB := hM.1
  have h60 : 60 ≤ tB (d1 + 1) := by simp [tB]
  have hc1 : 1 ≤ cB (d1 + 1) := by simp [cB]
  have hd0 : 0 ≤ di := by omega
  have HKd := hid hKd
  have HM0 := hid hM
  obtain ⟨hkn1, hkn, hkc, b', off', eb, hb, -⟩ := hKd
  simp only [Option.some.injEq, Addr.mk.injEq, and_true] at eb
  obtain ⟨rfl, rfl⟩ := eb
  unfold maxLen at hkc
  have HKi := hid hKi
  clear hKi
  go_enter Tryz.func50, Tryz.ntmps50
  go_wp2_with fail
  refine (pick_is B m t kn _ (hM.alloc _) (by omega) (by omega)).mono ?_
  rintro e w1 ⟨q, rfl, hpq, hM1, hg1⟩
  obtain ⟨hq0, hq1⟩ := hpq.range (hM.alloc _) (by omega)
  have hck := HKi.out _ _ hpq
  have hR : w1.heap[w.heap.size]? = some (.cells z13 56 (0, 0)) := (hg1.block w.heap.size (by simp) (by simp; omega)).trans (heap_alloc_new w _)
  have hg : w.grownBy w1 (some m) := grownBy_trans (World.grownBy_alloc w _ _) hg1
  have hz : w.heap.size < w1.heap.size := (Array.getElem?_eq_some_iff.1 hR).1
  clear hpq HKi
  obtain ⟨n, rfl⟩ : ∃ n : Nat, q = n := ⟨q.toNat, by omega⟩
  rw [Int.toNat_natCast] at hck
  have hck : w1.cell? ⟨b, off + n, none⟩ = some (.int .i64 11) := (grownBy_cell hg (by omega) (by omega)).trans hck
  have hbw : b < w1.heap.size := by omega
  have hb0 := Bld.start (k := 11) hmlt hR hM1 hg
  have hnz : ¬ w1.heap.size = w.heap.size := by omega
  have hnz2 : ¬ w.heap.size = w1.heap.size := by omega
  clear hg1 hM1 hM hg hR
  have HS := hid hS
  have hdd : di - 1 = (d1 : Int) := by omega
  have htB : tB (d1 + 1) = 60 + 3 * tB d1 := rfl
  have hcB : cB (d1 + 1) = 1 + 3 * cB d1 := rfl
  have hwd : IntKind.i64.wrap (di - 1) = di - 1 := IntWalk.i64_in _ (by omega)
  have hdi1 : 1 ≤ di := by omega
  clear hS
  go_wp2_with fail
  refine (made_any B m dom hdom hdom2 1 1 (t + 1) _ rfl (hb0).mkr (by omega)).mono ?_
  rintro e w2 ⟨a0, a1, a2, a3, xa, ta, rfl, hxa, hfa, hM2, hta, hg2⟩
  obtain ⟨ka, na, oa, la⟩ := xa
  obtain ⟨pa, ca, hea, -⟩ := hxa.open_
  simp only [List.cons.injEq, and_true] at hea
  obtain ⟨rfl, rfl, rfl, rfl⟩ := hea
  have hl2 := (hb0).xlt
  have hx2 := hxa.widen (S' := XS w1.heap.size w2) fun b hb => ⟨Nat.lt_of_lt_of_le hl2 hb.1, hb.2⟩
  have hb2 := (hb0).call hM2 hg2
  have hsa := fit2_sh hfa
  have hfa := fit_mono dom (.mk ka na oa la) (m := 20) (by omega) hfa
  have hta : ta ≤ (t + 1) + 16 := hta
  clear hM2 hg2 hxa hl2
  have HX := hb2.hX
  have x0 := cell_of_heap (j := 0) HX
  have x1 := cell_of_heap (j := 1) HX
  have x2 := cell_of_heap (j := 2) HX
  have x3 := cell_of_heap (j := 3) HX
  have x4 := cell_of_heap (j := 4) HX
  have x5 := cell_of_heap (j := 5) HX
  have x6 := cell_of_heap (j := 6) HX
  have x7 := cell_of_heap (j := 7) HX
  have x8 := cell_of_heap (j := 8) HX
  have x9 := cell_of_heap (j := 9) HX
  have x10 := cell_of_heap (j := 10) HX
  have x11 := cell_of_heap (j := 11) HX
  have x12 := cell_of_heap (j := 12) HX
  simp at x0 x1 x2 x3 x4 x5 x6 x7 x8 x9 x10 x11 x12
  clear HX
  have zX := hb2.free
  have lX := hb2.xlt
  go_wp2_with fail
  refine (pick_any B m (ta) 2 _ ((hb2.putA hx2)).mkr (by omega) (by omega)).mono ?_
  rintro e w3 ⟨tq, rfl, tq0, tq1, hM3, hg3⟩
  obtain ⟨tn, rfl⟩ : ∃ n : Nat, tq = n := ⟨tq.toNat, by omega⟩
  have hb3 := ((hb2.putA hx2)).call hM3 hg3
  clear hM3 hg3 x0 x1 x2 x3 x4 x5 x6 x7 x8 x9 x10 x11 x12 zX lX
  have HX := hb3.hX
  have x0 := cell_of_heap (j := 0) HX
  have x1 := cell_of_heap (j := 1) HX
  have x2 := cell_of_heap (j := 2) HX
  have x3 := cell_of_heap (j := 3) HX
  have x4 := cell_of_heap (j := 4) HX
  have x5 := cell_of_heap (j := 5) HX
  have x6 := cell_of_heap (j := 6) HX
  have x7 := cell_of_heap (j := 7) HX
  have x8 := cell_of_heap (j := 8) HX
  have x9 := cell_of_heap (j := 9) HX
  have x10 := cell_of_heap (j := 10) HX
  have x11 := cell_of_heap (j := 11) HX
  have x12 := cell_of_heap (j := 12) HX
  simp at x0 x1 x2 x3 x4 x5 x6 x7 x8 x9 x10 x11 x12
  clear HX
  have zX := hb3.free
  have lX := hb3.xlt
  obtain ⟨cn, hcn⟩ : ∃ cn : Nat, cn = 1 + tn := ⟨_, rfl⟩
  have hw3 : IntKind.i64.wrap (1 + (tn : Int)) = (cn : Int) := (IntWalk.i64_in _ (by omega)).trans (by omega)
  have hpt : cn * tB d1 ≤ 2 * tB d1 := Nat.mul_le_mul_right _ (by omega)
  have hpct : cn * cB d1 ≤ 2 * cB d1 := Nat.mul_le_mul_right _ (by omega)
  go_wp2_with fail
  have HC := HS.out (d1 : Int) cn (ta + 1) _ rfl (by omega) hb3.mkr (HKd.out.grown HM0.out hb3.gr) (by omega)
  rw [show ((cn : Nat) : Int) = 1 + (tn : Int) by omega] at HC
  with_reducible refine HC.mono ?_
  clear HC
  clear x0 x1 x2 x3 x4 x5 x6 x7 x8 x9 x10 x11 x12 zX lX
  rintro e w4 ⟨qt, st, Lt, tt, rfl, hLt, hnt, hokt, hct, hM4, htt, hg4⟩
  rw [Bool.and_eq_true] at hokt
  obtain ⟨hokt, hsht⟩ := hokt
  clear hnt hcn hw3
  have hL4 := hb3.rowT hg4 hLt
  have hb4 := hb3.call hM4 hg4
  clear hM4 hg4 hLt
  have HX := hb4.hX
  have x0 := cell_of_heap (j := 0) HX
  have x1 := cell_of_heap (j := 1) HX
  have x2 := cell_of_heap (j := 2) HX
  have x3 := cell_of_heap (j := 3) HX
  have x4 := cell_of_heap (j := 4) HX
  have x5 := cell_of_heap (j := 5) HX
  have x6 := cell_of_heap (j := 6) HX
  have x7 := cell_of_heap (j := 7) HX
  have x8 := cell_of_heap (j := 8) HX
  have x9 := cell_of_heap (j := 9) HX
  have x10 := cell_of_heap (j := 10) HX
  have x11 := cell_of_heap (j := 11) HX
  have x12 := cell_of_heap (j := 12) HX
  simp at x0 x1 x2 x3 x4 x5 x6 x7 x8 x9 x10 x11 x12
  clear HX
  have zX := hb4.free
  have lX := hb4.xlt
  have hbF := (hb4.putT hL4)
  have hok : (okS vars dom ((d1 + 1) + 1) (.mk 11 0 0 (.mk ka na oa la) exZ Lt []) && shS (.mk 11 0 0 (.mk ka na oa la) exZ Lt [])) = true := by
    rw [Bool.and_eq_true]
    constructor
    · have hnil : okL vars dom (d1 + 1) [] = true := rfl
      rw [okS_succ, okF_mk]
      simp [partL, numL, oneL, h0, h1, h2, h3, h4, h5, Ex.none, exZ, hnil, hfa, hokt]
    · rw [shS_mk]
      simp [show exZ.sh = true from rfl, shL_nil, hsa, hsht]
  have HF := hid hbF
  clear hbF
  go_upto_region 30 with fail
  clear x0 x1 x2 x3 x4 x5 x6 x7 x8 x9 x10 x11 x12 zX lX
  have hbF := HF.out
  clear HF
  generalize hWF : World.setCell _ ⟨w1.heap.size, 11, none⟩ _ = WF at hbF ⊢
  have fin := hid (hbF.post (d := (d1 + 1)) (t0 := t) (by decide) (by decide) (by decide) hok (by have hcn0 : cntL [] = 0 := rfl; first | omega | (simp [cntL]; omega) | simp [cntL]) (by omega))
  have hXX := hbF.hX
  have hRR := hbF.hR
  have x0 := cell_of_heap (j := 0) hXX
  have x1 := cell_of_heap (j := 1) hXX
  have x2 := cell_of_heap (j := 2) hXX
  have x3 := cell_of_heap (j := 3) hXX
  have x4 := cell_of_heap (j := 4) hXX
  have x5 := cell_of_heap (j := 5) hXX
  have x6 := cell_of_heap (j := 6) hXX
  have x7 := cell_of_heap (j := 7) hXX
  have x8 := cell_of_heap (j := 8) hXX
  have x9 := cell_of_heap (j := 9) hXX
  have x10 := cell_of_heap (j := 10) hXX
  have x11 := cell_of_heap (j := 11) hXX
  have x12 := cell_of_heap (j := 12) hXX
  have r0 := cell_of_heap (j := 0) hRR
  have r1 := cell_of_heap (j := 1) hRR
  have r2 := cell_of_heap (j := 2) hRR
  have r3 := cell_of_heap (j := 3) hRR
  have r4 := cell_of_heap (j := 4) hRR
  have r5 := cell_of_heap (j := 5) hRR
  have r6 := cell_of_heap (j := 6) hRR
  have r7 := cell_of_heap (j := 7) hRR
  have r8 := cell_of_heap (j := 8) hRR
  have r9 := cell_of_heap (j := 9) hRR
  have r10 := cell_of_heap (j := 10) hRR
  have r11 := cell_of_heap (j := 11) hRR
  have r12 := cell_of_heap (j := 12) hRR
  have zR : ∀ j, _ = false := fun j => unfrozen (j := j) hRR
  have lR := (Array.getElem?_eq_some_iff.1 hRR).1
  have lX := hbF.xlt
  have hR5 := set13_at hbF.hR (.int .i64 11) (.int .i64 0) (.int .i64 0) (.int .i64 ka) (.int .i64 na) (.int .u8 oa) (.slice pa la.length ca) (.int .i64 0) (.int .i64 0) (.int .u8 0) (.slice none 0 0) (.slice qt Lt.length st) (.slice none 0 0)
  have g0 := hid (cell_of_heap (j := 0) hR5)
  have g1 := hid (cell_of_heap (j := 1) hR5)
  have g2 := hid (cell_of_heap (j := 2) hR5)
  have g3 := hid (cell_of_heap (j := 3) hR5)
  have g4 := hid (cell_of_heap (j := 4) hR5)
  have g5 := hid (cell_of_heap (j := 5) hR5)
  have g6 := hid (cell_of_heap (j := 6) hR5)
  have g7 := hid (cell_of_heap (j := 7) hR5)
  have g8 := hid (cell_of_heap (j := 8) hR5)
  have g9 := hid (cell_of_heap (j := 9) hR5)
  have g10 := hid (cell_of_heap (j := 10) hR5)
  have g11 := hid (cell_of_heap (j := 11) hR5)
  have g12 := hid (cell_of_heap (j := 12) hR5)
  simp only [z13] at r0 r1 r2 r3 r4 r5 r6 r7 r8 r9 r10 r11 r12
  simp at x0 x1 x2 x3 x4 x5 x6 x7 x8 x9 x10 x11 x12 r0 r1 r2 r3 r4 r5 r6 r7 r8 r9 r10 r11 r12
  clear hXX hRR hR5 hbF hok hWF
  go_wp2_with fail
  refine bodyPost_ret (v := .agg #[.int .i64 11, .int .i64 0, .int .i64 0, .int .i64 ka, .int .i64 na, .int .u8 oa, .slice pa la.length ca, .int .i64 0, .int .i64 0, .int .u8 0, .slice none 0 0, .slice qt Lt.length st, .slice none 0 0]) ?_ rfl fin.out
  have g0 := g0.out
  have g1 := g1.out
  have g2 := g2.out
  have g3 := g3.out
  have g4 := g4.out
  have g5 := g5.out
  have g6 := g6.out
  have g7 := g7.out
  have g8 := g8.out
  have g9 := g9.out
  have g10 := g10.out
  have g11 := g11.out
  have g12 := g12.out
  unfold set13 at g0 g1 g2 g3 g4 g5 g6 g7 g8 g9 g10 g11 g12
  simp [results, Tryz.results50, go_sem, g0, g1, g2, g3, g4, g5, g6, g7, g8, g9, g10, g11, g12]

end Go.Proofs.YtphlbbnmligadaaGreatDoor
