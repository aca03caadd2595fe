/- The maker's stmt, kind by kind: what it makes may be. -/
import Derived.Test.YtphlbbnmligadaaGreatDoorBunK
import Derived.Deep.CutRange
namespace Go.Proofs.YtphlbbnmligadaaGreatDoor
open Go.RowKit

set_option maxRecDepth 100000 in
set_option maxHeartbeats 8000000 in
theorem stmt_k4 (B m : Nat) (vars dom : Int) (b off kn kc d : Nat) (hd9 : d ≤ 1000) : StmtK B m vars dom b off kn kc d 4 := by
  intro di t w hdi hM hKd hKi ht
  have hmlt := hM.lt
  have hB := hM.1
  have h60 : 60 ≤ tB d := by cases d <;> simp [tB]
  have hc1 : 1 ≤ cB d := by cases d <;> simp [cB]
  have hd0 : 0 ≤ di := by omega
  have HKd := hid hKd
  have HM0 := hid hM
  obtain ⟨hkn1, hkn, hkc, b', off', eb, hb, -⟩ := hKd
  simp only [Option.some.injEq, Addr.mk.injEq, and_true] at eb
  obtain ⟨rfl, rfl⟩ := eb
  unfold maxLen at hkc
  have HKi := hid hKi
  clear hKi
  go_enter Tryz.func50, Tryz.ntmps50
  go_wp2_with fail
  refine (pick_is B m t kn _ (hM.alloc _) (by omega) (by omega)).mono ?_
  rintro e w1 ⟨q, rfl, hpq, hM1, hg1⟩
  obtain ⟨hq0, hq1⟩ := hpq.range (hM.alloc _) (by omega)
  have hck := HKi.out _ _ hpq
  have hR : w1.heap[w.heap.size]? = some (.cells z13 56 (0, 0)) := (hg1.block w.heap.size (by simp) (by simp; omega)).trans (heap_alloc_new w _)
  have hg : w.grownBy w1 (some m) := grownBy_trans (World.grownBy_alloc w _ _) hg1
  have hz : w.heap.size < w1.heap.size := (Array.getElem?_eq_some_iff.1 hR).1
  clear hpq HKi
  obtain ⟨n, rfl⟩ : ∃ n : Nat, q = n := ⟨q.toNat, by omega⟩
  rw [Int.toNat_natCast] at hck
  have hck : w1.cell? ⟨b, off + n, none⟩ = some (.int .i64 4) := (grownBy_cell hg (by omega) (by omega)).trans hck
  have hbw : b < w1.heap.size := by omega
  have hb0 := Bld.start (k := 4) hmlt hR hM1 hg
  have hnz : ¬ w1.heap.size = w.heap.size := by omega
  have hnz2 : ¬ w.heap.size = w1.heap.size := by omega
  clear hg1 hM1 hM hg hR
  have hdd : di < 1 ∨ 1 ≤ di := by omega
  rcases hdd with hdd | hdd
  · have hbF := hb0
    have hok : (okS vars dom (d + 1) (.mk 4 0 0 exZ exZ [] []) && shS (.mk 4 0 0 exZ exZ [] [])) = true := by
      rw [Bool.and_eq_true]
      constructor
      · have hnil : okL vars dom d [] = true := rfl
        rw [okS_succ, okF_mk]
        simp [partL, numL, oneL, h0, h1, h2, h3, h4, h5, Ex.none, exZ, hnil]
      · rw [shS_mk]
        simp [show exZ.sh = true from rfl, shL_nil]
    have HF := hid hbF
    clear hbF
    go_upto_region 30 with fail
    have hbF := HF.out
    clear HF
    generalize hWF : World.alloc w1 _ = WF at hbF ⊢
    have fin := hid (hbF.post (d := d) (t0 := t) (by decide) (by decide) (by decide) hok (by have hcn0 : cntL [] = 0 := rfl; first | omega | (simp [cntL]; omega) | simp [cntL]) (by omega))
    have hXX := hbF.hX
    have hRR := hbF.hR
    have x0 := cell_of_heap (j := 0) hXX
    have x1 := cell_of_heap (j := 1) hXX
    have x2 := cell_of_heap (j := 2) hXX
    have x3 := cell_of_heap (j := 3) hXX
    have x4 := cell_of_heap (j := 4) hXX
    have x5 := cell_of_heap (j := 5) hXX
    have x6 := cell_of_heap (j := 6) hXX
    have x7 := cell_of_heap (j := 7) hXX
    have x8 := cell_of_heap (j := 8) hXX
    have x9 := cell_of_heap (j := 9) hXX
    have x10 := cell_of_heap (j := 10) hXX
    have x11 := cell_of_heap (j := 11) hXX
    have x12 := cell_of_heap (j := 12) hXX
    have r0 := cell_of_heap (j := 0) hRR
    have r1 := cell_of_heap (j := 1) hRR
    have r2 := cell_of_heap (j := 2) hRR
    have r3 := cell_of_heap (j := 3) hRR
    have r4 := cell_of_heap (j := 4) hRR
    have r5 := cell_of_heap (j := 5) hRR
    have r6 := cell_of_heap (j := 6) hRR
    have r7 := cell_of_heap (j := 7) hRR
    have r8 := cell_of_heap (j := 8) hRR
    have r9 := cell_of_heap (j := 9) hRR
    have r10 := cell_of_heap (j := 10) hRR
    have r11 := cell_of_heap (j := 11) hRR
    have r12 := cell_of_heap (j := 12) hRR
    have zR : ∀ j, _ = false := fun j => unfrozen (j := j) hRR
    have lR := (Array.getElem?_eq_some_iff.1 hRR).1
    have lX := hbF.xlt
    have hR5 := set13_at hbF.hR (.int .i64 4) (.int .i64 0) (.int .i64 0) (.int .i64 0) (.int .i64 0) (.int .u8 0) (.slice none 0 0) (.int .i64 0) (.int .i64 0) (.int .u8 0) (.slice none 0 0) (.slice none 0 0) (.slice none 0 0)
    have g0 := hid (cell_of_heap (j := 0) hR5)
    have g1 := hid (cell_of_heap (j := 1) hR5)
    have g2 := hid (cell_of_heap (j := 2) hR5)
    have g3 := hid (cell_of_heap (j := 3) hR5)
    have g4 := hid (cell_of_heap (j := 4) hR5)
    have g5 := hid (cell_of_heap (j := 5) hR5)
    have g6 := hid (cell_of_heap (j := 6) hR5)
    have g7 := hid (cell_of_heap (j := 7) hR5)
    have g8 := hid (cell_of_heap (j := 8) hR5)
    have g9 := hid (cell_of_heap (j := 9) hR5)
    have g10 := hid (cell_of_heap (j := 10) hR5)
    have g11 := hid (cell_of_heap (j := 11) hR5)
    have g12 := hid (cell_of_heap (j := 12) hR5)
    simp only [z13] at r0 r1 r2 r3 r4 r5 r6 r7 r8 r9 r10 r11 r12
    simp at x0 x1 x2 x3 x4 x5 x6 x7 x8 x9 x10 x11 x12 r0 r1 r2 r3 r4 r5 r6 r7 r8 r9 r10 r11 r12
    clear hXX hRR hR5 hbF hok hWF
    go_wp2_with fail
    refine bodyPost_ret (v := .agg #[.int .i64 4, .int .i64 0, .int .i64 0, .int .i64 0, .int .i64 0, .int .u8 0, .slice none 0 0, .int .i64 0, .int .i64 0, .int .u8 0, .slice none 0 0, .slice none 0 0, .slice none 0 0]) ?_ rfl fin.out
    have g0 := g0.out
    have g1 := g1.out
    have g2 := g2.out
    have g3 := g3.out
    have g4 := g4.out
    have g5 := g5.out
    have g6 := g6.out
    have g7 := g7.out
    have g8 := g8.out
    have g9 := g9.out
    have g10 := g10.out
    have g11 := g11.out
    have g12 := g12.out
    unfold set13 at g0 g1 g2 g3 g4 g5 g6 g7 g8 g9 g10 g11 g12
    simp [results, Tryz.results50, go_sem, g0, g1, g2, g3, g4, g5, g6, g7, g8, g9, g10, g11, g12]
  · have hbF := hb0
    have hok : (okS vars dom (d + 1) (.mk 4 0 0 exZ exZ [] []) && shS (.mk 4 0 0 exZ exZ [] [])) = true := by
      rw [Bool.and_eq_true]
      constructor
      · have hnil : okL vars dom d [] = true := rfl
        rw [okS_succ, okF_mk]
        simp [partL, numL, oneL, h0, h1, h2, h3, h4, h5, Ex.none, exZ, hnil]
      · rw [shS_mk]
        simp [show exZ.sh = true from rfl, shL_nil]
    have HF := hid hbF
    clear hbF
    go_upto_region 30 with fail
    have hbF := HF.out
    clear HF
    generalize hWF : World.alloc w1 _ = WF at hbF ⊢
    have fin := hid (hbF.post (d := d) (t0 := t) (by decide) (by decide) (by decide) hok (by have hcn0 : cntL [] = 0 := rfl; first | omega | (simp [cntL]; omega) | simp [cntL]) (by omega))
    have hXX := hbF.hX
    have hRR := hbF.hR
    have x0 := cell_of_heap (j := 0) hXX
    have x1 := cell_of_heap (j := 1) hXX
    have x2 := cell_of_heap (j := 2) hXX
    have x3 := cell_of_heap (j := 3) hXX
    have x4 := cell_of_heap (j := 4) hXX
    have x5 := cell_of_heap (j := 5) hXX
    have x6 := cell_of_heap (j := 6) hXX
    have x7 := cell_of_heap (j := 7) hXX
    have x8 := cell_of_heap (j := 8) hXX
    have x9 := cell_of_heap (j := 9) hXX
    have x10 := cell_of_heap (j := 10) hXX
    have x11 := cell_of_heap (j := 11) hXX
    have x12 := cell_of_heap (j := 12) hXX
    have r0 := cell_of_heap (j := 0) hRR
    have r1 := cell_of_heap (j := 1) hRR
    have r2 := cell_of_heap (j := 2) hRR
    have r3 := cell_of_heap (j := 3) hRR
    have r4 := cell_of_heap (j := 4) hRR
    have r5 := cell_of_heap (j := 5) hRR
    have r6 := cell_of_heap (j := 6) hRR
    have r7 := cell_of_heap (j := 7) hRR
    have r8 := cell_of_heap (j := 8) hRR
    have r9 := cell_of_heap (j := 9) hRR
    have r10 := cell_of_heap (j := 10) hRR
    have r11 := cell_of_heap (j := 11) hRR
    have r12 := cell_of_heap (j := 12) hRR
    have zR : ∀ j, _ = false := fun j => unfrozen (j := j) hRR
    have lR := (Array.getElem?_eq_some_iff.1 hRR).1
    have lX := hbF.xlt
    have hR5 := set13_at hbF.hR (.int .i64 4) (.int .i64 0) (.int .i64 0) (.int .i64 0) (.int .i64 0) (.int .u8 0) (.slice none 0 0) (.int .i64 0) (.int .i64 0) (.int .u8 0) (.slice none 0 0) (.slice none 0 0) (.slice none 0 0)
    have g0 := hid (cell_of_heap (j := 0) hR5)
    have g1 := hid (cell_of_heap (j := 1) hR5)
    have g2 := hid (cell_of_heap (j := 2) hR5)
    have g3 := hid (cell_of_heap (j := 3) hR5)
    have g4 := hid (cell_of_heap (j := 4) hR5)
    have g5 := hid (cell_of_heap (j := 5) hR5)
    have g6 := hid (cell_of_heap (j := 6) hR5)
    have g7 := hid (cell_of_heap (j := 7) hR5)
    have g8 := hid (cell_of_heap (j := 8) hR5)
    have g9 := hid (cell_of_heap (j := 9) hR5)
    have g10 := hid (cell_of_heap (j := 10) hR5)
    have g11 := hid (cell_of_heap (j := 11) hR5)
    have g12 := hid (cell_of_heap (j := 12) hR5)
    simp only [z13] at r0 r1 r2 r3 r4 r5 r6 r7 r8 r9 r10 r11 r12
    simp at x0 x1 x2 x3 x4 x5 x6 x7 x8 x9 x10 x11 x12 r0 r1 r2 r3 r4 r5 r6 r7 r8 r9 r10 r11 r12
    clear hXX hRR hR5 hbF hok hWF
    go_wp2_with fail
    refine bodyPost_ret (v := .agg #[.int .i64 4, .int .i64 0, .int .i64 0, .int .i64 0, .int .i64 0, .int .u8 0, .slice none 0 0, .int .i64 0, .int .i64 0, .int .u8 0, .slice none 0 0, .slice none 0 0, .slice none 0 0]) ?_ rfl fin.out
    have g0 := g0.out
    have g1 := g1.out
    have g2 := g2.out
    have g3 := g3.out
    have g4 := g4.out
    have g5 := g5.out
    have g6 := g6.out
    have g7 := g7.out
    have g8 := g8.out
    have g9 := g9.out
    have g10 := g10.out
    have g11 := g11.out
    have g12 := g12.out
    unfold set13 at g0 g1 g2 g3 g4 g5 g6 g7 g8 g9 g10 g11 g12
    simp [results, Tryz.results50, go_sem, g0, g1, g2, g3, g4, g5, g6, g7, g8, g9, g10, g11, g12]

set_option maxRecDepth 100000 in
set_option maxHeartbeats 8000000 in
theorem stmt_k5 (B m : Nat) (vars dom : Int) (b off kn kc d : Nat) (hd9 : d ≤ 1000) : StmtK B m vars dom b off kn kc d 5 := by
  intro di t w hdi hM hKd hKi ht
  have hmlt := hM.lt
  have hB := hM.1
  have h60 : 60 ≤ tB d := by cases d <;> simp [tB]
  have hc1 : 1 ≤ cB d := by cases d <;> simp [cB]
  have hd0 : 0 ≤ di := by omega
  have HKd := hid hKd
  have HM0 := hid hM
  obtain ⟨hkn1, hkn, hkc, b', off', eb, hb, -⟩ := hKd
  simp only [Option.some.injEq, Addr.mk.injEq, and_true] at eb
  obtain ⟨rfl, rfl⟩ := eb
  unfold maxLen at hkc
  have HKi := hid hKi
  clear hKi
  go_enter Tryz.func50, Tryz.ntmps50
  go_wp2_with fail
  refine (pick_is B m t kn _ (hM.alloc _) (by omega) (by omega)).mono ?_
  rintro e w1 ⟨q, rfl, hpq, hM1, hg1⟩
  obtain ⟨hq0, hq1⟩ := hpq.range (hM.alloc _) (by omega)
  have hck := HKi.out _ _ hpq
  have hR : w1.heap[w.heap.size]? = some (.cells z13 56 (0, 0)) := (hg1.block w.heap.size (by simp) (by simp; omega)).trans (heap_alloc_new w _)
  have hg : w.grownBy w1 (some m) := grownBy_trans (World.grownBy_alloc w _ _) hg1
  have hz : w.heap.size < w1.heap.size := (Array.getElem?_eq_some_iff.1 hR).1
  clear hpq HKi
  obtain ⟨n, rfl⟩ : ∃ n : Nat, q = n := ⟨q.toNat, by omega⟩
  rw [Int.toNat_natCast] at hck
  have hck : w1.cell? ⟨b, off + n, none⟩ = some (.int .i64 5) := (grownBy_cell hg (by omega) (by omega)).trans hck
  have hbw : b < w1.heap.size := by omega
  have hb0 := Bld.start (k := 5) hmlt hR hM1 hg
  have hnz : ¬ w1.heap.size = w.heap.size := by omega
  have hnz2 : ¬ w.heap.size = w1.heap.size := by omega
  clear hg1 hM1 hM hg hR
  have hdd : di < 1 ∨ 1 ≤ di := by omega
  rcases hdd with hdd | hdd
  · have hbF := hb0
    have hok : (okS vars dom (d + 1) (.mk 5 0 0 exZ exZ [] []) && shS (.mk 5 0 0 exZ exZ [] [])) = true := by
      rw [Bool.and_eq_true]
      constructor
      · have hnil : okL vars dom d [] = true := rfl
        rw [okS_succ, okF_mk]
        simp [partL, numL, oneL, h0, h1, h2, h3, h4, h5, Ex.none, exZ, hnil]
      · rw [shS_mk]
        simp [show exZ.sh = true from rfl, shL_nil]
    have HF := hid hbF
    clear hbF
    go_upto_region 30 with fail
    have hbF := HF.out
    clear HF
    generalize hWF : World.alloc w1 _ = WF at hbF ⊢
    have fin := hid (hbF.post (d := d) (t0 := t) (by decide) (by decide) (by decide) hok (by have hcn0 : cntL [] = 0 := rfl; first | omega | (simp [cntL]; omega) | simp [cntL]) (by omega))
    have hXX := hbF.hX
    have hRR := hbF.hR
    have x0 := cell_of_heap (j := 0) hXX
    have x1 := cell_of_heap (j := 1) hXX
    have x2 := cell_of_heap (j := 2) hXX
    have x3 := cell_of_heap (j := 3) hXX
    have x4 := cell_of_heap (j := 4) hXX
    have x5 := cell_of_heap (j := 5) hXX
    have x6 := cell_of_heap (j := 6) hXX
    have x7 := cell_of_heap (j := 7) hXX
    have x8 := cell_of_heap (j := 8) hXX
    have x9 := cell_of_heap (j := 9) hXX
    have x10 := cell_of_heap (j := 10) hXX
    have x11 := cell_of_heap (j := 11) hXX
    have x12 := cell_of_heap (j := 12) hXX
    have r0 := cell_of_heap (j := 0) hRR
    have r1 := cell_of_heap (j := 1) hRR
    have r2 := cell_of_heap (j := 2) hRR
    have r3 := cell_of_heap (j := 3) hRR
    have r4 := cell_of_heap (j := 4) hRR
    have r5 := cell_of_heap (j := 5) hRR
    have r6 := cell_of_heap (j := 6) hRR
    have r7 := cell_of_heap (j := 7) hRR
    have r8 := cell_of_heap (j := 8) hRR
    have r9 := cell_of_heap (j := 9) hRR
    have r10 := cell_of_heap (j := 10) hRR
    have r11 := cell_of_heap (j := 11) hRR
    have r12 := cell_of_heap (j := 12) hRR
    have zR : ∀ j, _ = false := fun j => unfrozen (j := j) hRR
    have lR := (Array.getElem?_eq_some_iff.1 hRR).1
    have lX := hbF.xlt
    have hR5 := set13_at hbF.hR (.int .i64 5) (.int .i64 0) (.int .i64 0) (.int .i64 0) (.int .i64 0) (.int .u8 0) (.slice none 0 0) (.int .i64 0) (.int .i64 0) (.int .u8 0) (.slice none 0 0) (.slice none 0 0) (.slice none 0 0)
    have g0 := hid (cell_of_heap (j := 0) hR5)
    have g1 := hid (cell_of_heap (j := 1) hR5)
    have g2 := hid (cell_of_heap (j := 2) hR5)
    have g3 := hid (cell_of_heap (j := 3) hR5)
    have g4 := hid (cell_of_heap (j := 4) hR5)
    have g5 := hid (cell_of_heap (j := 5) hR5)
    have g6 := hid (cell_of_heap (j := 6) hR5)
    have g7 := hid (cell_of_heap (j := 7) hR5)
    have g8 := hid (cell_of_heap (j := 8) hR5)
    have g9 := hid (cell_of_heap (j := 9) hR5)
    have g10 := hid (cell_of_heap (j := 10) hR5)
    have g11 := hid (cell_of_heap (j := 11) hR5)
    have g12 := hid (cell_of_heap (j := 12) hR5)
    simp only [z13] at r0 r1 r2 r3 r4 r5 r6 r7 r8 r9 r10 r11 r12
    simp at x0 x1 x2 x3 x4 x5 x6 x7 x8 x9 x10 x11 x12 r0 r1 r2 r3 r4 r5 r6 r7 r8 r9 r10 r11 r12
    clear hXX hRR hR5 hbF hok hWF
    go_wp2_with fail
    refine bodyPost_ret (v := .agg #[.int .i64 5, .int .i64 0, .int .i64 0, .int .i64 0, .int .i64 0, .int .u8 0, .slice none 0 0, .int .i64 0, .int .i64 0, .int .u8 0, .slice none 0 0, .slice none 0 0, .slice none 0 0]) ?_ rfl fin.out
    have g0 := g0.out
    have g1 := g1.out
    have g2 := g2.out
    have g3 := g3.out
    have g4 := g4.out
    have g5 := g5.out
    have g6 := g6.out
    have g7 := g7.out
    have g8 := g8.out
    have g9 := g9.out
    have g10 := g10.out
    have g11 := g11.out
    have g12 := g12.out
    unfold set13 at g0 g1 g2 g3 g4 g5 g6 g7 g8 g9 g10 g11 g12
    simp [results, Tryz.results50, go_sem, g0, g1, g2, g3, g4, g5, g6, g7, g8, g9, g10, g11, g12]
  · have hbF := hb0
    have hok : (okS vars dom (d + 1) (.mk 5 0 0 exZ exZ [] []) && shS (.mk 5 0 0 exZ exZ [] [])) = true := by
      rw [Bool.and_eq_true]
      constructor
      · have hnil : okL vars dom d [] = true := rfl
        rw [okS_succ, okF_mk]
        simp [partL, numL, oneL, h0, h1, h2, h3, h4, h5, Ex.none, exZ, hnil]
      · rw [shS_mk]
        simp [show exZ.sh = true from rfl, shL_nil]
    have HF := hid hbF
    clear hbF
    go_upto_region 30 with fail
    have hbF := HF.out
    clear HF
    generalize hWF : World.alloc w1 _ = WF at hbF ⊢
    have fin := hid (hbF.post (d := d) (t0 := t) (by decide) (by decide) (by decide) hok (by have hcn0 : cntL [] = 0 := rfl; first | omega | (simp [cntL]; omega) | simp [cntL]) (by omega))
    have hXX := hbF.hX
    have hRR := hbF.hR
    have x0 := cell_of_heap (j := 0) hXX
    have x1 := cell_of_heap (j := 1) hXX
    have x2 := cell_of_heap (j := 2) hXX
    have x3 := cell_of_heap (j := 3) hXX
    have x4 := cell_of_heap (j := 4) hXX
    have x5 := cell_of_heap (j := 5) hXX
    have x6 := cell_of_heap (j := 6) hXX
    have x7 := cell_of_heap (j := 7) hXX
    have x8 := cell_of_heap (j := 8) hXX
    have x9 := cell_of_heap (j := 9) hXX
    have x10 := cell_of_heap (j := 10) hXX
    have x11 := cell_of_heap (j := 11) hXX
    have x12 := cell_of_heap (j := 12) hXX
    have r0 := cell_of_heap (j := 0) hRR
    have r1 := cell_of_heap (j := 1) hRR
    have r2 := cell_of_heap (j := 2) hRR
    have r3 := cell_of_heap (j := 3) hRR
    have r4 := cell_of_heap (j := 4) hRR
    have r5 := cell_of_heap (j := 5) hRR
    have r6 := cell_of_heap (j := 6) hRR
    have r7 := cell_of_heap (j := 7) hRR
    have r8 := cell_of_heap (j := 8) hRR
    have r9 := cell_of_heap (j := 9) hRR
    have r10 := cell_of_heap (j := 10) hRR
    have r11 := cell_of_heap (j := 11) hRR
    have r12 := cell_of_heap (j := 12) hRR
    have zR : ∀ j, _ = false := fun j => unfrozen (j := j) hRR
    have lR := (Array.getElem?_eq_some_iff.1 hRR).1
    have lX := hbF.xlt
    have hR5 := set13_at hbF.hR (.int .i64 5) (.int .i64 0) (.int .i64 0) (.int .i64 0) (.int .i64 0) (.int .u8 0) (.slice none 0 0) (.int .i64 0) (.int .i64 0) (.int .u8 0) (.slice none 0 0) (.slice none 0 0) (.slice none 0 0)
    have g0 := hid (cell_of_heap (j := 0) hR5)
    have g1 := hid (cell_of_heap (j := 1) hR5)
    have g2 := hid (cell_of_heap (j := 2) hR5)
    have g3 := hid (cell_of_heap (j := 3) hR5)
    have g4 := hid (cell_of_heap (j := 4) hR5)
    have g5 := hid (cell_of_heap (j := 5) hR5)
    have g6 := hid (cell_of_heap (j := 6) hR5)
    have g7 := hid (cell_of_heap (j := 7) hR5)
    have g8 := hid (cell_of_heap (j := 8) hR5)
    have g9 := hid (cell_of_heap (j := 9) hR5)
    have g10 := hid (cell_of_heap (j := 10) hR5)
    have g11 := hid (cell_of_heap (j := 11) hR5)
    have g12 := hid (cell_of_heap (j := 12) hR5)
    simp only [z13] at r0 r1 r2 r3 r4 r5 r6 r7 r8 r9 r10 r11 r12
    simp at x0 x1 x2 x3 x4 x5 x6 x7 x8 x9 x10 x11 x12 r0 r1 r2 r3 r4 r5 r6 r7 r8 r9 r10 r11 r12
    clear hXX hRR hR5 hbF hok hWF
    go_wp2_with fail
    refine bodyPost_ret (v := .agg #[.int .i64 5, .int .i64 0, .int .i64 0, .int .i64 0, .int .i64 0, .int .u8 0, .slice none 0 0, .int .i64 0, .int .i64 0, .int .u8 0, .slice none 0 0, .slice none 0 0, .slice none 0 0]) ?_ rfl fin.out
    have g0 := g0.out
    have g1 := g1.out
    have g2 := g2.out
    have g3 := g3.out
    have g4 := g4.out
    have g5 := g5.out
    have g6 := g6.out
    have g7 := g7.out
    have g8 := g8.out
    have g9 := g9.out
    have g10 := g10.out
    have g11 := g11.out
    have g12 := g12.out
    unfold set13 at g0 g1 g2 g3 g4 g5 g6 g7 g8 g9 g10 g11 g12
    simp [results, Tryz.results50, go_sem, g0, g1, g2, g3, g4, g5, g6, g7, g8, g9, g10, g11, g12]

set_option maxRecDepth 100000 in
set_option maxHeartbeats 8000000 in
theorem stmt_k6 (B m : Nat) (vars dom : Int) (hvars : 1 ≤ vars) (hvars2 : vars ≤ 1000) (hdom : 1 ≤ dom) (hdom2 : dom ≤ 9223372036854775807) (b off kn kc d : Nat) (hd9 : d ≤ 1000) : StmtK B m vars dom b off kn kc d 6 := by
  intro di t w hdi hM hKd hKi ht
  have hmlt := hM.lt
  have hB := hM.1
  have h60 : 60 ≤ tB d := by cases d <;> simp [tB]
  have hc1 : 1 ≤ cB d := by cases d <;> simp [cB]
  have hd0 : 0 ≤ di := by omega
  have HKd := hid hKd
  have HM0 := hid hM
  obtain ⟨hkn1, hkn, hkc, b', off', eb, hb, -⟩ := hKd
  simp only [Option.some.injEq, Addr.mk.injEq, and_true] at eb
  obtain ⟨rfl, rfl⟩ := eb
  unfold maxLen at hkc
  have HKi := hid hKi
  clear hKi
  go_enter Tryz.func50, Tryz.ntmps50
  go_wp2_with fail
  refine (pick_is B m t kn _ (hM.alloc _) (by omega) (by omega)).mono ?_
  rintro e w1 ⟨q, rfl, hpq, hM1, hg1⟩
  obtain ⟨hq0, hq1⟩ := hpq.range (hM.alloc _) (by omega)
  have hck := HKi.out _ _ hpq
  have hR : w1.heap[w.heap.size]? = some (.cells z13 56 (0, 0)) := (hg1.block w.heap.size (by simp) (by simp; omega)).trans (heap_alloc_new w _)
  have hg : w.grownBy w1 (some m) := grownBy_trans (World.grownBy_alloc w _ _) hg1
  have hz : w.heap.size < w1.heap.size := (Array.getElem?_eq_some_iff.1 hR).1
  clear hpq HKi
  obtain ⟨n, rfl⟩ : ∃ n : Nat, q = n := ⟨q.toNat, by omega⟩
  rw [Int.toNat_natCast] at hck
  have hck : w1.cell? ⟨b, off + n, none⟩ = some (.int .i64 6) := (grownBy_cell hg (by omega) (by omega)).trans hck
  have hbw : b < w1.heap.size := by omega
  have hb0 := Bld.start (k := 6) hmlt hR hM1 hg
  have hnz : ¬ w1.heap.size = w.heap.size := by omega
  have hnz2 : ¬ w.heap.size = w1.heap.size := by omega
  clear hg1 hM1 hM hg hR
  have hdd : di < 1 ∨ 1 ≤ di := by omega
  rcases hdd with hdd | hdd
  · go_wp2_with fail
    refine (pick_any B m (t + 1) 2 _ (hb0).mkr (by omega) (by omega)).mono ?_
    rintro e w2 ⟨rn, rfl, rn0, rn1, hM2, hg2⟩
    have hb2 := (hb0).call hM2 hg2
    clear hM2 hg2
    have HX := hb2.hX
    have x0 := cell_of_heap (j := 0) HX
    have x1 := cell_of_heap (j := 1) HX
    have x2 := cell_of_heap (j := 2) HX
    have x3 := cell_of_heap (j := 3) HX
    have x4 := cell_of_heap (j := 4) HX
    have x5 := cell_of_heap (j := 5) HX
    have x6 := cell_of_heap (j := 6) HX
    have x7 := cell_of_heap (j := 7) HX
    have x8 := cell_of_heap (j := 8) HX
    have x9 := cell_of_heap (j := 9) HX
    have x10 := cell_of_heap (j := 10) HX
    have x11 := cell_of_heap (j := 11) HX
    have x12 := cell_of_heap (j := 12) HX
    simp at x0 x1 x2 x3 x4 x5 x6 x7 x8 x9 x10 x11 x12
    clear HX
    have zX := hb2.free
    have lX := hb2.xlt
    have rn4 : rn < 4 := by omega
    go_wp2_with fail
    refine (pick_any B m (t + 1 + 1) vars _ ((hb2.putR rn)).mkr (by omega) (by omega)).mono ?_
    rintro e w3 ⟨vn, rfl, vn0, vn1, hM3, hg3⟩
    have hb3 := ((hb2.putR rn)).call hM3 hg3
    clear hM3 hg3 x0 x1 x2 x3 x4 x5 x6 x7 x8 x9 x10 x11 x12 zX lX
    have HX := hb3.hX
    have x0 := cell_of_heap (j := 0) HX
    have x1 := cell_of_heap (j := 1) HX
    have x2 := cell_of_heap (j := 2) HX
    have x3 := cell_of_heap (j := 3) HX
    have x4 := cell_of_heap (j := 4) HX
    have x5 := cell_of_heap (j := 5) HX
    have x6 := cell_of_heap (j := 6) HX
    have x7 := cell_of_heap (j := 7) HX
    have x8 := cell_of_heap (j := 8) HX
    have x9 := cell_of_heap (j := 9) HX
    have x10 := cell_of_heap (j := 10) HX
    have x11 := cell_of_heap (j := 11) HX
    have x12 := cell_of_heap (j := 12) HX
    simp at x0 x1 x2 x3 x4 x5 x6 x7 x8 x9 x10 x11 x12
    clear HX
    have zX := hb3.free
    have lX := hb3.xlt
    go_wp2_with fail
    refine (made_any B m dom hdom hdom2 1 1 (t + 1 + 1 + 1) _ rfl ((hb3.putV vn)).mkr (by omega)).mono ?_
    rintro e w4 ⟨a0, a1, a2, a3, xa, ta, rfl, hxa, hfa, hM4, hta, hg4⟩
    obtain ⟨ka, na, oa, la⟩ := xa
    obtain ⟨pa, ca, hea, -⟩ := hxa.open_
    simp only [List.cons.injEq, and_true] at hea
    obtain ⟨rfl, rfl, rfl, rfl⟩ := hea
    have hl4 := ((hb3.putV vn)).xlt
    have hx4 := hxa.widen (S' := XS w1.heap.size w4) fun b hb => ⟨Nat.lt_of_lt_of_le hl4 hb.1, hb.2⟩
    have hb4 := ((hb3.putV vn)).call hM4 hg4
    have hsa := fit2_sh hfa
    have hfa := fit_mono dom (.mk ka na oa la) (m := 20) (by omega) hfa
    have hta : ta ≤ (t + 1 + 1 + 1) + 16 := hta
    clear hM4 hg4 hxa hl4 x0 x1 x2 x3 x4 x5 x6 x7 x8 x9 x10 x11 x12 zX lX
    have HX := hb4.hX
    have x0 := cell_of_heap (j := 0) HX
    have x1 := cell_of_heap (j := 1) HX
    have x2 := cell_of_heap (j := 2) HX
    have x3 := cell_of_heap (j := 3) HX
    have x4 := cell_of_heap (j := 4) HX
    have x5 := cell_of_heap (j := 5) HX
    have x6 := cell_of_heap (j := 6) HX
    have x7 := cell_of_heap (j := 7) HX
    have x8 := cell_of_heap (j := 8) HX
    have x9 := cell_of_heap (j := 9) HX
    have x10 := cell_of_heap (j := 10) HX
    have x11 := cell_of_heap (j := 11) HX
    have x12 := cell_of_heap (j := 12) HX
    simp at x0 x1 x2 x3 x4 x5 x6 x7 x8 x9 x10 x11 x12
    clear HX
    have zX := hb4.free
    have lX := hb4.xlt
    go_wp2_with fail
    refine (made_any B m dom hdom hdom2 1 1 (ta) _ rfl ((hb4.putA hx4)).mkr (by omega)).mono ?_
    rintro e w5 ⟨b0, b1, b2, b3, xb, tb, rfl, hxb, hfb, hM5, htb, hg5⟩
    obtain ⟨kb, nb, ob, lb⟩ := xb
    obtain ⟨pb, cb, heb, -⟩ := hxb.open_
    simp only [List.cons.injEq, and_true] at heb
    obtain ⟨rfl, rfl, rfl, rfl⟩ := heb
    have hl5 := ((hb4.putA hx4)).xlt
    have hx5 := hxb.widen (S' := XS w1.heap.size w5) fun b hb => ⟨Nat.lt_of_lt_of_le hl5 hb.1, hb.2⟩
    have hb5 := ((hb4.putA hx4)).call hM5 hg5
    have hsb := fit2_sh hfb
    have hfb := fit_mono dom (.mk kb nb ob lb) (m := 20) (by omega) hfb
    have htb : tb ≤ (ta) + 16 := htb
    clear hM5 hg5 hxb hl5 x0 x1 x2 x3 x4 x5 x6 x7 x8 x9 x10 x11 x12 zX lX
    have HX := hb5.hX
    have x0 := cell_of_heap (j := 0) HX
    have x1 := cell_of_heap (j := 1) HX
    have x2 := cell_of_heap (j := 2) HX
    have x3 := cell_of_heap (j := 3) HX
    have x4 := cell_of_heap (j := 4) HX
    have x5 := cell_of_heap (j := 5) HX
    have x6 := cell_of_heap (j := 6) HX
    have x7 := cell_of_heap (j := 7) HX
    have x8 := cell_of_heap (j := 8) HX
    have x9 := cell_of_heap (j := 9) HX
    have x10 := cell_of_heap (j := 10) HX
    have x11 := cell_of_heap (j := 11) HX
    have x12 := cell_of_heap (j := 12) HX
    simp at x0 x1 x2 x3 x4 x5 x6 x7 x8 x9 x10 x11 x12
    clear HX
    have zX := hb5.free
    have lX := hb5.xlt
    have hbF := (hb5.putB hx5)
    have hok : (okS vars dom (d + 1) (.mk 6 rn vn (.mk ka na oa la) (.mk kb nb ob lb) [] []) && shS (.mk 6 rn vn (.mk ka na oa la) (.mk kb nb ob lb) [] [])) = true := by
      rw [Bool.and_eq_true]
      constructor
      · have hnil : okL vars dom d [] = true := rfl
        rw [okS_succ, okF_mk]
        simp [partL, numL, oneL, h0, h1, h2, h3, h4, h5, hnil, rn0, rn4, vn0, vn1, hfa, hfb]
      · rw [shS_mk]
        simp [shL_nil, hsa, hsb]
    have HF := hid hbF
    clear hbF
    go_upto_region 30 with fail
    clear x0 x1 x2 x3 x4 x5 x6 x7 x8 x9 x10 x11 x12 zX lX
    have hbF := HF.out
    clear HF
    generalize hWF : World.setCell _ ⟨w1.heap.size, 10, none⟩ _ = WF at hbF ⊢
    have fin := hid (hbF.post (d := d) (t0 := t) (by decide) (WalkArith.wf_i64 (by omega)) (WalkArith.wf_i64 (by omega)) hok (by have hcn0 : cntL [] = 0 := rfl; first | omega | (simp [cntL]; omega) | simp [cntL]) (by omega))
    have hXX := hbF.hX
    have hRR := hbF.hR
    have x0 := cell_of_heap (j := 0) hXX
    have x1 := cell_of_heap (j := 1) hXX
    have x2 := cell_of_heap (j := 2) hXX
    have x3 := cell_of_heap (j := 3) hXX
    have x4 := cell_of_heap (j := 4) hXX
    have x5 := cell_of_heap (j := 5) hXX
    have x6 := cell_of_heap (j := 6) hXX
    have x7 := cell_of_heap (j := 7) hXX
    have x8 := cell_of_heap (j := 8) hXX
    have x9 := cell_of_heap (j := 9) hXX
    have x10 := cell_of_heap (j := 10) hXX
    have x11 := cell_of_heap (j := 11) hXX
    have x12 := cell_of_heap (j := 12) hXX
    have r0 := cell_of_heap (j := 0) hRR
    have r1 := cell_of_heap (j := 1) hRR
    have r2 := cell_of_heap (j := 2) hRR
    have r3 := cell_of_heap (j := 3) hRR
    have r4 := cell_of_heap (j := 4) hRR
    have r5 := cell_of_heap (j := 5) hRR
    have r6 := cell_of_heap (j := 6) hRR
    have r7 := cell_of_heap (j := 7) hRR
    have r8 := cell_of_heap (j := 8) hRR
    have r9 := cell_of_heap (j := 9) hRR
    have r10 := cell_of_heap (j := 10) hRR
    have r11 := cell_of_heap (j := 11) hRR
    have r12 := cell_of_heap (j := 12) hRR
    have zR : ∀ j, _ = false := fun j => unfrozen (j := j) hRR
    have lR := (Array.getElem?_eq_some_iff.1 hRR).1
    have lX := hbF.xlt
    have hR5 := set13_at hbF.hR (.int .i64 6) (.int .i64 rn) (.int .i64 vn) (.int .i64 ka) (.int .i64 na) (.int .u8 oa) (.slice pa la.length ca) (.int .i64 kb) (.int .i64 nb) (.int .u8 ob) (.slice pb lb.length cb) (.slice none 0 0) (.slice none 0 0)
    have g0 := hid (cell_of_heap (j := 0) hR5)
    have g1 := hid (cell_of_heap (j := 1) hR5)
    have g2 := hid (cell_of_heap (j := 2) hR5)
    have g3 := hid (cell_of_heap (j := 3) hR5)
    have g4 := hid (cell_of_heap (j := 4) hR5)
    have g5 := hid (cell_of_heap (j := 5) hR5)
    have g6 := hid (cell_of_heap (j := 6) hR5)
    have g7 := hid (cell_of_heap (j := 7) hR5)
    have g8 := hid (cell_of_heap (j := 8) hR5)
    have g9 := hid (cell_of_heap (j := 9) hR5)
    have g10 := hid (cell_of_heap (j := 10) hR5)
    have g11 := hid (cell_of_heap (j := 11) hR5)
    have g12 := hid (cell_of_heap (j := 12) hR5)
    simp only [z13] at r0 r1 r2 r3 r4 r5 r6 r7 r8 r9 r10 r11 r12
    simp at x0 x1 x2 x3 x4 x5 x6 x7 x8 x9 x10 x11 x12 r0 r1 r2 r3 r4 r5 r6 r7 r8 r9 r10 r11 r12
    clear hXX hRR hR5 hbF hok hWF
    go_wp2_with fail
    refine bodyPost_ret (v := .agg #[.int .i64 6, .int .i64 rn, .int .i64 vn, .int .i64 ka, .int .i64 na, .int .u8 oa, .slice pa la.length ca, .int .i64 kb, .int .i64 nb, .int .u8 ob, .slice pb lb.length cb, .slice none 0 0, .slice none 0 0]) ?_ rfl fin.out
    have g0 := g0.out
    have g1 := g1.out
    have g2 := g2.out
    have g3 := g3.out
    have g4 := g4.out
    have g5 := g5.out
    have g6 := g6.out
    have g7 := g7.out
    have g8 := g8.out
    have g9 := g9.out
    have g10 := g10.out
    have g11 := g11.out
    have g12 := g12.out
    unfold set13 at g0 g1 g2 g3 g4 g5 g6 g7 g8 g9 g10 g11 g12
    simp [results, Tryz.results50, go_sem, g0, g1, g2, g3, g4, g5, g6, g7, g8, g9, g10, g11, g12]
  · go_wp2_with fail
    refine (pick_any B m (t + 1) 2 _ (hb0).mkr (by omega) (by omega)).mono ?_
    rintro e w2 ⟨rn, rfl, rn0, rn1, hM2, hg2⟩
    have hb2 := (hb0).call hM2 hg2
    clear hM2 hg2
    have HX := hb2.hX
    have x0 := cell_of_heap (j := 0) HX
    have x1 := cell_of_heap (j := 1) HX
    have x2 := cell_of_heap (j := 2) HX
    have x3 := cell_of_heap (j := 3) HX
    have x4 := cell_of_heap (j := 4) HX
    have x5 := cell_of_heap (j := 5) HX
    have x6 := cell_of_heap (j := 6) HX
    have x7 := cell_of_heap (j := 7) HX
    have x8 := cell_of_heap (j := 8) HX
    have x9 := cell_of_heap (j := 9) HX
    have x10 := cell_of_heap (j := 10) HX
    have x11 := cell_of_heap (j := 11) HX
    have x12 := cell_of_heap (j := 12) HX
    simp at x0 x1 x2 x3 x4 x5 x6 x7 x8 x9 x10 x11 x12
    clear HX
    have zX := hb2.free
    have lX := hb2.xlt
    have rn4 : rn < 4 := by omega
    go_wp2_with fail
    refine (pick_any B m (t + 1 + 1) vars _ ((hb2.putR rn)).mkr (by omega) (by omega)).mono ?_
    rintro e w3 ⟨vn, rfl, vn0, vn1, hM3, hg3⟩
    have hb3 := ((hb2.putR rn)).call hM3 hg3
    clear hM3 hg3 x0 x1 x2 x3 x4 x5 x6 x7 x8 x9 x10 x11 x12 zX lX
    have HX := hb3.hX
    have x0 := cell_of_heap (j := 0) HX
    have x1 := cell_of_heap (j := 1) HX
    have x2 := cell_of_heap (j := 2) HX
    have x3 := cell_of_heap (j := 3) HX
    have x4 := cell_of_heap (j := 4) HX
    have x5 := cell_of_heap (j := 5) HX
    have x6 := cell_of_heap (j := 6) HX
    have x7 := cell_of_heap (j := 7) HX
    have x8 := cell_of_heap (j := 8) HX
    have x9 := cell_of_heap (j := 9) HX
    have x10 := cell_of_heap (j := 10) HX
    have x11 := cell_of_heap (j := 11) HX
    have x12 := cell_of_heap (j := 12) HX
    simp at x0 x1 x2 x3 x4 x5 x6 x7 x8 x9 x10 x11 x12
    clear HX
    have zX := hb3.free
    have lX := hb3.xlt
    go_wp2_with fail
    refine (made_any B m dom hdom hdom2 1 1 (t + 1 + 1 + 1) _ rfl ((hb3.putV vn)).mkr (by omega)).mono ?_
    rintro e w4 ⟨a0, a1, a2, a3, xa, ta, rfl, hxa, hfa, hM4, hta, hg4⟩
    obtain ⟨ka, na, oa, la⟩ := xa
    obtain ⟨pa, ca, hea, -⟩ := hxa.open_
    simp only [List.cons.injEq, and_true] at hea
    obtain ⟨rfl, rfl, rfl, rfl⟩ := hea
    have hl4 := ((hb3.putV vn)).xlt
    have hx4 := hxa.widen (S' := XS w1.heap.size w4) fun b hb => ⟨Nat.lt_of_lt_of_le hl4 hb.1, hb.2⟩
    have hb4 := ((hb3.putV vn)).call hM4 hg4
    have hsa := fit2_sh hfa
    have hfa := fit_mono dom (.mk ka na oa la) (m := 20) (by omega) hfa
    have hta : ta ≤ (t + 1 + 1 + 1) + 16 := hta
    clear hM4 hg4 hxa hl4 x0 x1 x2 x3 x4 x5 x6 x7 x8 x9 x10 x11 x12 zX lX
    have HX := hb4.hX
    have x0 := cell_of_heap (j := 0) HX
    have x1 := cell_of_heap (j := 1) HX
    have x2 := cell_of_heap (j := 2) HX
    have x3 := cell_of_heap (j := 3) HX
    have x4 := cell_of_heap (j := 4) HX
    have x5 := cell_of_heap (j := 5) HX
    have x6 := cell_of_heap (j := 6) HX
    have x7 := cell_of_heap (j := 7) HX
    have x8 := cell_of_heap (j := 8) HX
    have x9 := cell_of_heap (j := 9) HX
    have x10 := cell_of_heap (j := 10) HX
    have x11 := cell_of_heap (j := 11) HX
    have x12 := cell_of_heap (j := 12) HX
    simp at x0 x1 x2 x3 x4 x5 x6 x7 x8 x9 x10 x11 x12
    clear HX
    have zX := hb4.free
    have lX := hb4.xlt
    go_wp2_with fail
    refine (made_any B m dom hdom hdom2 1 1 (ta) _ rfl ((hb4.putA hx4)).mkr (by omega)).mono ?_
    rintro e w5 ⟨b0, b1, b2, b3, xb, tb, rfl, hxb, hfb, hM5, htb, hg5⟩
    obtain ⟨kb, nb, ob, lb⟩ := xb
    obtain ⟨pb, cb, heb, -⟩ := hxb.open_
    simp only [List.cons.injEq, and_true] at heb
    obtain ⟨rfl, rfl, rfl, rfl⟩ := heb
    have hl5 := ((hb4.putA hx4)).xlt
    have hx5 := hxb.widen (S' := XS w1.heap.size w5) fun b hb => ⟨Nat.lt_of_lt_of_le hl5 hb.1, hb.2⟩
    have hb5 := ((hb4.putA hx4)).call hM5 hg5
    have hsb := fit2_sh hfb
    have hfb := fit_mono dom (.mk kb nb ob lb) (m := 20) (by omega) hfb
    have htb : tb ≤ (ta) + 16 := htb
    clear hM5 hg5 hxb hl5 x0 x1 x2 x3 x4 x5 x6 x7 x8 x9 x10 x11 x12 zX lX
    have HX := hb5.hX
    have x0 := cell_of_heap (j := 0) HX
    have x1 := cell_of_heap (j := 1) HX
    have x2 := cell_of_heap (j := 2) HX
    have x3 := cell_of_heap (j := 3) HX
    have x4 := cell_of_heap (j := 4) HX
    have x5 := cell_of_heap (j := 5) HX
    have x6 := cell_of_heap (j := 6) HX
    have x7 := cell_of_heap (j := 7) HX
    have x8 := cell_of_heap (j := 8) HX
    have x9 := cell_of_heap (j := 9) HX
    have x10 := cell_of_heap (j := 10) HX
    have x11 := cell_of_heap (j := 11) HX
    have x12 := cell_of_heap (j := 12) HX
    simp at x0 x1 x2 x3 x4 x5 x6 x7 x8 x9 x10 x11 x12
    clear HX
    have zX := hb5.free
    have lX := hb5.xlt
    have hbF := (hb5.putB hx5)
    have hok : (okS vars dom (d + 1) (.mk 6 rn vn (.mk ka na oa la) (.mk kb nb ob lb) [] []) && shS (.mk 6 rn vn (.mk ka na oa la) (.mk kb nb ob lb) [] [])) = true := by
      rw [Bool.and_eq_true]
      constructor
      · have hnil : okL vars dom d [] = true := rfl
        rw [okS_succ, okF_mk]
        simp [partL, numL, oneL, h0, h1, h2, h3, h4, h5, hnil, rn0, rn4, vn0, vn1, hfa, hfb]
      · rw [shS_mk]
        simp [shL_nil, hsa, hsb]
    have HF := hid hbF
    clear hbF
    go_upto_region 30 with fail
    clear x0 x1 x2 x3 x4 x5 x6 x7 x8 x9 x10 x11 x12 zX lX
    have hbF := HF.out
    clear HF
    generalize hWF : World.setCell _ ⟨w1.heap.size, 10, none⟩ _ = WF at hbF ⊢
    have fin := hid (hbF.post (d := d) (t0 := t) (by decide) (WalkArith.wf_i64 (by omega)) (WalkArith.wf_i64 (by omega)) hok (by have hcn0 : cntL [] = 0 := rfl; first | omega | (simp [cntL]; omega) | simp [cntL]) (by omega))
    have hXX := hbF.hX
    have hRR := hbF.hR
    have x0 := cell_of_heap (j := 0) hXX
    have x1 := cell_of_heap (j := 1) hXX
    have x2 := cell_of_heap (j := 2) hXX
    have x3 := cell_of_heap (j := 3) hXX
    have x4 := cell_of_heap (j := 4) hXX
    have x5 := cell_of_heap (j := 5) hXX
    have x6 := cell_of_heap (j := 6) hXX
    have x7 := cell_of_heap (j := 7) hXX
    have x8 := cell_of_heap (j := 8) hXX
    have x9 := cell_of_heap (j := 9) hXX
    have x10 := cell_of_heap (j := 10) hXX
    have x11 := cell_of_heap (j := 11) hXX
    have x12 := cell_of_heap (j := 12) hXX
    have r0 := cell_of_heap (j := 0) hRR
    have r1 := cell_of_heap (j := 1) hRR
    have r2 := cell_of_heap (j := 2) hRR
    have r3 := cell_of_heap (j := 3) hRR
    have r4 := cell_of_heap (j := 4) hRR
    have r5 := cell_of_heap (j := 5) hRR
    have r6 := cell_of_heap (j := 6) hRR
    have r7 := cell_of_heap (j := 7) hRR
    have r8 := cell_of_heap (j := 8) hRR
    have r9 := cell_of_heap (j := 9) hRR
    have r10 := cell_of_heap (j := 10) hRR
    have r11 := cell_of_heap (j := 11) hRR
    have r12 := cell_of_heap (j := 12) hRR
    have zR : ∀ j, _ = false := fun j => unfrozen (j := j) hRR
    have lR := (Array.getElem?_eq_some_iff.1 hRR).1
    have lX := hbF.xlt
    have hR5 := set13_at hbF.hR (.int .i64 6) (.int .i64 rn) (.int .i64 vn) (.int .i64 ka) (.int .i64 na) (.int .u8 oa) (.slice pa la.length ca) (.int .i64 kb) (.int .i64 nb) (.int .u8 ob) (.slice pb lb.length cb) (.slice none 0 0) (.slice none 0 0)
    have g0 := hid (cell_of_heap (j := 0) hR5)
    have g1 := hid (cell_of_heap (j := 1) hR5)
    have g2 := hid (cell_of_heap (j := 2) hR5)
    have g3 := hid (cell_of_heap (j := 3) hR5)
    have g4 := hid (cell_of_heap (j := 4) hR5)
    have g5 := hid (cell_of_heap (j := 5) hR5)
    have g6 := hid (cell_of_heap (j := 6) hR5)
    have g7 := hid (cell_of_heap (j := 7) hR5)
    have g8 := hid (cell_of_heap (j := 8) hR5)
    have g9 := hid (cell_of_heap (j := 9) hR5)
    have g10 := hid (cell_of_heap (j := 10) hR5)
    have g11 := hid (cell_of_heap (j := 11) hR5)
    have g12 := hid (cell_of_heap (j := 12) hR5)
    simp only [z13] at r0 r1 r2 r3 r4 r5 r6 r7 r8 r9 r10 r11 r12
    simp at x0 x1 x2 x3 x4 x5 x6 x7 x8 x9 x10 x11 x12 r0 r1 r2 r3 r4 r5 r6 r7 r8 r9 r10 r11 r12
    clear hXX hRR hR5 hbF hok hWF
    go_wp2_with fail
    refine bodyPost_ret (v := .agg #[.int .i64 6, .int .i64 rn, .int .i64 vn, .int .i64 ka, .int .i64 na, .int .u8 oa, .slice pa la.length ca, .int .i64 kb, .int .i64 nb, .int .u8 ob, .slice pb lb.length cb, .slice none 0 0, .slice none 0 0]) ?_ rfl fin.out
    have g0 := g0.out
    have g1 := g1.out
    have g2 := g2.out
    have g3 := g3.out
    have g4 := g4.out
    have g5 := g5.out
    have g6 := g6.out
    have g7 := g7.out
    have g8 := g8.out
    have g9 := g9.out
    have g10 := g10.out
    have g11 := g11.out
    have g12 := g12.out
    unfold set13 at g0 g1 g2 g3 g4 g5 g6 g7 g8 g9 g10 g11 g12
    simp [results, Tryz.results50, go_sem, g0, g1, g2, g3, g4, g5, g6, g7, g8, g9, g10, g11, g12]

end Go.Proofs.YtphlbbnmligadaaGreatDoor
