/- The closure that recovers, of Parse. -/
import Derived.Test.YtogopcejapklgaaGreatDoorPrJ
import Derived.Defers
import Derived.Recover
import Derived.BigRegion
namespace Go.Proofs.YtogopcejapklgaaGreatDoor
open Go.RowKit

theorem ta_no (w : World) : (Instr.typeAssert .nilIface 20 56 true).run Tryz.prog w = .ok (.tuple #[.agg #[.int .i64 0, .int .i64 0], .bool false]) w := by kernel_rfl
theorem ta_yes (er : Int) (i : Int) (w : World) : (Instr.typeAssert (.iface 56 (.agg #[.int .i64 er, .int .i64 i])) 20 56 true).run Tryz.prog w = .ok (.tuple #[.agg #[.int .i64 er, .int .i64 i], .bool true]) w := by kernel_rfl

/-- The three results are written. -/
structure Three (w w' : World) (p q r : Nat) (er i : Int) : Prop where
  os : w'.os = w.os
  tape : w'.tape = w.tape
  output : w'.output = w.output
  size : w.heap.size ≤ w'.heap.size
  block : ∀ b, b < w.heap.size → b ≠ p → b ≠ q → b ≠ r → w'.heap[b]? = w.heap[b]?
  f0 : w'.cell? ⟨p, 0, none⟩ = some (.int .i64 0) ∧ w'.cell? ⟨p, 1, none⟩ = some (.int .i64 0) ∧ w'.cell? ⟨p, 2, none⟩ = some (.int .i64 0) ∧ w'.cell? ⟨p, 3, none⟩ = some (.int .i64 0) ∧ w'.cell? ⟨p, 4, none⟩ = some (.int .i64 0) ∧ w'.cell? ⟨p, 5, none⟩ = some (.slice none 0 0)
  e0 : w'.cell? ⟨q, 0, none⟩ = some (.int .i64 er)
  a0 : w'.cell? ⟨r, 0, none⟩ = some (.int .i64 i)
def CatchPost (w : World) (p q r : Nat) (er i : Int) (older : List PanicEntry) (e : Ending) (u' : FrameMode) (w' : World) : Prop :=
  e = .returned (.tuple #[]) ∧ u' = .panicking ({ v := .iface 56 (.agg #[.int .i64 er, .int .i64 i]), recovered := true } :: older) ∧ Three w w' p q r er i

def three (W : World) (p q r : Nat) (er i : Int) : World :=
  (((((((W.setCell ⟨p, 0, none⟩ (.int .i64 0)).setCell ⟨p, 1, none⟩ (.int .i64 0)).setCell ⟨p, 2, none⟩ (.int .i64 0)).setCell ⟨p, 3, none⟩ (.int .i64 0)).setCell ⟨p, 4, none⟩ (.int .i64 0)).setCell ⟨p, 5, none⟩ (.slice none 0 0)).setCell ⟨q, 0, none⟩ (.int .i64 er)).setCell ⟨r, 0, none⟩ (.int .i64 i)
theorem one_set {W : World} {q : Nat} {x v : Value} {T : TypeId} (h : W.heap[q]? = some (.cells #[x] T (0, 0))) : (W.setCell ⟨q, 0, none⟩ v).heap[q]? = some (.cells #[v] T (0, 0)) := by simp [World.setCell, Array.getElem?_modify, h]
theorem three_fin {w W : World} {p q r : Nat} {er i : Int} (hG : w.grownBy W none) (hpq : p ≠ q) (hpr : p ≠ r) (hqr : q ≠ r) {u0 u1 u2 u3 u4 u5 v0 v1 : Value} {T1 T2 T3 : TypeId}
    (h0 : W.heap[p]? = some (.cells #[u0, u1, u2, u3, u4, u5] T1 (0, 0))) (h6 : W.heap[q]? = some (.cells #[v0] T2 (0, 0))) (h7 : W.heap[r]? = some (.cells #[v1] T3 (0, 0))) : Three w (three W p q r er i).drew p q r er i := by
  have b0 := res6 (c0 := .int .i64 0) (c1 := .int .i64 0) (c2 := .int .i64 0) (c3 := .int .i64 0) (c4 := .int .i64 0) (c5 := .slice none 0 0) h0
  have g6 := six_grown W p (.int .i64 0) (.int .i64 0) (.int .i64 0) (.int .i64 0) (.int .i64 0) (.slice none 0 0)
  have e : three W p q r er i = (((((((W.setCell ⟨p, 0, none⟩ (.int .i64 0)).setCell ⟨p, 1, none⟩ (.int .i64 0)).setCell ⟨p, 2, none⟩ (.int .i64 0)).setCell ⟨p, 3, none⟩ (.int .i64 0)).setCell ⟨p, 4, none⟩ (.int .i64 0)).setCell ⟨p, 5, none⟩ (.slice none 0 0)).setCell ⟨q, 0, none⟩ (.int .i64 er)).setCell ⟨r, 0, none⟩ (.int .i64 i) := rfl
  have hs6 : ((((((W.setCell ⟨p, 0, none⟩ (.int .i64 0)).setCell ⟨p, 1, none⟩ (.int .i64 0)).setCell ⟨p, 2, none⟩ (.int .i64 0)).setCell ⟨p, 3, none⟩ (.int .i64 0)).setCell ⟨p, 4, none⟩ (.int .i64 0)).setCell ⟨p, 5, none⟩ (.slice none 0 0)).heap.size = W.heap.size := by simp
  generalize (((((W.setCell ⟨p, 0, none⟩ (.int .i64 0)).setCell ⟨p, 1, none⟩ (.int .i64 0)).setCell ⟨p, 2, none⟩ (.int .i64 0)).setCell ⟨p, 3, none⟩ (.int .i64 0)).setCell ⟨p, 4, none⟩ (.int .i64 0)).setCell ⟨p, 5, none⟩ (.slice none 0 0) = X at *
  have hq : q < W.heap.size := (Array.getElem?_eq_some_iff.1 h6).1
  have hr : r < W.heap.size := (Array.getElem?_eq_some_iff.1 h7).1
  have q1 : X.heap[q]? = _ := (g6.block q hq (by simp; omega)).trans h6
  have r1 : X.heap[r]? = _ := (g6.block r hr (by simp; omega)).trans h7
  have q2 := one_set (v := .int .i64 er) q1
  have r2 : (X.setCell ⟨q, 0, none⟩ (.int .i64 er)).heap[r]? = _ := (Below.heap_setCell _ _ _ _ (by simp; omega)).trans r1
  have p2 : (X.setCell ⟨q, 0, none⟩ (.int .i64 er)).heap[p]? = _ := (Below.heap_setCell _ _ _ _ (by simp; omega)).trans b0
  have hs7 : (X.setCell ⟨q, 0, none⟩ (.int .i64 er)).heap.size = X.heap.size := by simp
  have hb7 : ∀ b, b ≠ q → (X.setCell ⟨q, 0, none⟩ (.int .i64 er)).heap[b]? = X.heap[b]? := fun b hb => Below.heap_setCell _ _ _ _ (by simpa using hb)
  have ho7 : (X.setCell ⟨q, 0, none⟩ (.int .i64 er)).os = X.os ∧ (X.setCell ⟨q, 0, none⟩ (.int .i64 er)).tape = X.tape ∧ (X.setCell ⟨q, 0, none⟩ (.int .i64 er)).output = X.output := ⟨rfl, rfl, rfl⟩
  generalize X.setCell ⟨q, 0, none⟩ (.int .i64 er) = Y at *
  have r3 := one_set (v := .int .i64 i) r2
  have q3 : (Y.setCell ⟨r, 0, none⟩ (.int .i64 i)).heap[q]? = _ := (Below.heap_setCell _ _ _ _ (by simp; omega)).trans q2
  have p3 : (Y.setCell ⟨r, 0, none⟩ (.int .i64 i)).heap[p]? = _ := (Below.heap_setCell _ _ _ _ (by simp; omega)).trans p2
  have hs8 : (Y.setCell ⟨r, 0, none⟩ (.int .i64 i)).heap.size = Y.heap.size := by simp
  have hb8 : ∀ b, b ≠ r → (Y.setCell ⟨r, 0, none⟩ (.int .i64 i)).heap[b]? = Y.heap[b]? := fun b hb => Below.heap_setCell _ _ _ _ (by simpa using hb)
  have ho8 : (Y.setCell ⟨r, 0, none⟩ (.int .i64 i)).os = Y.os ∧ (Y.setCell ⟨r, 0, none⟩ (.int .i64 i)).tape = Y.tape ∧ (Y.setCell ⟨r, 0, none⟩ (.int .i64 i)).output = Y.output := ⟨rfl, rfl, rfl⟩
  rw [e]
  generalize Y.setCell ⟨r, 0, none⟩ (.int .i64 i) = Z at *
  have d : ∀ b o, Z.drew.cell? ⟨b, o, none⟩ = Z.cell? ⟨b, o, none⟩ := fun _ _ => rfl
  refine ⟨ho8.1.trans (ho7.1.trans (g6.os.trans hG.os)), ho8.2.1.trans (ho7.2.1.trans (g6.tape.trans hG.tape)), ho8.2.2.trans (ho7.2.2.trans (g6.output.trans hG.output)), ?_, fun b hlt e1 e2 e3 => ?_, ⟨?_, ?_, ?_, ?_, ?_, ?_⟩, ?_, ?_⟩
  · have := hG.size
    show _ ≤ Z.heap.size
    omega
  · show Z.heap[b]? = _
    rw [hb8 b e3, hb7 b e2, g6.block b (Nat.lt_of_lt_of_le hlt hG.size) (by simpa using e1)]
    exact hG.block b hlt (by simp)
  · rw [d, cell_of_heap p3]; rfl
  · rw [d, cell_of_heap p3]; rfl
  · rw [d, cell_of_heap p3]; rfl
  · rw [d, cell_of_heap p3]; rfl
  · rw [d, cell_of_heap p3]; rfl
  · rw [d, cell_of_heap p3]; rfl
  · rw [d, cell_of_heap q3]; rfl
  · rw [d, cell_of_heap r3]; rfl

set_option maxRecDepth 100000 in
set_option maxHeartbeats 4000000 in
theorem catch_wrong (p q r : Nat) (er i : Int) (u0 u1 u2 u3 u4 u5 v0 v1 : Value) (T1 T2 T3 : TypeId) (older : List PanicEntry) (w : World) (hpq : p ≠ q) (hpr : p ≠ r) (hqr : q ≠ r)
    (h0 : w.heap[p]? = some (.cells #[u0, u1, u2, u3, u4, u5] T1 (0, 0))) (h6 : w.heap[q]? = some (.cells #[v0] T2 (0, 0))) (h7 : w.heap[r]? = some (.cells #[v1] T3 (0, 0))) :
    CallsD Tryz.prog 25 #[.pointer (some ⟨p, 0, none⟩), .pointer (some ⟨q, 0, none⟩), .pointer (some ⟨r, 0, none⟩)] (.panicking ({ v := .iface 56 (.agg #[.int .i64 er, .int .i64 i]), recovered := false } :: older)) w (CatchPost w p q r er i older) := by
  have hp : p < w.heap.size := (Array.getElem?_eq_some_iff.1 h0).1
  have hq : q < w.heap.size := (Array.getElem?_eq_some_iff.1 h6).1
  have hr : r < w.heap.size := (Array.getElem?_eq_some_iff.1 h7).1
  refine callsD_of_wpS Tryz.func25 rfl fun c₀ cs hu => ?_
  apply wpS_seq
  apply wpS_region
  simp [wpOpsS, go_sem, recoverD, hu, Tryz.ntmps25, Exit.thenS, ta_yes]
  apply wpS_seq
  apply wpS_region
  simp [wpOpsS, go_sem, Exit.thenS]
  refine wpS_cond (t := true) (by simp [Act.eval, Array.replicate]) ?_
  simp only [if_true]
  refine wpS_of_wp ?_
  simp [Array.replicate]
  generalize hW : World.alloc w _ = W0
  have c0 : W0.cell? ⟨w.heap.size, 0, none⟩ = some (.int .i64 er) := by subst hW; go_simp
  have c1 : W0.cell? ⟨w.heap.size, 1, none⟩ = some (.int .i64 i) := by subst hW; go_simp
  have H0 : Hid (W0.heap[p]? = some (.cells #[u0, u1, u2, u3, u4, u5] T1 (0, 0))) := by subst hW; exact (Below.heap_alloc _ _ _ hp).trans h0
  have H6 : Hid (W0.heap[q]? = some (.cells #[v0] T2 (0, 0))) := by subst hW; exact (Below.heap_alloc _ _ _ hq).trans h6
  have H7 : Hid (W0.heap[r]? = some (.cells #[v1] T3 (0, 0))) := by subst hW; exact (Below.heap_alloc _ _ _ hr).trans h7
  clear h0 h6 h7
  have h0 := cell_of_heap (j := 0) H0.out
  have h1 := cell_of_heap (j := 1) H0.out
  have h2 := cell_of_heap (j := 2) H0.out
  have h3 := cell_of_heap (j := 3) H0.out
  have h4 := cell_of_heap (j := 4) H0.out
  have h5 := cell_of_heap (j := 5) H0.out
  have h6 := cell_of_heap (j := 0) H6.out
  have h7 := cell_of_heap (j := 0) H7.out
  simp at h0 h1 h2 h3 h4 h5 h6 h7
  have z0 : ∀ o, W0.frozen? ⟨p, o, none⟩ = false := fun o => unfrozen H0.out
  have z1 : ∀ o, W0.frozen? ⟨q, o, none⟩ = false := fun o => unfrozen H6.out
  have z2 : ∀ o, W0.frozen? ⟨r, o, none⟩ = false := fun o => unfrozen H7.out
  have hG : Hid (w.grownBy W0 none) := by subst hW; exact World.grownBy_alloc w _ none
  have k0 : p ≠ w.heap.size := by omega
  have k1 : q ≠ w.heap.size := by omega
  have k2 : r ≠ w.heap.size := by omega
  clear hW
  generalize hn : w.heap.size = n at *
  have Hn := hid hn
  clear hn
  go_region_held3 (fun W => W.cell? ⟨n, 0, none⟩ = some (.int .i64 er) ∧ W.cell? ⟨n, 1, none⟩ = some (.int .i64 i)) (go_keep) (fail)
  simp [bodyPostS, results, Tryz.results25]
  exact ⟨rfl, rfl, three_fin hG.out hpq hpr hqr H0.out H6.out H7.out⟩
set_option maxRecDepth 100000 in
theorem catch_idle (p q r : Nat) (w : World) :
    CallsD Tryz.prog 25 #[.pointer (some ⟨p, 0, none⟩), .pointer (some ⟨q, 0, none⟩), .pointer (some ⟨r, 0, none⟩)] .returning w fun e u' w' =>
      e = .returned (.tuple #[]) ∧ u' = .returning ∧ w' = w.alloc (.cells #[.int .i64 0, .int .i64 0] 56) := by
  refine callsD_of_wpS Tryz.func25 rfl fun c₀ cs hu => ?_
  apply wpS_seq
  apply wpS_region
  simp [wpOpsS, go_sem, recoverD, hu, Tryz.ntmps25, Exit.thenS, ta_no]
  apply wpS_seq
  apply wpS_region
  simp [wpOpsS, go_sem, Exit.thenS]
  refine wpS_cond (t := false) (by simp [Act.eval, Array.replicate]) ?_
  simp only [Bool.false_eq_true, if_false]
  refine wpS_of_wp (wp_skip ?_)
  cases c₀
  simp_all [bodyPostS, results, Tryz.results25]
end Go.Proofs.YtogopcejapklgaaGreatDoor
