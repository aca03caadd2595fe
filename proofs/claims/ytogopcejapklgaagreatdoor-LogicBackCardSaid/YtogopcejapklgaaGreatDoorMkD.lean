/- Made: a formula by numbers; it may be. -/
import Derived.Test.YtogopcejapklgaaGreatDoorMkC
namespace Go.Proofs.YtogopcejapklgaaGreatDoor
open Go Go.RowKit

/-- What Made leaves. -/
def MadeP (w : World) (e : Ending) (w' : World) : Prop :=
  ∃ (f : Fm) (a : Option Addr) (cap : Nat), e = .returned (.agg #[.int .i64 f.kind, .int .i64 f.prop.k, .int .i64 f.prop.t, .int .i64 f.prop.a, .int .i64 f.prop.n, .slice a f.kids.length cap]) ∧
    okD 6 f ∧ f.size < 64 ∧ FmIn w' (In_ w') (fmC f.kind f.prop a f.kids.length cap) f ∧ Below w.heap.size w w'

set_option maxRecDepth 100000 in
set_option maxHeartbeats 8000000 in
theorem made_any (N : Nums) (w : World) (hl : ByIn w (In_ w) N.a N.m N.cap N.cs) :
    Calls Tryz.prog 6 #[.slice N.a N.m N.cap, .int .i64 20] w (MadeP w) := by
  have Hl := hid hl
  clear hl
  have hmf : ∀ (fn : Fn) (first cap : Array Value) (w : World), (Instr.makeFunc fn first cap).run Tryz.prog w = .ok (.func fn first cap) w := fun _ _ _ _ => rfl
  go_enter Tryz.func6, Tryz.ntmps6
  go_upto_region 5 with fail
  generalize hW : World.alloc _ _ = W0
  have hz0 : W0.heap.size = w.heap.size + 6 := by subst hW; simp
  have HB0 : Hid (Below w.heap.size w W0) := by
    subst hW
    exact hid ((((((Below.refl _ _).alloc (by first | (simp; done) | (simp; omega)) _).alloc (by first | (simp; done) | (simp; omega)) _).alloc (by first | (simp; done) | (simp; omega)) _).alloc (by first | (simp; done) | (simp; omega)) _).alloc (by first | (simp; done) | (simp; omega)) _ |>.alloc (by first | (simp; done) | (simp; omega)) _)
  have HR0 : Hid (W0.heap[w.heap.size + 2]? = some (fmO 0 Pr.zero (.slice none 0 0))) := by
    subst hW
    exact hid ((Below.heap_alloc _ _ _ (by simp)).trans ((Below.heap_alloc _ _ _ (by simp)).trans ((Below.heap_alloc _ _ _ (by simp)).trans (alloc_at (by simp)))))
  have HM : Hid (MSt W0 w.heap.size N 0 20) := by
    have hby : ByIn W0 (· < w.heap.size) N.a N.m N.cap N.cs := Hl.out.keep fun b o hb => HB0.out.cell (p := ⟨b, o, none⟩) hb
    subst hW
    refine hid ⟨?_, ?_, ?_, ?_, ?_, ?_, ?_, hby, by omega, by omega, by omega⟩
    · show _ = _; go_simp
    · show _ = _; go_simp
    · show _ = _; go_simp
    · show _ = _; go_simp
    · show _ = _; go_simp
    · show _ = _; go_simp
    · show _ = _; go_simp
  clear hW Hl
  have q5 : W0.cell? ⟨w.heap.size + 1 + 1 + 1 + 1 + 1, 0, none⟩ = some (makeV w.heap.size) := HM.out.pm
  have hmk : Calls Tryz.prog 18 #[.int .i64 5, .pointer (some ⟨w.heap.size + 4, 0, none⟩), .pointer (some ⟨w.heap.size + 3, 0, none⟩), .pointer (some ⟨w.heap.size, 0, none⟩), .pointer (some ⟨w.heap.size + 1, 0, none⟩), .pointer (some ⟨w.heap.size + 5, 0, none⟩)] W0 (MkP W0 w.heap.size N 0 20 5) :=
    make_any 5 (by omega) w.heap.size N 0 20 W0 HM.out (by decide)
  have Hmk := hid hmk
  clear hmk
  go_wp2_with (first
    | (go_at_call 18
       with_reducible refine Hmk.out.mono ?_
       rintro e w1 ⟨f, a, cap, c2, t2, rfl, hok, hsz, hf, -, -, -, hbu⟩
       have hR := (hbu.block (w.heap.size + 2) (by omega) (by omega) (by omega)).trans HR0.out
       obtain ⟨z9, zf, z0, z1, z2, z3, z4, z5⟩ := fmO_cells hR
       have z9 : w.heap.size + 1 + 1 < w1.heap.size := z9
       have zf : ∀ o, w1.frozen? ⟨w.heap.size + 1 + 1, o, none⟩ = false := zf
       have z0 : w1.cell? ⟨w.heap.size + 1 + 1, 0, none⟩ = _ := z0
       have z1 : w1.cell? ⟨w.heap.size + 1 + 1, 1, none⟩ = _ := z1
       have z2 : w1.cell? ⟨w.heap.size + 1 + 1, 2, none⟩ = _ := z2
       have z3 : w1.cell? ⟨w.heap.size + 1 + 1, 3, none⟩ = _ := z3
       have z4 : w1.cell? ⟨w.heap.size + 1 + 1, 4, none⟩ = _ := z4
       have z5 : w1.cell? ⟨w.heap.size + 1 + 1, 5, none⟩ = _ := z5
       have HF := hid hf
       have HO := hid (And.intro hok hsz)
       have HU := hid hbu
       have HR := hid hR
       clear hok hsz hf hbu hR)
    | fail)
  have hr6 := res6 (c0 := .int .i64 f.kind) (c1 := .int .i64 f.prop.k) (c2 := .int .i64 f.prop.t) (c3 := .int .i64 f.prop.a) (c4 := .int .i64 f.prop.n) (c5 := .slice a f.kids.length cap) HR.out
  have r0 : _ = _ := cell_of_heap (j := 0) hr6
  have r1 : _ = _ := cell_of_heap (j := 1) hr6
  have r2 : _ = _ := cell_of_heap (j := 2) hr6
  have r3 : _ = _ := cell_of_heap (j := 3) hr6
  have r4 : _ = _ := cell_of_heap (j := 4) hr6
  have r5 : _ = _ := cell_of_heap (j := 5) hr6
  simp at r0 r1 r2 r3 r4 r5
  refine bodyPost_ret (v := .agg #[.int .i64 f.kind, .int .i64 f.prop.k, .int .i64 f.prop.t, .int .i64 f.prop.a, .int .i64 f.prop.n, .slice a f.kids.length cap]) (by simp [results, Tryz.results6, go_sem, r0, r1, r2, r3, r4, r5]) rfl ?_
  have hg := six_grown w1 (w.heap.size + 2) (.int .i64 f.kind) (.int .i64 f.prop.k) (.int .i64 f.prop.t) (.int .i64 f.prop.a) (.int .i64 f.prop.n) (.slice a f.kids.length cap)
  have hs := hg.size
  have hu := HU.out.size
  refine ⟨f, a, cap, rfl, HO.out.1, HO.out.2, (HF.out.keep fun b o hb => World.cell?_of_block (w := w1) (a := ⟨b, o, none⟩) (hg.block b hb.2 (by have := hb.1; simp; omega))).widen fun b hb => Nat.lt_of_lt_of_le hb.2 hs, ?_⟩
  exact ⟨hg.os.trans (HU.out.os.trans HB0.out.os), hg.tape.trans (HU.out.tape.trans HB0.out.tape), hg.output.trans (HU.out.output.trans HB0.out.output), Nat.le_trans (by omega : w.heap.size ≤ w1.heap.size) hs,
    fun b hb => (hg.block b (by omega) (by simp; omega)).trans ((HU.out.block b (by omega) (by omega) (by omega)).trans (HB0.out.block b hb))⟩
end Go.Proofs.YtogopcejapklgaaGreatDoor
