/- The parser takes an atom behind its word. -/
import Derived.Test.YtogopcejapklgaaGreatDoorPrD
import Derived.OneCell
namespace Go.Proofs.YtogopcejapklgaaGreatDoor
open Go.RowKit

def AtomPost (w : World) (P : Nat) (k : Int) (L : List Tok) (c : Int) (e : Ending) (w' : World) : Prop :=
  match numsQ (offs k).length L with
  | .ok (r, L2) => e = .returned (.agg #[.int .i64 3, .int .i64 (ofP k r).k, .int .i64 (ofP k r).t, .int .i64 (ofP k r).a, .int .i64 (ofP k r).n, .slice none 0 0]) ∧ PBox w' P L2 c ∧ w.grownBy w' (some P)
  | .bad er i => e = wrongP er i ∧ w.grownBy w' (some P)
theorem alloc_at {W : World} {o : Obj} {k : Nat} (h : k = W.heap.size) : (W.alloc o).heap[k]? = some o := by subst h; exact heap_alloc_new W o
/-- The block of a result. -/
theorem res6 {W : World} {R : Nat} {c0 c1 c2 c3 c4 c5 : Value} {T : TypeId} {x0 x1 x2 x3 x4 x5 : Value} (h : W.heap[R]? = some (.cells #[x0, x1, x2, x3, x4, x5] T (0, 0))) :
    ((((((W.setCell ⟨R, 0, none⟩ c0).setCell ⟨R, 1, none⟩ c1).setCell ⟨R, 2, none⟩ c2).setCell ⟨R, 3, none⟩ c3).setCell ⟨R, 4, none⟩ c4).setCell ⟨R, 5, none⟩ c5).heap[R]? = some (.cells #[c0, c1, c2, c3, c4, c5] T (0, 0)) := by
  simp [World.setCell, Array.getElem?_modify, h]
theorem six_grown (W : World) (R : Nat) (c0 c1 c2 c3 c4 c5 : Value) : W.grownBy ((((((W.setCell ⟨R, 0, none⟩ c0).setCell ⟨R, 1, none⟩ c1).setCell ⟨R, 2, none⟩ c2).setCell ⟨R, 3, none⟩ c3).setCell ⟨R, 4, none⟩ c4).setCell ⟨R, 5, none⟩ c5) (some R) :=
  grown_trans (grown_trans (grown_trans (grown_trans (grown_trans (grown_set _ _ _ _) (grown_set _ _ _ _)) (grown_set _ _ _ _)) (grown_set _ _ _ _)) (grown_set _ _ _ _)) (grown_set _ _ _ _)

set_option maxRecDepth 100000 in
set_option maxHeartbeats 4000000 in
theorem prop_1 (P : Nat) (L : List Tok) (c : Int) (w : World) (hP : PBox w P L c) (hE : Ends L) : Calls Tryz.prog 46 #[.pointer (some ⟨P, 0, none⟩), .int .i64 1, .agg #[.string ⟨#[109, 101, 109]⟩, .func (.func 62) #[] #[]]] w (AtomPost w P 1 L c) := by
  have hlt := hP.lt
  have HP := hid hP
  have HE := hid hE
  clear hP hE
  have hmf : ∀ (fn : Fn) (first cap : Array Value) (w : World), (Instr.makeFunc fn first cap).run Tryz.prog w = .ok (.func fn first cap) w := fun _ _ _ _ => rfl
  go_enter Tryz.func46, Tryz.ntmps46
  go_wp2_with fail
  generalize hW : World.alloc _ _ = W3
  have hz3 : W3.heap.size = w.heap.size + 1 + 1 + 1 + 1 := by subst hW; simp
  have hg3 : Hid (w.grownBy W3 none) := by subst hW; exact grown_alloc (grown_alloc (grown_alloc (grown_alloc (grown_refl _ _) _) _) _) _
  have hP3 : Hid (PBox W3 P L c) := by subst hW; exact (((HP.out.alloc _).alloc _).alloc _).alloc _
  have hb3 : W3.cell? ⟨w.heap.size, 0, none⟩ = some (.pointer (some ⟨P, 0, none⟩)) := by subst hW; go_simp
  have hB3 : Hid (W3.heap[w.heap.size + 1 + 1 + 1]? = some (fmO 3 (putN 1 []) (.slice none 0 0))) := by subst hW; exact alloc_at (by simp)
  have hR3 : Hid (W3.heap[w.heap.size + 1 + 1]? = some (.cells #[.int .i64 0, .int .i64 0, .int .i64 0, .int .i64 0, .int .i64 0, .slice none 0 0] 30 (0, 0))) := by
    subst hW
    exact (Below.heap_alloc _ _ _ (by simp)).trans (alloc_at (by simp))
  clear hW
  with_reducible refine (nums_2 (w.heap.size + 1 + 1 + 1) 1 W3).mono ?_
  rintro e w1 ⟨a, rfl, hpt, hb1, hz1⟩
  have hno : (offs 1).length = 2 := rfl
  rw [hno]
  obtain ⟨bb, rfl, bb1, bb2, -⟩ := hpt 0 (by simp [offs])
  have hc1 : ∀ b o, b < W3.heap.size → w1.cell? ⟨b, o, none⟩ = W3.cell? ⟨b, o, none⟩ := fun b o hb => hb1.cell (p := ⟨b, o, none⟩) hb
  have hs1 := hb1.size
  have q0 : w1.cell? ⟨w.heap.size, 0, none⟩ = some (.pointer (some ⟨P, 0, none⟩)) := (hc1 _ _ (by omega)).trans hb3
  have hP4 : Hid (PBox (w1.alloc (.cells #[.slice (some ⟨bb, 0, none⟩) 2 2] 84)) P L c) := (hP3.out.below hb1).alloc _
  have hB4 : Hid ((w1.alloc (.cells #[.slice (some ⟨bb, 0, none⟩) 2 2] 84)).heap[w.heap.size + 1 + 1 + 1]? = some (fmO 3 (putN 1 []) (.slice none 0 0))) := (Below.heap_alloc _ _ _ (by omega)).trans ((hb1.block _ (by omega)).trans hB3.out)
  have hR4 : Hid ((w1.alloc (.cells #[.slice (some ⟨bb, 0, none⟩) 2 2] 84)).heap[w.heap.size + 1 + 1]? = some (.cells #[.int .i64 0, .int .i64 0, .int .i64 0, .int .i64 0, .int .i64 0, .slice none 0 0] 30 (0, 0))) := (Below.heap_alloc _ _ _ (by omega)).trans ((hb1.block _ (by omega)).trans hR3.out)
  have hG4 : Hid (w.grownBy (w1.alloc (.cells #[.slice (some ⟨bb, 0, none⟩) 2 2] 84)) (some P)) := grown_alloc (grown_new (r := some P) (by obtain ⟨y1, y2, y3, y4, y5⟩ := hg3.out; exact ⟨y1, y2, y3, y4, fun i hi _ => y5 i hi (by simp)⟩) (below_grown hb1 none) (fun n hn => by cases hn)) _
  have hcall := listN_any P w.heap.size w1.heap.size bb (w.heap.size + 1 + 1 + 1) 2 1 (by unfold isShp; simp) rfl (.slice none 0 0) L c (w1.alloc (.cells #[.slice (some ⟨bb, 0, none⟩) 2 2] 84)) hP4.out HE.out (by rw [World.cell?_alloc_lt _ _ _ (by show w.heap.size < w1.heap.size; omega)]; exact q0) (fun _ => by go_simp) ?hpt hB4.out (by omega) ⟨by simp; omega, by omega, by omega⟩ ⟨by simp, by omega, by omega⟩ (fun _ => ⟨by simp; omega, by omega, by omega⟩)
  case hpt =>
    intro i hi
    obtain ⟨b2, e2, -, -, hc⟩ := hpt i hi
    simp only [Option.some.injEq, Addr.mk.injEq, and_true] at e2
    subst e2
    rw [World.cell?_alloc_lt _ _ _ bb2]
    exact hc
  have hlt1 : w.heap.size < w1.heap.size := by omega
  have hlt2 : w.heap.size + 1 + 1 < w1.heap.size := by omega
  have hlt3 : w.heap.size + 1 + 1 + 1 < w1.heap.size := by omega
  clear hs1 hz3 hb3
  rw [show ((2 : Nat) : Int) = 2 from rfl] at hcall
  unfold NumsPost at hcall
  have hqn : AtomPost w P 1 L c = AtomPost w P 1 L c := rfl
  cases hq : numsQ 2 L with
  | bad er pl =>
    rw [hq] at hcall
    have hcall := hid hcall
    have hfin : Hid (∀ w', But2 (w1.alloc (.cells #[.slice (some ⟨bb, 0, none⟩) 2 2] 84)) w' P (w.heap.size + 1 + 1 + 1) → AtomPost w P 1 L c (wrongP er pl) w') := fun w' h2 => by
      unfold AtomPost
      rw [hno, hq]
      exact ⟨rfl, But2.new hG4.out h2 (by omega)⟩
    clear hq hno hpt hc1 hP4 hB4 hR4 hG4 hg3 hP3 hB3 hR3 hb1 hz1 hqn
    go_wp2_with (first
      | (go_at_call 47
         with_reducible refine hcall.out.mono ?_
         rintro e w5 ⟨rfl, hB5⟩
         have hfin := hid (hfin.out _ hB5)
         clear hB5)
      | fail)
    exact ⟨rfl, hfin.out⟩
  | ok x =>
    obtain ⟨r, L2⟩ := x
    simp only [hq] at hcall
    have hcall := hid hcall
    have hfin : Hid (∀ w', PBox w' P L2 c → w.grownBy w' (some P) → AtomPost w P 1 L c (.returned (.agg #[.int .i64 3, .int .i64 (putN 1 r).k, .int .i64 (putN 1 r).t, .int .i64 (putN 1 r).a, .int .i64 (putN 1 r).n, .slice none 0 0])) w') := fun w' h2 h3 => by
      unfold AtomPost
      rw [hno, hq]
      exact ⟨rfl, h2, h3⟩
    generalize putN 1 r = pp at *
    clear hq hno hpt hc1 hg3 hP3 hB3 hR3 hb1 hz1 hqn
    go_wp2_with (first
      | (go_at_call 47
         with_reducible refine hcall.out.mono ?_
         rintro e w5 ⟨rfl, hP5, hB5, h25⟩
         have hs5 := h25.size
         have hs6 : w1.heap.size < w5.heap.size := by rw [World.size_alloc] at hs5; omega
         obtain ⟨y9, yf, y0, y1, y2, y3, y4, y5⟩ := fmO_cells hB5
         have hR5 : w5.heap[w.heap.size + 1 + 1]? = _ := (h25.block _ (by rw [World.size_alloc]; omega) (by omega) (by omega)).trans hR4.out
         have z0 := cell_of_heap (j := 0) hR5
         have z1 := cell_of_heap (j := 1) hR5
         have z2 := cell_of_heap (j := 2) hR5
         have z3 := cell_of_heap (j := 3) hR5
         have z4 := cell_of_heap (j := 4) hR5
         have z5 := cell_of_heap (j := 5) hR5
         simp at z0 z1 z2 z3 z4 z5
         have zf : ∀ j, w5.frozen? ⟨w.heap.size + 1 + 1, j, none⟩ = false := fun j => unfrozen (j := j) hR5
         have HP5 := hid hP5
         have HG5 := hid (But2.new hG4.out h25 (by omega))
         have HR5 := hid hR5
         clear hB5 h25 hR5 hP5 hs5)
      | fail)
    have hr6 := res6 (c0 := .int .i64 3) (c1 := .int .i64 pp.k) (c2 := .int .i64 pp.t) (c3 := .int .i64 pp.a) (c4 := .int .i64 pp.n) (c5 := .slice none 0 0) HR5.out
    have x0 := cell_of_heap (j := 0) hr6
    have x1 := cell_of_heap (j := 1) hr6
    have x2 := cell_of_heap (j := 2) hr6
    have x3 := cell_of_heap (j := 3) hr6
    have x4 := cell_of_heap (j := 4) hr6
    have x5 := cell_of_heap (j := 5) hr6
    simp at x0 x1 x2 x3 x4 x5
    refine bodyPost_ret (v := .agg #[.int .i64 3, .int .i64 pp.k, .int .i64 pp.t, .int .i64 pp.a, .int .i64 pp.n, .slice none 0 0]) (by simp [results, Tryz.results46, go_sem, x0, x1, x2, x3, x4, x5]) rfl (hfin.out _ (HP5.out.grown (six_grown _ _ _ _ _ _ _ _) (fun n hn => by simp at hn; omega)) (grown_new HG5.out (six_grown _ _ _ _ _ _ _ _) (fun n hn => by simp at hn; omega)))

set_option maxRecDepth 100000 in
set_option maxHeartbeats 4000000 in
theorem prop_2 (P : Nat) (L : List Tok) (c : Int) (w : World) (hP : PBox w P L c) (hE : Ends L) : Calls Tryz.prog 46 #[.pointer (some ⟨P, 0, none⟩), .int .i64 2, .agg #[.string ⟨#[114, 101, 103]⟩, .func (.func 63) #[] #[]]] w (AtomPost w P 2 L c) := by
  have hlt := hP.lt
  have HP := hid hP
  have HE := hid hE
  clear hP hE
  have hmf : ∀ (fn : Fn) (first cap : Array Value) (w : World), (Instr.makeFunc fn first cap).run Tryz.prog w = .ok (.func fn first cap) w := fun _ _ _ _ => rfl
  go_enter Tryz.func46, Tryz.ntmps46
  go_wp2_with fail
  generalize hW : World.alloc _ _ = W3
  have hz3 : W3.heap.size = w.heap.size + 1 + 1 + 1 + 1 := by subst hW; simp
  have hg3 : Hid (w.grownBy W3 none) := by subst hW; exact grown_alloc (grown_alloc (grown_alloc (grown_alloc (grown_refl _ _) _) _) _) _
  have hP3 : Hid (PBox W3 P L c) := by subst hW; exact (((HP.out.alloc _).alloc _).alloc _).alloc _
  have hb3 : W3.cell? ⟨w.heap.size, 0, none⟩ = some (.pointer (some ⟨P, 0, none⟩)) := by subst hW; go_simp
  have hB3 : Hid (W3.heap[w.heap.size + 1 + 1 + 1]? = some (fmO 3 (putN 2 []) (.slice none 0 0))) := by subst hW; exact alloc_at (by simp)
  have hR3 : Hid (W3.heap[w.heap.size + 1 + 1]? = some (.cells #[.int .i64 0, .int .i64 0, .int .i64 0, .int .i64 0, .int .i64 0, .slice none 0 0] 30 (0, 0))) := by
    subst hW
    exact (Below.heap_alloc _ _ _ (by simp)).trans (alloc_at (by simp))
  clear hW
  with_reducible refine (nums_3 (w.heap.size + 1 + 1 + 1) 1 W3).mono ?_
  rintro e w1 ⟨a, rfl, hpt, hb1, hz1⟩
  have hno : (offs 2).length = 3 := rfl
  rw [hno]
  obtain ⟨bb, rfl, bb1, bb2, -⟩ := hpt 0 (by simp [offs])
  have hc1 : ∀ b o, b < W3.heap.size → w1.cell? ⟨b, o, none⟩ = W3.cell? ⟨b, o, none⟩ := fun b o hb => hb1.cell (p := ⟨b, o, none⟩) hb
  have hs1 := hb1.size
  have q0 : w1.cell? ⟨w.heap.size, 0, none⟩ = some (.pointer (some ⟨P, 0, none⟩)) := (hc1 _ _ (by omega)).trans hb3
  have hP4 : Hid (PBox (w1.alloc (.cells #[.slice (some ⟨bb, 0, none⟩) 3 3] 84)) P L c) := (hP3.out.below hb1).alloc _
  have hB4 : Hid ((w1.alloc (.cells #[.slice (some ⟨bb, 0, none⟩) 3 3] 84)).heap[w.heap.size + 1 + 1 + 1]? = some (fmO 3 (putN 2 []) (.slice none 0 0))) := (Below.heap_alloc _ _ _ (by omega)).trans ((hb1.block _ (by omega)).trans hB3.out)
  have hR4 : Hid ((w1.alloc (.cells #[.slice (some ⟨bb, 0, none⟩) 3 3] 84)).heap[w.heap.size + 1 + 1]? = some (.cells #[.int .i64 0, .int .i64 0, .int .i64 0, .int .i64 0, .int .i64 0, .slice none 0 0] 30 (0, 0))) := (Below.heap_alloc _ _ _ (by omega)).trans ((hb1.block _ (by omega)).trans hR3.out)
  have hG4 : Hid (w.grownBy (w1.alloc (.cells #[.slice (some ⟨bb, 0, none⟩) 3 3] 84)) (some P)) := grown_alloc (grown_new (r := some P) (by obtain ⟨y1, y2, y3, y4, y5⟩ := hg3.out; exact ⟨y1, y2, y3, y4, fun i hi _ => y5 i hi (by simp)⟩) (below_grown hb1 none) (fun n hn => by cases hn)) _
  have hcall := listN_any P w.heap.size w1.heap.size bb (w.heap.size + 1 + 1 + 1) 3 2 (by unfold isShp; simp) rfl (.slice none 0 0) L c (w1.alloc (.cells #[.slice (some ⟨bb, 0, none⟩) 3 3] 84)) hP4.out HE.out (by rw [World.cell?_alloc_lt _ _ _ (by show w.heap.size < w1.heap.size; omega)]; exact q0) (fun _ => by go_simp) ?hpt hB4.out (by omega) ⟨by simp; omega, by omega, by omega⟩ ⟨by simp, by omega, by omega⟩ (fun _ => ⟨by simp; omega, by omega, by omega⟩)
  case hpt =>
    intro i hi
    obtain ⟨b2, e2, -, -, hc⟩ := hpt i hi
    simp only [Option.some.injEq, Addr.mk.injEq, and_true] at e2
    subst e2
    rw [World.cell?_alloc_lt _ _ _ bb2]
    exact hc
  have hlt1 : w.heap.size < w1.heap.size := by omega
  have hlt2 : w.heap.size + 1 + 1 < w1.heap.size := by omega
  have hlt3 : w.heap.size + 1 + 1 + 1 < w1.heap.size := by omega
  clear hs1 hz3 hb3
  rw [show ((3 : Nat) : Int) = 3 from rfl] at hcall
  unfold NumsPost at hcall
  have hqn : AtomPost w P 2 L c = AtomPost w P 2 L c := rfl
  cases hq : numsQ 3 L with
  | bad er pl =>
    rw [hq] at hcall
    have hcall := hid hcall
    have hfin : Hid (∀ w', But2 (w1.alloc (.cells #[.slice (some ⟨bb, 0, none⟩) 3 3] 84)) w' P (w.heap.size + 1 + 1 + 1) → AtomPost w P 2 L c (wrongP er pl) w') := fun w' h2 => by
      unfold AtomPost
      rw [hno, hq]
      exact ⟨rfl, But2.new hG4.out h2 (by omega)⟩
    clear hq hno hpt hc1 hP4 hB4 hR4 hG4 hg3 hP3 hB3 hR3 hb1 hz1 hqn
    go_wp2_with (first
      | (go_at_call 47
         with_reducible refine hcall.out.mono ?_
         rintro e w5 ⟨rfl, hB5⟩
         have hfin := hid (hfin.out _ hB5)
         clear hB5)
      | fail)
    exact ⟨rfl, hfin.out⟩
  | ok x =>
    obtain ⟨r, L2⟩ := x
    simp only [hq] at hcall
    have hcall := hid hcall
    have hfin : Hid (∀ w', PBox w' P L2 c → w.grownBy w' (some P) → AtomPost w P 2 L c (.returned (.agg #[.int .i64 3, .int .i64 (putN 2 r).k, .int .i64 (putN 2 r).t, .int .i64 (putN 2 r).a, .int .i64 (putN 2 r).n, .slice none 0 0])) w') := fun w' h2 h3 => by
      unfold AtomPost
      rw [hno, hq]
      exact ⟨rfl, h2, h3⟩
    generalize putN 2 r = pp at *
    clear hq hno hpt hc1 hg3 hP3 hB3 hR3 hb1 hz1 hqn
    go_wp2_with (first
      | (go_at_call 47
         with_reducible refine hcall.out.mono ?_
         rintro e w5 ⟨rfl, hP5, hB5, h25⟩
         have hs5 := h25.size
         have hs6 : w1.heap.size < w5.heap.size := by rw [World.size_alloc] at hs5; omega
         obtain ⟨y9, yf, y0, y1, y2, y3, y4, y5⟩ := fmO_cells hB5
         have hR5 : w5.heap[w.heap.size + 1 + 1]? = _ := (h25.block _ (by rw [World.size_alloc]; omega) (by omega) (by omega)).trans hR4.out
         have z0 := cell_of_heap (j := 0) hR5
         have z1 := cell_of_heap (j := 1) hR5
         have z2 := cell_of_heap (j := 2) hR5
         have z3 := cell_of_heap (j := 3) hR5
         have z4 := cell_of_heap (j := 4) hR5
         have z5 := cell_of_heap (j := 5) hR5
         simp at z0 z1 z2 z3 z4 z5
         have zf : ∀ j, w5.frozen? ⟨w.heap.size + 1 + 1, j, none⟩ = false := fun j => unfrozen (j := j) hR5
         have HP5 := hid hP5
         have HG5 := hid (But2.new hG4.out h25 (by omega))
         have HR5 := hid hR5
         clear hB5 h25 hR5 hP5 hs5)
      | fail)
    have hr6 := res6 (c0 := .int .i64 3) (c1 := .int .i64 pp.k) (c2 := .int .i64 pp.t) (c3 := .int .i64 pp.a) (c4 := .int .i64 pp.n) (c5 := .slice none 0 0) HR5.out
    have x0 := cell_of_heap (j := 0) hr6
    have x1 := cell_of_heap (j := 1) hr6
    have x2 := cell_of_heap (j := 2) hr6
    have x3 := cell_of_heap (j := 3) hr6
    have x4 := cell_of_heap (j := 4) hr6
    have x5 := cell_of_heap (j := 5) hr6
    simp at x0 x1 x2 x3 x4 x5
    refine bodyPost_ret (v := .agg #[.int .i64 3, .int .i64 pp.k, .int .i64 pp.t, .int .i64 pp.a, .int .i64 pp.n, .slice none 0 0]) (by simp [results, Tryz.results46, go_sem, x0, x1, x2, x3, x4, x5]) rfl (hfin.out _ (HP5.out.grown (six_grown _ _ _ _ _ _ _ _) (fun n hn => by simp at hn; omega)) (grown_new HG5.out (six_grown _ _ _ _ _ _ _ _) (fun n hn => by simp at hn; omega)))

set_option maxRecDepth 100000 in
set_option maxHeartbeats 4000000 in
theorem prop_3 (P : Nat) (L : List Tok) (c : Int) (w : World) (hP : PBox w P L c) (hE : Ends L) : Calls Tryz.prog 46 #[.pointer (some ⟨P, 0, none⟩), .int .i64 3, .agg #[.string ⟨#[97, 116]⟩, .func (.func 64) #[] #[]]] w (AtomPost w P 3 L c) := by
  have hlt := hP.lt
  have HP := hid hP
  have HE := hid hE
  clear hP hE
  have hmf : ∀ (fn : Fn) (first cap : Array Value) (w : World), (Instr.makeFunc fn first cap).run Tryz.prog w = .ok (.func fn first cap) w := fun _ _ _ _ => rfl
  go_enter Tryz.func46, Tryz.ntmps46
  go_wp2_with fail
  generalize hW : World.alloc _ _ = W3
  have hz3 : W3.heap.size = w.heap.size + 1 + 1 + 1 + 1 := by subst hW; simp
  have hg3 : Hid (w.grownBy W3 none) := by subst hW; exact grown_alloc (grown_alloc (grown_alloc (grown_alloc (grown_refl _ _) _) _) _) _
  have hP3 : Hid (PBox W3 P L c) := by subst hW; exact (((HP.out.alloc _).alloc _).alloc _).alloc _
  have hb3 : W3.cell? ⟨w.heap.size, 0, none⟩ = some (.pointer (some ⟨P, 0, none⟩)) := by subst hW; go_simp
  have hB3 : Hid (W3.heap[w.heap.size + 1 + 1 + 1]? = some (fmO 3 (putN 3 []) (.slice none 0 0))) := by subst hW; exact alloc_at (by simp)
  have hR3 : Hid (W3.heap[w.heap.size + 1 + 1]? = some (.cells #[.int .i64 0, .int .i64 0, .int .i64 0, .int .i64 0, .int .i64 0, .slice none 0 0] 30 (0, 0))) := by
    subst hW
    exact (Below.heap_alloc _ _ _ (by simp)).trans (alloc_at (by simp))
  clear hW
  with_reducible refine (nums_4 (w.heap.size + 1 + 1 + 1) 1 W3).mono ?_
  rintro e w1 ⟨a, rfl, hpt, hb1, hz1⟩
  have hno : (offs 3).length = 2 := rfl
  rw [hno]
  obtain ⟨bb, rfl, bb1, bb2, -⟩ := hpt 0 (by simp [offs])
  have hc1 : ∀ b o, b < W3.heap.size → w1.cell? ⟨b, o, none⟩ = W3.cell? ⟨b, o, none⟩ := fun b o hb => hb1.cell (p := ⟨b, o, none⟩) hb
  have hs1 := hb1.size
  have q0 : w1.cell? ⟨w.heap.size, 0, none⟩ = some (.pointer (some ⟨P, 0, none⟩)) := (hc1 _ _ (by omega)).trans hb3
  have hP4 : Hid (PBox (w1.alloc (.cells #[.slice (some ⟨bb, 0, none⟩) 2 2] 84)) P L c) := (hP3.out.below hb1).alloc _
  have hB4 : Hid ((w1.alloc (.cells #[.slice (some ⟨bb, 0, none⟩) 2 2] 84)).heap[w.heap.size + 1 + 1 + 1]? = some (fmO 3 (putN 3 []) (.slice none 0 0))) := (Below.heap_alloc _ _ _ (by omega)).trans ((hb1.block _ (by omega)).trans hB3.out)
  have hR4 : Hid ((w1.alloc (.cells #[.slice (some ⟨bb, 0, none⟩) 2 2] 84)).heap[w.heap.size + 1 + 1]? = some (.cells #[.int .i64 0, .int .i64 0, .int .i64 0, .int .i64 0, .int .i64 0, .slice none 0 0] 30 (0, 0))) := (Below.heap_alloc _ _ _ (by omega)).trans ((hb1.block _ (by omega)).trans hR3.out)
  have hG4 : Hid (w.grownBy (w1.alloc (.cells #[.slice (some ⟨bb, 0, none⟩) 2 2] 84)) (some P)) := grown_alloc (grown_new (r := some P) (by obtain ⟨y1, y2, y3, y4, y5⟩ := hg3.out; exact ⟨y1, y2, y3, y4, fun i hi _ => y5 i hi (by simp)⟩) (below_grown hb1 none) (fun n hn => by cases hn)) _
  have hcall := listN_any P w.heap.size w1.heap.size bb (w.heap.size + 1 + 1 + 1) 2 3 (by unfold isShp; simp) rfl (.slice none 0 0) L c (w1.alloc (.cells #[.slice (some ⟨bb, 0, none⟩) 2 2] 84)) hP4.out HE.out (by rw [World.cell?_alloc_lt _ _ _ (by show w.heap.size < w1.heap.size; omega)]; exact q0) (fun _ => by go_simp) ?hpt hB4.out (by omega) ⟨by simp; omega, by omega, by omega⟩ ⟨by simp, by omega, by omega⟩ (fun _ => ⟨by simp; omega, by omega, by omega⟩)
  case hpt =>
    intro i hi
    obtain ⟨b2, e2, -, -, hc⟩ := hpt i hi
    simp only [Option.some.injEq, Addr.mk.injEq, and_true] at e2
    subst e2
    rw [World.cell?_alloc_lt _ _ _ bb2]
    exact hc
  have hlt1 : w.heap.size < w1.heap.size := by omega
  have hlt2 : w.heap.size + 1 + 1 < w1.heap.size := by omega
  have hlt3 : w.heap.size + 1 + 1 + 1 < w1.heap.size := by omega
  clear hs1 hz3 hb3
  rw [show ((2 : Nat) : Int) = 2 from rfl] at hcall
  unfold NumsPost at hcall
  have hqn : AtomPost w P 3 L c = AtomPost w P 3 L c := rfl
  cases hq : numsQ 2 L with
  | bad er pl =>
    rw [hq] at hcall
    have hcall := hid hcall
    have hfin : Hid (∀ w', But2 (w1.alloc (.cells #[.slice (some ⟨bb, 0, none⟩) 2 2] 84)) w' P (w.heap.size + 1 + 1 + 1) → AtomPost w P 3 L c (wrongP er pl) w') := fun w' h2 => by
      unfold AtomPost
      rw [hno, hq]
      exact ⟨rfl, But2.new hG4.out h2 (by omega)⟩
    clear hq hno hpt hc1 hP4 hB4 hR4 hG4 hg3 hP3 hB3 hR3 hb1 hz1 hqn
    go_wp2_with (first
      | (go_at_call 47
         with_reducible refine hcall.out.mono ?_
         rintro e w5 ⟨rfl, hB5⟩
         have hfin := hid (hfin.out _ hB5)
         clear hB5)
      | fail)
    exact ⟨rfl, hfin.out⟩
  | ok x =>
    obtain ⟨r, L2⟩ := x
    simp only [hq] at hcall
    have hcall := hid hcall
    have hfin : Hid (∀ w', PBox w' P L2 c → w.grownBy w' (some P) → AtomPost w P 3 L c (.returned (.agg #[.int .i64 3, .int .i64 (putN 3 r).k, .int .i64 (putN 3 r).t, .int .i64 (putN 3 r).a, .int .i64 (putN 3 r).n, .slice none 0 0])) w') := fun w' h2 h3 => by
      unfold AtomPost
      rw [hno, hq]
      exact ⟨rfl, h2, h3⟩
    generalize putN 3 r = pp at *
    clear hq hno hpt hc1 hg3 hP3 hB3 hR3 hb1 hz1 hqn
    go_wp2_with (first
      | (go_at_call 47
         with_reducible refine hcall.out.mono ?_
         rintro e w5 ⟨rfl, hP5, hB5, h25⟩
         have hs5 := h25.size
         have hs6 : w1.heap.size < w5.heap.size := by rw [World.size_alloc] at hs5; omega
         obtain ⟨y9, yf, y0, y1, y2, y3, y4, y5⟩ := fmO_cells hB5
         have hR5 : w5.heap[w.heap.size + 1 + 1]? = _ := (h25.block _ (by rw [World.size_alloc]; omega) (by omega) (by omega)).trans hR4.out
         have z0 := cell_of_heap (j := 0) hR5
         have z1 := cell_of_heap (j := 1) hR5
         have z2 := cell_of_heap (j := 2) hR5
         have z3 := cell_of_heap (j := 3) hR5
         have z4 := cell_of_heap (j := 4) hR5
         have z5 := cell_of_heap (j := 5) hR5
         simp at z0 z1 z2 z3 z4 z5
         have zf : ∀ j, w5.frozen? ⟨w.heap.size + 1 + 1, j, none⟩ = false := fun j => unfrozen (j := j) hR5
         have HP5 := hid hP5
         have HG5 := hid (But2.new hG4.out h25 (by omega))
         have HR5 := hid hR5
         clear hB5 h25 hR5 hP5 hs5)
      | fail)
    have hr6 := res6 (c0 := .int .i64 3) (c1 := .int .i64 pp.k) (c2 := .int .i64 pp.t) (c3 := .int .i64 pp.a) (c4 := .int .i64 pp.n) (c5 := .slice none 0 0) HR5.out
    have x0 := cell_of_heap (j := 0) hr6
    have x1 := cell_of_heap (j := 1) hr6
    have x2 := cell_of_heap (j := 2) hr6
    have x3 := cell_of_heap (j := 3) hr6
    have x4 := cell_of_heap (j := 4) hr6
    have x5 := cell_of_heap (j := 5) hr6
    simp at x0 x1 x2 x3 x4 x5
    refine bodyPost_ret (v := .agg #[.int .i64 3, .int .i64 pp.k, .int .i64 pp.t, .int .i64 pp.a, .int .i64 pp.n, .slice none 0 0]) (by simp [results, Tryz.results46, go_sem, x0, x1, x2, x3, x4, x5]) rfl (hfin.out _ (HP5.out.grown (six_grown _ _ _ _ _ _ _ _) (fun n hn => by simp at hn; omega)) (grown_new HG5.out (six_grown _ _ _ _ _ _ _ _) (fun n hn => by simp at hn; omega)))

set_option maxRecDepth 100000 in
set_option maxHeartbeats 4000000 in
theorem prop_4 (P : Nat) (L : List Tok) (c : Int) (w : World) (hP : PBox w P L c) (hE : Ends L) : Calls Tryz.prog 46 #[.pointer (some ⟨P, 0, none⟩), .int .i64 4, .agg #[.string ⟨#[101, 109, 112, 116, 121]⟩, .func (.func 61) #[] #[]]] w (AtomPost w P 4 L c) := by
  have hlt := hP.lt
  have HP := hid hP
  have HE := hid hE
  clear hP hE
  have hmf : ∀ (fn : Fn) (first cap : Array Value) (w : World), (Instr.makeFunc fn first cap).run Tryz.prog w = .ok (.func fn first cap) w := fun _ _ _ _ => rfl
  go_enter Tryz.func46, Tryz.ntmps46
  go_wp2_with fail
  generalize hW : World.alloc _ _ = W3
  have hz3 : W3.heap.size = w.heap.size + 1 + 1 + 1 + 1 := by subst hW; simp
  have hg3 : Hid (w.grownBy W3 none) := by subst hW; exact grown_alloc (grown_alloc (grown_alloc (grown_alloc (grown_refl _ _) _) _) _) _
  have hP3 : Hid (PBox W3 P L c) := by subst hW; exact (((HP.out.alloc _).alloc _).alloc _).alloc _
  have hb3 : W3.cell? ⟨w.heap.size, 0, none⟩ = some (.pointer (some ⟨P, 0, none⟩)) := by subst hW; go_simp
  have hB3 : Hid (W3.heap[w.heap.size + 1 + 1 + 1]? = some (fmO 3 (putN 4 []) (.slice none 0 0))) := by subst hW; exact alloc_at (by simp)
  have hR3 : Hid (W3.heap[w.heap.size + 1 + 1]? = some (.cells #[.int .i64 0, .int .i64 0, .int .i64 0, .int .i64 0, .int .i64 0, .slice none 0 0] 30 (0, 0))) := by
    subst hW
    exact (Below.heap_alloc _ _ _ (by simp)).trans (alloc_at (by simp))
  clear hW
  with_reducible refine (nums_1 (w.heap.size + 1 + 1 + 1) 1 4 (by omega) W3).mono ?_
  rintro e w1 ⟨a, rfl, hpt, hb1, hz1⟩
  have hno : (offs 4).length = 1 := rfl
  rw [hno]
  obtain ⟨bb, rfl, bb1, bb2, -⟩ := hpt 0 (by simp [offs])
  have hc1 : ∀ b o, b < W3.heap.size → w1.cell? ⟨b, o, none⟩ = W3.cell? ⟨b, o, none⟩ := fun b o hb => hb1.cell (p := ⟨b, o, none⟩) hb
  have hs1 := hb1.size
  have q0 : w1.cell? ⟨w.heap.size, 0, none⟩ = some (.pointer (some ⟨P, 0, none⟩)) := (hc1 _ _ (by omega)).trans hb3
  have hP4 : Hid (PBox (w1.alloc (.cells #[.slice (some ⟨bb, 0, none⟩) 1 1] 84)) P L c) := (hP3.out.below hb1).alloc _
  have hB4 : Hid ((w1.alloc (.cells #[.slice (some ⟨bb, 0, none⟩) 1 1] 84)).heap[w.heap.size + 1 + 1 + 1]? = some (fmO 3 (putN 4 []) (.slice none 0 0))) := (Below.heap_alloc _ _ _ (by omega)).trans ((hb1.block _ (by omega)).trans hB3.out)
  have hR4 : Hid ((w1.alloc (.cells #[.slice (some ⟨bb, 0, none⟩) 1 1] 84)).heap[w.heap.size + 1 + 1]? = some (.cells #[.int .i64 0, .int .i64 0, .int .i64 0, .int .i64 0, .int .i64 0, .slice none 0 0] 30 (0, 0))) := (Below.heap_alloc _ _ _ (by omega)).trans ((hb1.block _ (by omega)).trans hR3.out)
  have hG4 : Hid (w.grownBy (w1.alloc (.cells #[.slice (some ⟨bb, 0, none⟩) 1 1] 84)) (some P)) := grown_alloc (grown_new (r := some P) (by obtain ⟨y1, y2, y3, y4, y5⟩ := hg3.out; exact ⟨y1, y2, y3, y4, fun i hi _ => y5 i hi (by simp)⟩) (below_grown hb1 none) (fun n hn => by cases hn)) _
  have hcall := listN_any P w.heap.size w1.heap.size bb (w.heap.size + 1 + 1 + 1) 1 4 (by unfold isShp; simp) rfl (.slice none 0 0) L c (w1.alloc (.cells #[.slice (some ⟨bb, 0, none⟩) 1 1] 84)) hP4.out HE.out (by rw [World.cell?_alloc_lt _ _ _ (by show w.heap.size < w1.heap.size; omega)]; exact q0) (fun _ => by go_simp) ?hpt hB4.out (by omega) ⟨by simp; omega, by omega, by omega⟩ ⟨by simp, by omega, by omega⟩ (fun _ => ⟨by simp; omega, by omega, by omega⟩)
  case hpt =>
    intro i hi
    obtain ⟨b2, e2, -, -, hc⟩ := hpt i hi
    simp only [Option.some.injEq, Addr.mk.injEq, and_true] at e2
    subst e2
    rw [World.cell?_alloc_lt _ _ _ bb2]
    exact hc
  have hlt1 : w.heap.size < w1.heap.size := by omega
  have hlt2 : w.heap.size + 1 + 1 < w1.heap.size := by omega
  have hlt3 : w.heap.size + 1 + 1 + 1 < w1.heap.size := by omega
  clear hs1 hz3 hb3
  rw [show ((1 : Nat) : Int) = 1 from rfl] at hcall
  unfold NumsPost at hcall
  have hqn : AtomPost w P 4 L c = AtomPost w P 4 L c := rfl
  cases hq : numsQ 1 L with
  | bad er pl =>
    rw [hq] at hcall
    have hcall := hid hcall
    have hfin : Hid (∀ w', But2 (w1.alloc (.cells #[.slice (some ⟨bb, 0, none⟩) 1 1] 84)) w' P (w.heap.size + 1 + 1 + 1) → AtomPost w P 4 L c (wrongP er pl) w') := fun w' h2 => by
      unfold AtomPost
      rw [hno, hq]
      exact ⟨rfl, But2.new hG4.out h2 (by omega)⟩
    clear hq hno hpt hc1 hP4 hB4 hR4 hG4 hg3 hP3 hB3 hR3 hb1 hz1 hqn
    go_wp2_with (first
      | (go_at_call 47
         with_reducible refine hcall.out.mono ?_
         rintro e w5 ⟨rfl, hB5⟩
         have hfin := hid (hfin.out _ hB5)
         clear hB5)
      | fail)
    exact ⟨rfl, hfin.out⟩
  | ok x =>
    obtain ⟨r, L2⟩ := x
    simp only [hq] at hcall
    have hcall := hid hcall
    have hfin : Hid (∀ w', PBox w' P L2 c → w.grownBy w' (some P) → AtomPost w P 4 L c (.returned (.agg #[.int .i64 3, .int .i64 (putN 4 r).k, .int .i64 (putN 4 r).t, .int .i64 (putN 4 r).a, .int .i64 (putN 4 r).n, .slice none 0 0])) w') := fun w' h2 h3 => by
      unfold AtomPost
      rw [hno, hq]
      exact ⟨rfl, h2, h3⟩
    generalize putN 4 r = pp at *
    clear hq hno hpt hc1 hg3 hP3 hB3 hR3 hb1 hz1 hqn
    go_wp2_with (first
      | (go_at_call 47
         with_reducible refine hcall.out.mono ?_
         rintro e w5 ⟨rfl, hP5, hB5, h25⟩
         have hs5 := h25.size
         have hs6 : w1.heap.size < w5.heap.size := by rw [World.size_alloc] at hs5; omega
         obtain ⟨y9, yf, y0, y1, y2, y3, y4, y5⟩ := fmO_cells hB5
         have hR5 : w5.heap[w.heap.size + 1 + 1]? = _ := (h25.block _ (by rw [World.size_alloc]; omega) (by omega) (by omega)).trans hR4.out
         have z0 := cell_of_heap (j := 0) hR5
         have z1 := cell_of_heap (j := 1) hR5
         have z2 := cell_of_heap (j := 2) hR5
         have z3 := cell_of_heap (j := 3) hR5
         have z4 := cell_of_heap (j := 4) hR5
         have z5 := cell_of_heap (j := 5) hR5
         simp at z0 z1 z2 z3 z4 z5
         have zf : ∀ j, w5.frozen? ⟨w.heap.size + 1 + 1, j, none⟩ = false := fun j => unfrozen (j := j) hR5
         have HP5 := hid hP5
         have HG5 := hid (But2.new hG4.out h25 (by omega))
         have HR5 := hid hR5
         clear hB5 h25 hR5 hP5 hs5)
      | fail)
    have hr6 := res6 (c0 := .int .i64 3) (c1 := .int .i64 pp.k) (c2 := .int .i64 pp.t) (c3 := .int .i64 pp.a) (c4 := .int .i64 pp.n) (c5 := .slice none 0 0) HR5.out
    have x0 := cell_of_heap (j := 0) hr6
    have x1 := cell_of_heap (j := 1) hr6
    have x2 := cell_of_heap (j := 2) hr6
    have x3 := cell_of_heap (j := 3) hr6
    have x4 := cell_of_heap (j := 4) hr6
    have x5 := cell_of_heap (j := 5) hr6
    simp at x0 x1 x2 x3 x4 x5
    refine bodyPost_ret (v := .agg #[.int .i64 3, .int .i64 pp.k, .int .i64 pp.t, .int .i64 pp.a, .int .i64 pp.n, .slice none 0 0]) (by simp [results, Tryz.results46, go_sem, x0, x1, x2, x3, x4, x5]) rfl (hfin.out _ (HP5.out.grown (six_grown _ _ _ _ _ _ _ _) (fun n hn => by simp at hn; omega)) (grown_new HG5.out (six_grown _ _ _ _ _ _ _ _) (fun n hn => by simp at hn; omega)))

set_option maxRecDepth 100000 in
set_option maxHeartbeats 4000000 in
theorem prop_5 (P : Nat) (L : List Tok) (c : Int) (w : World) (hP : PBox w P L c) (hE : Ends L) : Calls Tryz.prog 46 #[.pointer (some ⟨P, 0, none⟩), .int .i64 5, .agg #[.string ⟨#[98, 97, 100]⟩, .func (.func 65) #[] #[]]] w (AtomPost w P 5 L c) := by
  have hlt := hP.lt
  have HP := hid hP
  have HE := hid hE
  clear hP hE
  have hmf : ∀ (fn : Fn) (first cap : Array Value) (w : World), (Instr.makeFunc fn first cap).run Tryz.prog w = .ok (.func fn first cap) w := fun _ _ _ _ => rfl
  go_enter Tryz.func46, Tryz.ntmps46
  go_wp2_with fail
  generalize hW : World.alloc _ _ = W3
  have hz3 : W3.heap.size = w.heap.size + 1 + 1 + 1 + 1 := by subst hW; simp
  have hg3 : Hid (w.grownBy W3 none) := by subst hW; exact grown_alloc (grown_alloc (grown_alloc (grown_alloc (grown_refl _ _) _) _) _) _
  have hP3 : Hid (PBox W3 P L c) := by subst hW; exact (((HP.out.alloc _).alloc _).alloc _).alloc _
  have hb3 : W3.cell? ⟨w.heap.size, 0, none⟩ = some (.pointer (some ⟨P, 0, none⟩)) := by subst hW; go_simp
  have hB3 : Hid (W3.heap[w.heap.size + 1 + 1 + 1]? = some (fmO 3 (putN 5 []) (.slice none 0 0))) := by subst hW; exact alloc_at (by simp)
  have hR3 : Hid (W3.heap[w.heap.size + 1 + 1]? = some (.cells #[.int .i64 0, .int .i64 0, .int .i64 0, .int .i64 0, .int .i64 0, .slice none 0 0] 30 (0, 0))) := by
    subst hW
    exact (Below.heap_alloc _ _ _ (by simp)).trans (alloc_at (by simp))
  clear hW
  with_reducible refine (nums_5 (w.heap.size + 1 + 1 + 1) 1 W3).mono ?_
  rintro e w1 ⟨a, rfl, hpt, hb1, hz1⟩
  have hno : (offs 5).length = 0 := rfl
  rw [hno]
  have hc1 : ∀ b o, b < W3.heap.size → w1.cell? ⟨b, o, none⟩ = W3.cell? ⟨b, o, none⟩ := fun b o hb => hb1.cell (p := ⟨b, o, none⟩) hb
  have hs1 := hb1.size
  have q0 : w1.cell? ⟨w.heap.size, 0, none⟩ = some (.pointer (some ⟨P, 0, none⟩)) := (hc1 _ _ (by omega)).trans hb3
  have hP4 : Hid (PBox (w1.alloc (.cells #[.slice a 0 0] 84)) P L c) := (hP3.out.below hb1).alloc _
  have hB4 : Hid ((w1.alloc (.cells #[.slice a 0 0] 84)).heap[w.heap.size + 1 + 1 + 1]? = some (fmO 3 (putN 5 []) (.slice none 0 0))) := (Below.heap_alloc _ _ _ (by omega)).trans ((hb1.block _ (by omega)).trans hB3.out)
  have hR4 : Hid ((w1.alloc (.cells #[.slice a 0 0] 84)).heap[w.heap.size + 1 + 1]? = some (.cells #[.int .i64 0, .int .i64 0, .int .i64 0, .int .i64 0, .int .i64 0, .slice none 0 0] 30 (0, 0))) := (Below.heap_alloc _ _ _ (by omega)).trans ((hb1.block _ (by omega)).trans hR3.out)
  have hG4 : Hid (w.grownBy (w1.alloc (.cells #[.slice a 0 0] 84)) (some P)) := grown_alloc (grown_new (r := some P) (by obtain ⟨y1, y2, y3, y4, y5⟩ := hg3.out; exact ⟨y1, y2, y3, y4, fun i hi _ => y5 i hi (by simp)⟩) (below_grown hb1 none) (fun n hn => by cases hn)) _
  have hcall := listN_any P w.heap.size w1.heap.size 0 (w.heap.size + 1 + 1 + 1) 0 5 (by unfold isShp; simp) rfl (.slice none 0 0) L c (w1.alloc (.cells #[.slice a 0 0] 84)) hP4.out HE.out (by rw [World.cell?_alloc_lt _ _ _ (by show w.heap.size < w1.heap.size; omega)]; exact q0) (fun h => absurd h (by omega)) ?hpt hB4.out (by omega) ⟨by simp; omega, by omega, by omega⟩ ⟨by simp, by omega, by omega⟩ (fun h => absurd h (by omega))
  case hpt =>
    intro i hi
    exact absurd hi (by simp [offs])
  have hlt1 : w.heap.size < w1.heap.size := by omega
  have hlt2 : w.heap.size + 1 + 1 < w1.heap.size := by omega
  have hlt3 : w.heap.size + 1 + 1 + 1 < w1.heap.size := by omega
  clear hs1 hz3 hb3
  rw [show ((0 : Nat) : Int) = 0 from rfl] at hcall
  unfold NumsPost at hcall
  have hqn : AtomPost w P 5 L c = AtomPost w P 5 L c := rfl
  cases hq : numsQ 0 L with
  | bad er pl =>
    rw [hq] at hcall
    have hcall := hid hcall
    have hfin : Hid (∀ w', But2 (w1.alloc (.cells #[.slice a 0 0] 84)) w' P (w.heap.size + 1 + 1 + 1) → AtomPost w P 5 L c (wrongP er pl) w') := fun w' h2 => by
      unfold AtomPost
      rw [hno, hq]
      exact ⟨rfl, But2.new hG4.out h2 (by omega)⟩
    clear hq hno hpt hc1 hP4 hB4 hR4 hG4 hg3 hP3 hB3 hR3 hb1 hz1 hqn
    go_wp2_with (first
      | (go_at_call 47
         with_reducible refine hcall.out.mono ?_
         rintro e w5 ⟨rfl, hB5⟩
         have hfin := hid (hfin.out _ hB5)
         clear hB5)
      | fail)
    exact ⟨rfl, hfin.out⟩
  | ok x =>
    obtain ⟨r, L2⟩ := x
    simp only [hq] at hcall
    have hcall := hid hcall
    have hfin : Hid (∀ w', PBox w' P L2 c → w.grownBy w' (some P) → AtomPost w P 5 L c (.returned (.agg #[.int .i64 3, .int .i64 (putN 5 r).k, .int .i64 (putN 5 r).t, .int .i64 (putN 5 r).a, .int .i64 (putN 5 r).n, .slice none 0 0])) w') := fun w' h2 h3 => by
      unfold AtomPost
      rw [hno, hq]
      exact ⟨rfl, h2, h3⟩
    generalize putN 5 r = pp at *
    clear hq hno hpt hc1 hg3 hP3 hB3 hR3 hb1 hz1 hqn
    go_wp2_with (first
      | (go_at_call 47
         with_reducible refine hcall.out.mono ?_
         rintro e w5 ⟨rfl, hP5, hB5, h25⟩
         have hs5 := h25.size
         have hs6 : w1.heap.size < w5.heap.size := by rw [World.size_alloc] at hs5; omega
         obtain ⟨y9, yf, y0, y1, y2, y3, y4, y5⟩ := fmO_cells hB5
         have hR5 : w5.heap[w.heap.size + 1 + 1]? = _ := (h25.block _ (by rw [World.size_alloc]; omega) (by omega) (by omega)).trans hR4.out
         have z0 := cell_of_heap (j := 0) hR5
         have z1 := cell_of_heap (j := 1) hR5
         have z2 := cell_of_heap (j := 2) hR5
         have z3 := cell_of_heap (j := 3) hR5
         have z4 := cell_of_heap (j := 4) hR5
         have z5 := cell_of_heap (j := 5) hR5
         simp at z0 z1 z2 z3 z4 z5
         have zf : ∀ j, w5.frozen? ⟨w.heap.size + 1 + 1, j, none⟩ = false := fun j => unfrozen (j := j) hR5
         have HP5 := hid hP5
         have HG5 := hid (But2.new hG4.out h25 (by omega))
         have HR5 := hid hR5
         clear hB5 h25 hR5 hP5 hs5)
      | fail)
    have hr6 := res6 (c0 := .int .i64 3) (c1 := .int .i64 pp.k) (c2 := .int .i64 pp.t) (c3 := .int .i64 pp.a) (c4 := .int .i64 pp.n) (c5 := .slice none 0 0) HR5.out
    have x0 := cell_of_heap (j := 0) hr6
    have x1 := cell_of_heap (j := 1) hr6
    have x2 := cell_of_heap (j := 2) hr6
    have x3 := cell_of_heap (j := 3) hr6
    have x4 := cell_of_heap (j := 4) hr6
    have x5 := cell_of_heap (j := 5) hr6
    simp at x0 x1 x2 x3 x4 x5
    refine bodyPost_ret (v := .agg #[.int .i64 3, .int .i64 pp.k, .int .i64 pp.t, .int .i64 pp.a, .int .i64 pp.n, .slice none 0 0]) (by simp [results, Tryz.results46, go_sem, x0, x1, x2, x3, x4, x5]) rfl (hfin.out _ (HP5.out.grown (six_grown _ _ _ _ _ _ _ _) (fun n hn => by simp at hn; omega)) (grown_new HG5.out (six_grown _ _ _ _ _ _ _ _) (fun n hn => by simp at hn; omega)))

set_option maxRecDepth 100000 in
set_option maxHeartbeats 4000000 in
theorem prop_6 (P : Nat) (L : List Tok) (c : Int) (w : World) (hP : PBox w P L c) (hE : Ends L) : Calls Tryz.prog 46 #[.pointer (some ⟨P, 0, none⟩), .int .i64 6, .agg #[.string ⟨#[101, 110, 100, 101, 100]⟩, .func (.func 61) #[] #[]]] w (AtomPost w P 6 L c) := by
  have hlt := hP.lt
  have HP := hid hP
  have HE := hid hE
  clear hP hE
  have hmf : ∀ (fn : Fn) (first cap : Array Value) (w : World), (Instr.makeFunc fn first cap).run Tryz.prog w = .ok (.func fn first cap) w := fun _ _ _ _ => rfl
  go_enter Tryz.func46, Tryz.ntmps46
  go_wp2_with fail
  generalize hW : World.alloc _ _ = W3
  have hz3 : W3.heap.size = w.heap.size + 1 + 1 + 1 + 1 := by subst hW; simp
  have hg3 : Hid (w.grownBy W3 none) := by subst hW; exact grown_alloc (grown_alloc (grown_alloc (grown_alloc (grown_refl _ _) _) _) _) _
  have hP3 : Hid (PBox W3 P L c) := by subst hW; exact (((HP.out.alloc _).alloc _).alloc _).alloc _
  have hb3 : W3.cell? ⟨w.heap.size, 0, none⟩ = some (.pointer (some ⟨P, 0, none⟩)) := by subst hW; go_simp
  have hB3 : Hid (W3.heap[w.heap.size + 1 + 1 + 1]? = some (fmO 3 (putN 6 []) (.slice none 0 0))) := by subst hW; exact alloc_at (by simp)
  have hR3 : Hid (W3.heap[w.heap.size + 1 + 1]? = some (.cells #[.int .i64 0, .int .i64 0, .int .i64 0, .int .i64 0, .int .i64 0, .slice none 0 0] 30 (0, 0))) := by
    subst hW
    exact (Below.heap_alloc _ _ _ (by simp)).trans (alloc_at (by simp))
  clear hW
  with_reducible refine (nums_1 (w.heap.size + 1 + 1 + 1) 1 6 (by omega) W3).mono ?_
  rintro e w1 ⟨a, rfl, hpt, hb1, hz1⟩
  have hno : (offs 6).length = 1 := rfl
  rw [hno]
  obtain ⟨bb, rfl, bb1, bb2, -⟩ := hpt 0 (by simp [offs])
  have hc1 : ∀ b o, b < W3.heap.size → w1.cell? ⟨b, o, none⟩ = W3.cell? ⟨b, o, none⟩ := fun b o hb => hb1.cell (p := ⟨b, o, none⟩) hb
  have hs1 := hb1.size
  have q0 : w1.cell? ⟨w.heap.size, 0, none⟩ = some (.pointer (some ⟨P, 0, none⟩)) := (hc1 _ _ (by omega)).trans hb3
  have hP4 : Hid (PBox (w1.alloc (.cells #[.slice (some ⟨bb, 0, none⟩) 1 1] 84)) P L c) := (hP3.out.below hb1).alloc _
  have hB4 : Hid ((w1.alloc (.cells #[.slice (some ⟨bb, 0, none⟩) 1 1] 84)).heap[w.heap.size + 1 + 1 + 1]? = some (fmO 3 (putN 6 []) (.slice none 0 0))) := (Below.heap_alloc _ _ _ (by omega)).trans ((hb1.block _ (by omega)).trans hB3.out)
  have hR4 : Hid ((w1.alloc (.cells #[.slice (some ⟨bb, 0, none⟩) 1 1] 84)).heap[w.heap.size + 1 + 1]? = some (.cells #[.int .i64 0, .int .i64 0, .int .i64 0, .int .i64 0, .int .i64 0, .slice none 0 0] 30 (0, 0))) := (Below.heap_alloc _ _ _ (by omega)).trans ((hb1.block _ (by omega)).trans hR3.out)
  have hG4 : Hid (w.grownBy (w1.alloc (.cells #[.slice (some ⟨bb, 0, none⟩) 1 1] 84)) (some P)) := grown_alloc (grown_new (r := some P) (by obtain ⟨y1, y2, y3, y4, y5⟩ := hg3.out; exact ⟨y1, y2, y3, y4, fun i hi _ => y5 i hi (by simp)⟩) (below_grown hb1 none) (fun n hn => by cases hn)) _
  have hcall := listN_any P w.heap.size w1.heap.size bb (w.heap.size + 1 + 1 + 1) 1 6 (by unfold isShp; simp) rfl (.slice none 0 0) L c (w1.alloc (.cells #[.slice (some ⟨bb, 0, none⟩) 1 1] 84)) hP4.out HE.out (by rw [World.cell?_alloc_lt _ _ _ (by show w.heap.size < w1.heap.size; omega)]; exact q0) (fun _ => by go_simp) ?hpt hB4.out (by omega) ⟨by simp; omega, by omega, by omega⟩ ⟨by simp, by omega, by omega⟩ (fun _ => ⟨by simp; omega, by omega, by omega⟩)
  case hpt =>
    intro i hi
    obtain ⟨b2, e2, -, -, hc⟩ := hpt i hi
    simp only [Option.some.injEq, Addr.mk.injEq, and_true] at e2
    subst e2
    rw [World.cell?_alloc_lt _ _ _ bb2]
    exact hc
  have hlt1 : w.heap.size < w1.heap.size := by omega
  have hlt2 : w.heap.size + 1 + 1 < w1.heap.size := by omega
  have hlt3 : w.heap.size + 1 + 1 + 1 < w1.heap.size := by omega
  clear hs1 hz3 hb3
  rw [show ((1 : Nat) : Int) = 1 from rfl] at hcall
  unfold NumsPost at hcall
  have hqn : AtomPost w P 6 L c = AtomPost w P 6 L c := rfl
  cases hq : numsQ 1 L with
  | bad er pl =>
    rw [hq] at hcall
    have hcall := hid hcall
    have hfin : Hid (∀ w', But2 (w1.alloc (.cells #[.slice (some ⟨bb, 0, none⟩) 1 1] 84)) w' P (w.heap.size + 1 + 1 + 1) → AtomPost w P 6 L c (wrongP er pl) w') := fun w' h2 => by
      unfold AtomPost
      rw [hno, hq]
      exact ⟨rfl, But2.new hG4.out h2 (by omega)⟩
    clear hq hno hpt hc1 hP4 hB4 hR4 hG4 hg3 hP3 hB3 hR3 hb1 hz1 hqn
    go_wp2_with (first
      | (go_at_call 47
         with_reducible refine hcall.out.mono ?_
         rintro e w5 ⟨rfl, hB5⟩
         have hfin := hid (hfin.out _ hB5)
         clear hB5)
      | fail)
    exact ⟨rfl, hfin.out⟩
  | ok x =>
    obtain ⟨r, L2⟩ := x
    simp only [hq] at hcall
    have hcall := hid hcall
    have hfin : Hid (∀ w', PBox w' P L2 c → w.grownBy w' (some P) → AtomPost w P 6 L c (.returned (.agg #[.int .i64 3, .int .i64 (putN 6 r).k, .int .i64 (putN 6 r).t, .int .i64 (putN 6 r).a, .int .i64 (putN 6 r).n, .slice none 0 0])) w') := fun w' h2 h3 => by
      unfold AtomPost
      rw [hno, hq]
      exact ⟨rfl, h2, h3⟩
    generalize putN 6 r = pp at *
    clear hq hno hpt hc1 hg3 hP3 hB3 hR3 hb1 hz1 hqn
    go_wp2_with (first
      | (go_at_call 47
         with_reducible refine hcall.out.mono ?_
         rintro e w5 ⟨rfl, hP5, hB5, h25⟩
         have hs5 := h25.size
         have hs6 : w1.heap.size < w5.heap.size := by rw [World.size_alloc] at hs5; omega
         obtain ⟨y9, yf, y0, y1, y2, y3, y4, y5⟩ := fmO_cells hB5
         have hR5 : w5.heap[w.heap.size + 1 + 1]? = _ := (h25.block _ (by rw [World.size_alloc]; omega) (by omega) (by omega)).trans hR4.out
         have z0 := cell_of_heap (j := 0) hR5
         have z1 := cell_of_heap (j := 1) hR5
         have z2 := cell_of_heap (j := 2) hR5
         have z3 := cell_of_heap (j := 3) hR5
         have z4 := cell_of_heap (j := 4) hR5
         have z5 := cell_of_heap (j := 5) hR5
         simp at z0 z1 z2 z3 z4 z5
         have zf : ∀ j, w5.frozen? ⟨w.heap.size + 1 + 1, j, none⟩ = false := fun j => unfrozen (j := j) hR5
         have HP5 := hid hP5
         have HG5 := hid (But2.new hG4.out h25 (by omega))
         have HR5 := hid hR5
         clear hB5 h25 hR5 hP5 hs5)
      | fail)
    have hr6 := res6 (c0 := .int .i64 3) (c1 := .int .i64 pp.k) (c2 := .int .i64 pp.t) (c3 := .int .i64 pp.a) (c4 := .int .i64 pp.n) (c5 := .slice none 0 0) HR5.out
    have x0 := cell_of_heap (j := 0) hr6
    have x1 := cell_of_heap (j := 1) hr6
    have x2 := cell_of_heap (j := 2) hr6
    have x3 := cell_of_heap (j := 3) hr6
    have x4 := cell_of_heap (j := 4) hr6
    have x5 := cell_of_heap (j := 5) hr6
    simp at x0 x1 x2 x3 x4 x5
    refine bodyPost_ret (v := .agg #[.int .i64 3, .int .i64 pp.k, .int .i64 pp.t, .int .i64 pp.a, .int .i64 pp.n, .slice none 0 0]) (by simp [results, Tryz.results46, go_sem, x0, x1, x2, x3, x4, x5]) rfl (hfin.out _ (HP5.out.grown (six_grown _ _ _ _ _ _ _ _) (fun n hn => by simp at hn; omega)) (grown_new HG5.out (six_grown _ _ _ _ _ _ _ _) (fun n hn => by simp at hn; omega)))

end Go.Proofs.YtogopcejapklgaaGreatDoor
