/- Parse: the formula of a text, or the error and its place. -/
import Derived.Test.YtogopcejapklgaaGreatDoorPrK
namespace Go.Proofs.YtogopcejapklgaaGreatDoor
open Go.RowKit

/-- What Lex answers. -/
def LexP (L : List UInt8) (w : World) (e : Ending) (w' : World) : Prop :=
  ∃ a cap, e = .returned (.tuple #[.slice a (lexQ L).1.length cap, .int .i64 (lexQ L).2.1, .int .i64 (lexQ L).2.2]) ∧ TkIn w' (fun b => w.heap.size ≤ b ∧ b < w'.heap.size) a (lexQ L).1.length cap (lexQ L).1 ∧ Below w.heap.size w w'
/-- What Parse answers. -/
def PrsPost (L : List UInt8) (w : World) (e : Ending) (w' : World) : Prop :=
  ∃ a cap, e = .returned (.tuple #[.agg #[.int .i64 (prsR L).1.kind, .int .i64 (prsR L).1.prop.k, .int .i64 (prsR L).1.prop.t, .int .i64 (prsR L).1.prop.a, .int .i64 (prsR L).1.prop.n, .slice a (prsR L).1.kids.length cap], .int .i64 (prsR L).2.1, .int .i64 (prsR L).2.2]) ∧
    FmIn w' (In_ w') (fmC (prsR L).1.kind (prsR L).1.prop a (prsR L).1.kids.length cap) (prsR L).1 ∧ Below w.heap.size w w'
theorem zeroF_in (w : World) (S : Nat → Prop) : FmIn w S (fmC 0 Pr.zero none 0 0) zeroF := FmIn.shut (k := 0) (p := Pr.zero) (l := []) (by decide) ⟨by decide, by decide, by decide, by decide⟩ FmRow.nil_
theorem PrsPost.zero {L : List UInt8} {w w' : World} {er at_ : Int} (h : prsR L = (zeroF, er, at_)) (hb : Below w.heap.size w w') : PrsPost L w (.returned (.tuple #[.agg #[.int .i64 0, .int .i64 0, .int .i64 0, .int .i64 0, .int .i64 0, .slice none 0 0], .int .i64 er, .int .i64 at_])) w' := by
  unfold PrsPost
  rw [h]
  exact ⟨none, 0, rfl, zeroF_in _ _, hb⟩

/-- The three results' blocks. -/
structure Bx3 (w x : World) (v0 v1 v2 v3 v4 v5 ve va : Value) : Prop where
  f : x.heap[w.heap.size]? = some (.cells #[v0, v1, v2, v3, v4, v5] 30 (0, 0))
  e : x.heap[w.heap.size + 1]? = some (.cells #[ve] 23 (0, 0))
  a : x.heap[w.heap.size + 1 + 1]? = some (.cells #[va] 3 (0, 0))
  bl : Below w.heap.size w x
theorem Bx3.sz {w x : World} {v0 v1 v2 v3 v4 v5 ve va : Value} (h : Bx3 w x v0 v1 v2 v3 v4 v5 ve va) : w.heap.size + 1 + 1 < x.heap.size := (Array.getElem?_eq_some_iff.1 h.a).1
theorem Bx3.next {w x y : World} {v0 v1 v2 v3 v4 v5 ve va : Value} {r : Option Nat} (h : Bx3 w x v0 v1 v2 v3 v4 v5 ve va) (hg : x.grownBy y r) (hr : ∀ k, r = some k → w.heap.size + 1 + 1 < k) : Bx3 w y v0 v1 v2 v3 v4 v5 ve va := by
  have hs := h.sz
  have hk : ∀ b, b ≤ w.heap.size + 1 + 1 → y.heap[b]? = x.heap[b]? := fun b hb => hg.block b (by omega) fun e => by have := hr b e.symm; omega
  exact ⟨(hk _ (by omega)).trans h.f, (hk _ (by omega)).trans h.e, (hk _ (by omega)).trans h.a, h.bl.grown hg h.bl.size fun k e => by have := hr k e; omega⟩

/-- The first one is written. -/
theorem Bx3.setF {w x : World} {v0 v1 v2 v3 v4 v5 ve va : Value} (h : Bx3 w x v0 v1 v2 v3 v4 v5 ve va) (c0 c1 c2 c3 c4 c5 : Value) :
    Bx3 w ((((((x.setCell ⟨w.heap.size, 0, none⟩ c0).setCell ⟨w.heap.size, 1, none⟩ c1).setCell ⟨w.heap.size, 2, none⟩ c2).setCell ⟨w.heap.size, 3, none⟩ c3).setCell ⟨w.heap.size, 4, none⟩ c4).setCell ⟨w.heap.size, 5, none⟩ c5) c0 c1 c2 c3 c4 c5 ve va := by
  have hs := h.sz
  have g6 := six_grown x w.heap.size c0 c1 c2 c3 c4 c5
  exact ⟨res6 h.f, (g6.block _ (by omega) (by simp)).trans h.e, (g6.block _ (by omega) (by simp; omega)).trans h.a, h.bl.grown g6 h.bl.size fun k e => by cases e; exact Nat.le_refl _⟩
theorem Bx3.setE {w x : World} {v0 v1 v2 v3 v4 v5 ve va : Value} (h : Bx3 w x v0 v1 v2 v3 v4 v5 ve va) (u : Value) : Bx3 w (x.setCell ⟨w.heap.size + 1, 0, none⟩ u) v0 v1 v2 v3 v4 v5 u va :=
  ⟨(Below.heap_setCell _ _ _ _ (by simp)).trans h.f, one_set h.e, (Below.heap_setCell _ _ _ _ (by simp)).trans h.a, h.bl.setCell (by show w.heap.size ≤ w.heap.size + 1; omega) _⟩
theorem Bx3.setA {w x : World} {v0 v1 v2 v3 v4 v5 ve va : Value} (h : Bx3 w x v0 v1 v2 v3 v4 v5 ve va) (u : Value) : Bx3 w (x.setCell ⟨w.heap.size + 1 + 1, 0, none⟩ u) v0 v1 v2 v3 v4 v5 ve u :=
  ⟨(Below.heap_setCell _ _ _ _ (by simp; omega)).trans h.f, (Below.heap_setCell _ _ _ _ (by simp)).trans h.e, one_set h.a, h.bl.setCell (by show w.heap.size ≤ w.heap.size + 1 + 1; omega) _⟩
theorem Bx3.cells {w x : World} {v0 v1 v2 v3 v4 v5 ve va : Value} (h : Bx3 w x v0 v1 v2 v3 v4 v5 ve va) : (x.cell? ⟨w.heap.size, 0, none⟩ = some v0 ∧ x.cell? ⟨w.heap.size, 1, none⟩ = some v1 ∧ x.cell? ⟨w.heap.size, 2, none⟩ = some v2 ∧ x.cell? ⟨w.heap.size, 3, none⟩ = some v3 ∧ x.cell? ⟨w.heap.size, 4, none⟩ = some v4 ∧ x.cell? ⟨w.heap.size, 5, none⟩ = some v5) ∧
    x.cell? ⟨w.heap.size + 1, 0, none⟩ = some ve ∧ x.cell? ⟨w.heap.size + 1 + 1, 0, none⟩ = some va ∧ (∀ j, x.frozen? ⟨w.heap.size, j, none⟩ = false) ∧ (∀ j, x.frozen? ⟨w.heap.size + 1, j, none⟩ = false) ∧ (∀ j, x.frozen? ⟨w.heap.size + 1 + 1, j, none⟩ = false) := by
  refine ⟨⟨?_, ?_, ?_, ?_, ?_, ?_⟩, ?_, ?_, fun j => unfrozen h.f, fun j => unfrozen h.e, fun j => unfrozen h.a⟩
  · rw [cell_of_heap h.f]; rfl
  · rw [cell_of_heap h.f]; rfl
  · rw [cell_of_heap h.f]; rfl
  · rw [cell_of_heap h.f]; rfl
  · rw [cell_of_heap h.f]; rfl
  · rw [cell_of_heap h.f]; rfl
  · rw [cell_of_heap h.e]; rfl
  · rw [cell_of_heap h.a]; rfl

theorem TkIn.keepAt {w w' : World} {S : Nat → Prop} {b off n cap : Nat} {L : List Tok} (h : TkIn w S (some ⟨b, off, none⟩) n cap L) (hk : ∀ o, w'.cell? ⟨b, o, none⟩ = w.cell? ⟨b, o, none⟩) : TkIn w' S (some ⟨b, off, none⟩) n cap L := by
  obtain ⟨h0, h1, h2, h3⟩ := h
  refine ⟨h0, h1, h2, fun hp => ?_⟩
  obtain ⟨b', off', e, hb, hc⟩ := h3 hp
  simp only [Option.some.injEq, Addr.mk.injEq, and_true] at e
  obtain ⟨rfl, rfl⟩ := e
  exact ⟨b, off, rfl, hb, fun i hi j hj => (hk _).trans (hc i hi j hj)⟩
/-- The parser behind the first result's writing. -/
theorem PBox.setF {w x : World} {P : Nat} {L : List Tok} {c : Int} (hP : PBox x P L c) (hE : Ends L) (hlt : w.heap.size + 1 + 1 < P) {ve va : Value} (hB : Bx3 w x (.int .i64 0) (.int .i64 0) (.int .i64 0) (.int .i64 0) (.int .i64 0) (.slice none 0 0) ve va) (c0 c1 c2 c3 c4 c5 : Value) :
    PBox ((((((x.setCell ⟨w.heap.size, 0, none⟩ c0).setCell ⟨w.heap.size, 1, none⟩ c1).setCell ⟨w.heap.size, 2, none⟩ c2).setCell ⟨w.heap.size, 3, none⟩ c3).setCell ⟨w.heap.size, 4, none⟩ c4).setCell ⟨w.heap.size, 5, none⟩ c5) P L c := by
  have g6 := six_grown x w.heap.size c0 c1 c2 c3 c4 c5
  obtain ⟨b, off, cap, h0, hb, hl1, hl2, hl3, g0, g1, g2, g3, hT⟩ := hP.hd hE
  have hne : b ≠ w.heap.size := by
    rintro rfl
    rw [cell_of_heap hB.f] at g1
    have : ∀ j : Nat, ((#[.int .i64 0, .int .i64 0, .int .i64 0, .int .i64 0, .int .i64 0, .slice none 0 0] : Array Value)[j]?) ≠ some (strV (hdT L).text) := by
      intro j
      match j with
      | 0 | 1 | 2 | 3 | 4 | 5 => simp
      | _ + 6 => simp
    exact this _ g1
  have hlP := hP.lt
  have hk : ∀ k, k < x.heap.size → k ≠ w.heap.size → ((((((x.setCell ⟨w.heap.size, 0, none⟩ c0).setCell ⟨w.heap.size, 1, none⟩ c1).setCell ⟨w.heap.size, 2, none⟩ c2).setCell ⟨w.heap.size, 3, none⟩ c3).setCell ⟨w.heap.size, 4, none⟩ c4).setCell ⟨w.heap.size, 5, none⟩ c5).heap[k]? = x.heap[k]? := fun k hlt hne => g6.block k hlt (by simpa using hne)
  have hsz := g6.size
  generalize (((((x.setCell ⟨w.heap.size, 0, none⟩ c0).setCell ⟨w.heap.size, 1, none⟩ c1).setCell ⟨w.heap.size, 2, none⟩ c2).setCell ⟨w.heap.size, 3, none⟩ c3).setCell ⟨w.heap.size, 4, none⟩ c4).setCell ⟨w.heap.size, 5, none⟩ c5 = y at *
  have hPk := hk P hlP (by omega)
  exact ⟨Nat.lt_of_lt_of_le hlP hsz, ⟨_, _, (World.cell?_of_block (w := x) (a := ⟨P, 0, none⟩) hPk).trans h0, hT.keepAt fun o => World.cell?_of_block (w := x) (a := ⟨b, o, none⟩) (hk b (by omega) hne)⟩,
    (World.cell?_of_block (w := x) (a := ⟨P, 1, none⟩) hPk).trans hP.c1, fun o => (World.frozen?_of_block (w := x) (a := ⟨P, o, none⟩) hPk).trans (hP.f0 o)⟩

/-- The door behind a panic. -/
theorem door_wrong {L : List UInt8} (tm : Array Value) (w W : World) (er i : Int) (hR : prsR L = (zeroF, er, i)) {v0 v1 v2 v3 v4 v5 ve va : Value} (hB : Bx3 w W v0 v1 v2 v3 v4 v5 ve va)
    (t2 : tm[2]? = some (.pointer (some ⟨w.heap.size, 0, none⟩))) (t3 : tm[3]? = some (.pointer (some ⟨w.heap.size + 1, 0, none⟩))) (t4 : tm[4]? = some (.pointer (some ⟨w.heap.size + 1 + 1, 0, none⟩))) :
    bodyPostD Tryz.prog Tryz.f12 (PrsPost L w) (Exit.panic [{ v := .iface 56 (.agg #[.int .i64 er, .int .i64 i]), recovered := false }])
      { tmps := tm, defers := [{ target := Target.fn (Fn.func 25) #[.pointer (some ⟨w.heap.size, 0, none⟩), .pointer (some ⟨w.heap.size + 1, 0, none⟩), .pointer (some ⟨w.heap.size + 1 + 1, 0, none⟩)], args := #[] }] } W := by
  refine leaves_cons (f := 25) (args := #[.pointer (some ⟨w.heap.size, 0, none⟩), .pointer (some ⟨w.heap.size + 1, 0, none⟩), .pointer (some ⟨w.heap.size + 1 + 1, 0, none⟩)]) (by simp) (by simp [go_sem]) ?_
  refine (catch_wrong w.heap.size (w.heap.size + 1) (w.heap.size + 1 + 1) er i _ _ _ _ _ _ _ _ _ _ _ [] W (by omega) (by omega) (by omega) hB.f hB.e hB.a).mono ?_
  rintro e u' w'' ⟨rfl, rfl, hT⟩
  obtain ⟨x0, x1, x2, x3, x4, x5⟩ := hT.f0
  have x6 := hT.e0
  have x7 := hT.a0
  have hb : Below w.heap.size w w'' := by
    have h := hB.bl
    exact ⟨hT.os.trans h.os, hT.tape.trans h.tape, hT.output.trans h.output, Nat.le_trans h.size hT.size, fun k hk => (hT.block k (by have := h.size; omega) (by omega) (by omega) (by omega)).trans (h.block k hk)⟩
  have hpost := hid (PrsPost.zero (L := L) hR hb)
  simp [Leaves, settle, results, Tryz.results12, go_sem, t2, t3, t4, x0, x1, x2, x3, x4, x5, x6, x7]
  exact hpost.out
/-- The door behind the end. -/
theorem door_ret {L : List UInt8} (tm : Array Value) (w W : World) {v0 v1 v2 v3 v4 v5 ve va : Value} (hB : Bx3 w W v0 v1 v2 v3 v4 v5 ve va)
    (t2 : tm[2]? = some (.pointer (some ⟨w.heap.size, 0, none⟩))) (t3 : tm[3]? = some (.pointer (some ⟨w.heap.size + 1, 0, none⟩))) (t4 : tm[4]? = some (.pointer (some ⟨w.heap.size + 1 + 1, 0, none⟩)))
    (hpost : Hid (∀ W', Below W.heap.size W W' → PrsPost L w (.returned (.tuple #[.agg #[v0, v1, v2, v3, v4, v5], ve, va])) W')) :
    bodyPostD Tryz.prog Tryz.f12 (PrsPost L w) Exit.ret
      { tmps := tm, defers := [{ target := Target.fn (Fn.func 25) #[.pointer (some ⟨w.heap.size, 0, none⟩), .pointer (some ⟨w.heap.size + 1, 0, none⟩), .pointer (some ⟨w.heap.size + 1 + 1, 0, none⟩)], args := #[] }] } W := by
  refine leaves_cons (f := 25) (args := #[.pointer (some ⟨w.heap.size, 0, none⟩), .pointer (some ⟨w.heap.size + 1, 0, none⟩), .pointer (some ⟨w.heap.size + 1 + 1, 0, none⟩)]) (by simp) (by simp [go_sem]) ?_
  refine (catch_idle w.heap.size (w.heap.size + 1) (w.heap.size + 1 + 1) W).mono ?_
  rintro e u' w'' ⟨rfl, rfl, hw⟩
  have hB2 : Bx3 w w'' v0 v1 v2 v3 v4 v5 ve va := by subst hw; exact hB.next (World.grownBy_alloc W _ none) (fun k e => by cases e)
  have hpo := hid (hpost.out w'' (by subst hw; exact (Below.refl _ _).alloc (Nat.le_refl _) _))
  clear hw
  have x0 := cell_of_heap (j := 0) hB2.f
  have x1 := cell_of_heap (j := 1) hB2.f
  have x2 := cell_of_heap (j := 2) hB2.f
  have x3 := cell_of_heap (j := 3) hB2.f
  have x4 := cell_of_heap (j := 4) hB2.f
  have x5 := cell_of_heap (j := 5) hB2.f
  have x6 := cell_of_heap (j := 0) hB2.e
  have x7 := cell_of_heap (j := 0) hB2.a
  simp at x0 x1 x2 x3 x4 x5 x6 x7
  simp [Leaves, settle, results, Tryz.results12, go_sem, t2, t3, t4, x0, x1, x2, x3, x4, x5, x6, x7]
  exact hpo.out

set_option maxRecDepth 100000 in
set_option maxHeartbeats 8000000 in
theorem parse_of (s : ByteArray) (w : World) (hlex : ∀ W, Below w.heap.size w W → Calls Tryz.prog 11 #[.string s] W (LexP s.data.toList W)) :
    Calls Tryz.prog 12 #[.string s] w (PrsPost s.data.toList w) := by
  have hq := lexQ_spec s.data.toList
  have Hlex := hid hlex
  clear hlex
  unfold LexP at Hlex
  have hprs : Hid (prsR s.data.toList = if (lexQ s.data.toList).2.1 ≠ 0 then (zeroF, (lexQ s.data.toList).2) else match parT (lexQ s.data.toList).1 with | .ok f => (f, 0, 0) | .bad e i => (zeroF, e, i)) := rfl
  generalize lexQ s.data.toList = lq at *
  obtain ⟨ts, er, at_⟩ := lq
  dsimp only at hq Hlex hprs
  have hmf : ∀ (fn : Fn) (first cap : Array Value) (w : World), (Instr.makeFunc fn first cap).run Tryz.prog w = .ok (.func fn first cap) w := fun _ _ _ _ => rfl
  go_enter_defers Tryz.func12, Tryz.ntmps12
  go_upto_region 1 with fail
  generalize hW : World.alloc _ _ = W0
  have hB0 : Hid (Bx3 w W0 (.int .i64 0) (.int .i64 0) (.int .i64 0) (.int .i64 0) (.int .i64 0) (.slice none 0 0) (.int .i64 0) (.int .i64 0)) := by
    subst hW
    exact ⟨(Below.heap_alloc _ _ _ (by simp; omega)).trans ((Below.heap_alloc _ _ _ (by simp)).trans (alloc_at rfl)), (Below.heap_alloc _ _ _ (by simp)).trans (alloc_at (by simp)), alloc_at (by simp), (((Below.refl _ _).alloc (Nat.le_refl _) _).alloc (by simp) _).alloc (by simp; omega) _⟩
  clear hW
  have hcall := hid (Hlex.out W0 hB0.out.bl)
  clear Hlex
  have c3 := cell_of_heap (j := 0) hB0.out.e
  simp at c3
  go_upto_region 2 with (first
    | (go_at_call 11
       with_reducible refine hcall.out.mono ?_
       rintro e w1 ⟨a, cap, rfl, hTk, hb1⟩
       have hB1 := hid (hB0.out.next (below_grown hb1 none) (fun k e => by cases e))
       have hTk := hid hTk
       have y0 := cell_of_heap (j := 0) hB1.out.e
       have y1 := cell_of_heap (j := 0) hB1.out.a
       simp at y0 y1
       have y2 : w1.frozen? ⟨w.heap.size + 1, 0, none⟩ = false := unfrozen hB1.out.e
       have y3 : w1.frozen? ⟨w.heap.size + 1 + 1, 0, none⟩ = false := unfrozen hB1.out.a
       have y4 := hB1.out.sz)
    | fail)
  generalize hW : World.setCell (World.setCell w1 _ _) _ _ = W2
  have hB2 : Hid (Bx3 w W2 (.int .i64 0) (.int .i64 0) (.int .i64 0) (.int .i64 0) (.int .i64 0) (.slice none 0 0) (.int .i64 er) (.int .i64 at_)) := by
    have hb1 := hB1.out
    subst hW
    refine ⟨?_, ?_, ?_, (hb1.bl.setCell (by show w.heap.size ≤ w.heap.size + 1; omega) _).setCell (by show w.heap.size ≤ w.heap.size + 1 + 1; omega) _⟩
    · rw [Below.heap_setCell _ _ _ _ (by simp; omega), Below.heap_setCell _ _ _ _ (by simp)]; exact hb1.f
    · rw [Below.heap_setCell _ _ _ _ (by simp)]; exact one_set hb1.e
    · exact one_set (by rw [Below.heap_setCell _ _ _ _ (by simp)]; exact hb1.a)
  have hTk2 : Hid (TkIn W2 (fun b => b < W2.heap.size) a ts.length cap ts) := by
    have hs0 := hB0.out.sz
    subst hW
    refine (hTk.out.keep fun b o hb => ?_).widen fun b hb => by simpa using hb.2
    have := hb.1
    rw [World.cell?_setCell_other _ _ _ _ (by intro e; injection e; omega), World.cell?_setCell_other _ _ _ _ (by intro e; injection e; omega)]
  clear hW y0 y1 y2 y3 y4 hB1 hTk hb1 hB0 hcall c3
  have y0 := cell_of_heap (j := 0) hB2.out.e
  have y1 := cell_of_heap (j := 0) hB2.out.a
  have z0 := cell_of_heap (j := 0) hB2.out.f
  have z1 := cell_of_heap (j := 1) hB2.out.f
  have z2 := cell_of_heap (j := 2) hB2.out.f
  have z3 := cell_of_heap (j := 3) hB2.out.f
  have z4 := cell_of_heap (j := 4) hB2.out.f
  have z5 := cell_of_heap (j := 5) hB2.out.f
  simp at y0 y1 z0 z1 z2 z3 z4 z5
  have yf : ∀ j, W2.frozen? ⟨w.heap.size + 1, j, none⟩ = false := fun j => unfrozen hB2.out.e
  have ya : ∀ j, W2.frozen? ⟨w.heap.size + 1 + 1, j, none⟩ = false := fun j => unfrozen hB2.out.a
  have zf : ∀ j, W2.frozen? ⟨w.heap.size, j, none⟩ = false := fun j => unfrozen hB2.out.f
  have hsz := hB2.out.sz
  rcases hq with ⟨rfl, -, rfl, -, -, hE, hT, -⟩ | ⟨her, rfl, -, -⟩
  · clear y0 y1 z0 z1 z2 z3 z4 z5 yf ya zf
    obtain ⟨⟨z0, z1, z2, z3, z4, z5⟩, y0, y1, zf, yf, ya⟩ := hB2.out.cells
    go_upto_region 6 with fail
    generalize hW : World.alloc W2 _ = W3
    have hB3 : Hid (Bx3 w W3 (.int .i64 0) (.int .i64 0) (.int .i64 0) (.int .i64 0) (.int .i64 0) (.slice none 0 0) (.int .i64 0) (.int .i64 0)) := by subst hW; exact hB2.out.next (World.grownBy_alloc W2 _ none) (fun k e => by cases e)
    have hP3 : Hid (PBox W3 W2.heap.size ts (0 : Nat)) := by
      subst hW
      exact ⟨by simp, ⟨a, cap, by go_simp, hTk2.out.keep fun b o hb => World.cell?_alloc_lt _ _ _ hb⟩, by go_simp, fun o => unfrozen (alloc_at rfl)⟩
    have hzP : w.heap.size + 1 + 1 < W2.heap.size := hsz
    clear hW z0 z1 z2 z3 z4 z5 y0 y1 zf yf ya hTk2 hB2 hsz
    generalize W2.heap.size = P at *
    have hform := formula_any 20 (Nat.le_refl _) P 0 ts 0 W3 (by omega) (by omega) hP3.out hE hT
    have hspec := (parL_spec 20 0 ts hE hT).1
    unfold FormPost at hform
    have hprs2 : Hid (prsR s.data.toList = match parT ts with | .ok f => (f, 0, 0) | .bad e i => (zeroF, e, i)) := by show _ = _; rw [hprs.out, if_neg (by simp)]
    have HE := hid hE
    clear hprs
    cases hpar : parL 20 0 ts with
    | bad e2 pl =>
      rw [hpar] at hform
      have hR : Hid (prsR s.data.toList = (zeroF, e2, (pl : Int))) := by show _ = _; rw [hprs2.out]; unfold parT; rw [hpar]
      have hform := hid hform
      clear hprs2 hspec hpar hE hT
      go_wp2_with fail
      refine hform.out.mono ?_
      rintro e w4 ⟨rfl, hg⟩
      have hB4 := hid (hB3.out.next hg (fun k e => by cases e; omega))
      go_wp2_with fail
      exact door_wrong _ w w4 e2 pl hR.out hB4.out rfl rfl rfl
    | ok x =>
      obtain ⟨f, L1, c1⟩ := x
      rw [hpar] at hform
      obtain ⟨hLf, -, -, -⟩ := hspec _ _ _ hpar
      have hform := hid hform
      have HE1 := hid hLf.ends
      by_cases h0 : (hdT L1).kind = 0
      · have hR : Hid (prsR s.data.toList = (f, 0, 0)) := by show _ = _; rw [hprs2.out]; unfold parT; rw [hpar]; simp only []; rw [if_pos h0]
        have h0 := hid h0
        clear hprs2 hspec hpar hE hT hLf
        go_wp2_with fail
        refine hform.out.mono ?_
        rintro e w4 ⟨ka, kc, rfl, hf4, hP4, hg⟩
        have hB4 := hid (hB3.out.next hg (fun k e => by cases e; omega))
        have hP5 := hid (hP4.setF HE1.out hzP hB4.out (.int .i64 f.kind) (.int .i64 f.prop.k) (.int .i64 f.prop.t) (.int .i64 f.prop.a) (.int .i64 f.prop.n) (.slice ka f.kids.length kc))
        have hB5 := hid (hB4.out.setF (.int .i64 f.kind) (.int .i64 f.prop.k) (.int .i64 f.prop.t) (.int .i64 f.prop.a) (.int .i64 f.prop.n) (.slice ka f.kids.length kc))
        have hf5 : Hid (FmIn w4 (New W3 w4) (fmC f.kind f.prop ka f.kids.length kc) f) := hf4
        have hg6 := hid (six_grown w4 w.heap.size (.int .i64 f.kind) (.int .i64 f.prop.k) (.int .i64 f.prop.t) (.int .i64 f.prop.a) (.int .i64 f.prop.n) (.slice ka f.kids.length kc))
        obtain ⟨⟨z0, z1, z2, z3, z4, z5⟩, y0, y1, zf, yf, ya⟩ := hB4.out.cells
        have hl4 := hB4.out.sz
        clear hf4 hP4 hg
        go_upto_region 7 with fail
        generalize World.setCell (World.setCell (World.setCell (World.setCell (World.setCell (World.setCell w4 _ _) _ _) _ _) _ _) _ _) _ _ = W5 at hP5 hB5 hg6 ⊢
        have hbelow : Hid (∀ b, w.heap.size + 1 + 1 < b → b < w4.heap.size → W5.heap[b]? = w4.heap[b]?) := fun b h1 h2 => hg6.out.block b h2 (by simp; omega)
        have hz5 : Hid (w4.heap.size ≤ W5.heap.size) := hg6.out.size
        clear z0 z1 z2 z3 z4 z5 y0 y1 zf yf ya hl4 hB4 hg6
        obtain ⟨b, off, cap7, t0, hb, hl1, hl2, hl3, g0, g1, g2, g3, -⟩ := hP5.out.hd HE1.out
        have i0 : (0 : Int) < L1.length := by omega
        rw [h0.out] at g0
        have hyes := want_yes P 21
        go_upto_region 8 with (first
          | (go_at_call 27
             with_reducible refine (hyes _).mono ?_
             rintro e w6 ⟨rfl, rfl⟩)
          | fail)
        have hB8 := hid (((hB5.out.setF (.int .i64 f.kind) (.int .i64 f.prop.k) (.int .i64 f.prop.t) (.int .i64 f.prop.a) (.int .i64 f.prop.n) (.slice ka f.kids.length kc)).setE (.int .i64 0)).setA (.int .i64 0))
        have hfin : Hid (∀ W', Below W5.heap.size W5 W' ∨ True → (∀ b, w.heap.size + 1 + 1 < b → b < W5.heap.size → W'.heap[b]? = W5.heap[b]?) → W5.heap.size ≤ W'.heap.size → Below w.heap.size w W' → PrsPost s.data.toList w (.returned (.tuple #[.agg #[.int .i64 f.kind, .int .i64 f.prop.k, .int .i64 f.prop.t, .int .i64 f.prop.a, .int .i64 f.prop.n, .slice ka f.kids.length kc], .int .i64 0, .int .i64 0])) W') := by
          intro W' _ hblk hsz hbl
          unfold PrsPost
          rw [hR.out]
          have hz3 := hB3.out.sz
          refine ⟨ka, kc, rfl, (hf5.out.keep fun b o hb => ?_).widen fun b hb => ?_, hbl⟩
          · have h1 := hb.1
            have h2 := hb.2
            have h3 := hz5.out
            exact World.cell?_of_block (w := w4) (a := ⟨b, o, none⟩) ((hblk b (by omega) (by omega)).trans (hbelow.out b (by omega) h2))
          · have h2 := hb.2
            have h3 := hz5.out
            show b < _
            omega
        obtain ⟨⟨z0, z1, z2, z3, z4, z5⟩, y0, y1, zf, yf, ya⟩ := hB5.out.cells
        have hl5 := hB5.out.sz
        have hz8 : Hid (W5.heap.size ≤ W5.heap.size) := Nat.le_refl _
        clear t0 hb hl1 hl2 hl3 g0 g1 g2 g3 i0
        go_wp2_with fail
        refine door_ret _ w _ hB8.out rfl rfl rfl (fun W' hW' => hfin.out W' (.inr trivial) (fun b h1 h2 => ?_) ?_ (hB8.out.bl.trans (hW'.mono hB8.out.bl.size)))
        · refine (hW'.block b (by simpa using h2)).trans ?_
          rw [Below.heap_setCell _ _ _ _ (by simp; omega), Below.heap_setCell _ _ _ _ (by simp; omega)]
          exact (six_grown W5 w.heap.size _ _ _ _ _ _).block b h2 (by simp; omega)
        · have := hW'.size
          simpa using this
      · have hR : Hid (prsR s.data.toList = (zeroF, 21, ((hdT L1).place : Int))) := by show _ = _; rw [hprs2.out]; unfold parT; rw [hpar]; simp only []; rw [if_neg h0]
        have h0 := hid h0
        clear hprs2 hspec hpar hE hT hLf
        go_wp2_with fail
        refine hform.out.mono ?_
        rintro e w4 ⟨ka, kc, rfl, hf4, hP4, hg⟩
        have hB4 := hid (hB3.out.next hg (fun k e => by cases e; omega))
        have hP5 := hid (hP4.setF HE1.out hzP hB4.out (.int .i64 f.kind) (.int .i64 f.prop.k) (.int .i64 f.prop.t) (.int .i64 f.prop.a) (.int .i64 f.prop.n) (.slice ka f.kids.length kc))
        have hB5 := hid (hB4.out.setF (.int .i64 f.kind) (.int .i64 f.prop.k) (.int .i64 f.prop.t) (.int .i64 f.prop.a) (.int .i64 f.prop.n) (.slice ka f.kids.length kc))
        have hf5 : Hid (FmIn w4 (New W3 w4) (fmC f.kind f.prop ka f.kids.length kc) f) := hf4
        have hg6 := hid (six_grown w4 w.heap.size (.int .i64 f.kind) (.int .i64 f.prop.k) (.int .i64 f.prop.t) (.int .i64 f.prop.a) (.int .i64 f.prop.n) (.slice ka f.kids.length kc))
        obtain ⟨⟨z0, z1, z2, z3, z4, z5⟩, y0, y1, zf, yf, ya⟩ := hB4.out.cells
        have hl4 := hB4.out.sz
        clear hf4 hP4 hg
        go_upto_region 7 with fail
        generalize World.setCell (World.setCell (World.setCell (World.setCell (World.setCell (World.setCell w4 _ _) _ _) _ _) _ _) _ _) _ _ = W5 at hP5 hB5 hg6 ⊢
        have hbelow : Hid (∀ b, w.heap.size + 1 + 1 < b → b < w4.heap.size → W5.heap[b]? = w4.heap[b]?) := fun b h1 h2 => hg6.out.block b h2 (by simp; omega)
        have hz5 : Hid (w4.heap.size ≤ W5.heap.size) := hg6.out.size
        clear z0 z1 z2 z3 z4 z5 y0 y1 zf yf ya hl4 hB4 hg6
        obtain ⟨b, off, cap7, t0, hb, hl1, hl2, hl3, g0, g1, g2, g3, -⟩ := hP5.out.hd HE1.out
        have i0 : (0 : Int) < L1.length := by omega
        have hkb : ((hdT L1).kind == 0) = false := by simpa using h0.out
        have hno := hid (want_no P L1 c1 21 W5 hP5.out HE1.out)
        go_wp2_with (first
          | (go_at_call 27
             with_reducible refine hno.out.mono ?_
             rintro e w6 ⟨rfl, rfl⟩)
          | fail)
        exact door_wrong _ w W5 21 _ hR.out hB5.out rfl rfl rfl
  · have hne : er ≠ 0 := by rcases her with rfl | rfl <;> decide
    have hneb : (er != 0) = true := by simpa using hne
    have hR : Hid (prsR s.data.toList = (zeroF, er, at_)) := by show _ = _; rw [hprs.out, if_pos hne]
    clear hprs her hne
    go_wp2_with fail
    obtain ⟨p, hp⟩ : ∃ p, p = w.heap.size := ⟨_, rfl⟩
    obtain ⟨q, hq⟩ : ∃ q, q = w.heap.size + 1 := ⟨_, rfl⟩
    obtain ⟨r, hr⟩ : ∃ r, r = w.heap.size + 1 + 1 := ⟨_, rfl⟩
    have d1 : p ≠ q := by omega
    have d2 : p ≠ r := by omega
    have d3 : q ≠ r := by omega
    have d4 : q ≠ p := by omega
    have d5 : r ≠ p := by omega
    have d6 : r ≠ q := by omega
    rw [← hr, ← hq, ← hp]
    rw [← hr] at y1 ya hsz
    rw [← hq] at y0 yf
    rw [← hp] at z0 z1 z2 z3 z4 z5 zf
    have Hp := hid (And.intro hp (And.intro hq hr))
    clear hp hq hr
    refine wp_region_noPanic ?_
    refine wp_region_held_drew (S := fun W => W.cell? ⟨q, 0, none⟩ = some (.int .i64 er) ∧ W.cell? ⟨r, 0, none⟩ = some (.int .i64 at_)) (by kernel_rfl) ⟨y0, y1⟩ (fun hHeld => ?_)
    have y0 : W2.drew.cell? ⟨q, 0, none⟩ = some (.int .i64 er) := y0
    have y1 : W2.drew.cell? ⟨r, 0, none⟩ = some (.int .i64 at_) := y1
    have z0 : W2.drew.cell? ⟨p, 0, none⟩ = some (.int .i64 0) := z0
    have z1 : W2.drew.cell? ⟨p, 1, none⟩ = some (.int .i64 0) := z1
    have z2 : W2.drew.cell? ⟨p, 2, none⟩ = some (.int .i64 0) := z2
    have z3 : W2.drew.cell? ⟨p, 3, none⟩ = some (.int .i64 0) := z3
    have z4 : W2.drew.cell? ⟨p, 4, none⟩ = some (.int .i64 0) := z4
    have z5 : W2.drew.cell? ⟨p, 5, none⟩ = some (.slice none 0 0) := z5
    have yf : ∀ j, W2.drew.frozen? ⟨q, j, none⟩ = false := yf
    have ya : ∀ j, W2.drew.frozen? ⟨r, j, none⟩ = false := ya
    have zf : ∀ j, W2.drew.frozen? ⟨p, j, none⟩ = false := zf
    have hB3 : Hid (Bx3 w W2.drew (.int .i64 0) (.int .i64 0) (.int .i64 0) (.int .i64 0) (.int .i64 0) (.slice none 0 0) (.int .i64 er) (.int .i64 at_)) := ⟨hB2.out.f, hB2.out.e, hB2.out.a, hB2.out.bl.drew⟩
    generalize World.drew W2 = W3 at y0 y1 z0 z1 z2 z3 z4 z5 yf ya zf hHeld hB3 ⊢
    refine takeL (i := 1) (v := ?_) rfl (by kernel_rfl) (by kernel_rfl) (by kernel_rfl) (fun _ _ _ h => h) (Or.inl ⟨by rfl, ?_⟩) (by assumption) ?_
    rotate_left
    focus (intro w hSw; go_simp; try with_reducible rfl)
    try simp only [Act.put, List.setIfInBounds_toArray, List.set_cons_zero, List.set_cons_succ]
    refine takeL (i := 2) (v := ?_) rfl (by kernel_rfl) (by kernel_rfl) (by kernel_rfl) (fun _ _ _ h => h) (Or.inl ⟨by rfl, ?_⟩) (by assumption) ?_
    rotate_left
    focus (intro w hSw; go_simp; try with_reducible rfl)
    try simp only [Act.put, List.setIfInBounds_toArray, List.set_cons_zero, List.set_cons_succ]
    refine callL (i := 0) (by kernel_rfl) rfl (fun K hQ => ?_)
    go_simp
    refine hQ.out _ _ ⟨by go_simp, by go_simp⟩ (fun hHeld => ?_)
    clear hQ
    try simp only [Act.put, List.setIfInBounds_toArray, List.set_cons_zero, List.set_cons_succ]
    refine callL (i := 3) (by kernel_rfl) rfl (fun K hQ => ?_)
    go_simp
    refine hQ.out _ _ ⟨by go_simp, by go_simp⟩ (fun hHeld => ?_)
    clear hQ
    try simp only [Act.put, List.setIfInBounds_toArray, List.set_cons_zero, List.set_cons_succ]
    refine callL (i := 4) (by kernel_rfl) rfl (fun K hQ => ?_)
    go_simp
    refine hQ.out _ _ ⟨by go_simp, by go_simp⟩ (fun hHeld => ?_)
    clear hQ
    try simp only [Act.put, List.setIfInBounds_toArray, List.set_cons_zero, List.set_cons_succ]
    refine callL (i := 5) (by kernel_rfl) rfl (fun K hQ => ?_)
    go_simp
    refine hQ.out _ _ ⟨by go_simp, by go_simp⟩ (fun hHeld => ?_)
    clear hQ
    try simp only [Act.put, List.setIfInBounds_toArray, List.set_cons_zero, List.set_cons_succ]
    refine wpAnyH_done (by kernel_rfl) ?_ _
    refine NoPanic.normal ?_
    obtain ⟨rfl, rfl, rfl⟩ := Hp.out
    have hB4 := ((hB3.out.setF (.int .i64 0) (.int .i64 0) (.int .i64 0) (.int .i64 0) (.int .i64 0) (.slice none 0 0)).setE (.int .i64 er)).setA (.int .i64 at_)
    have hpost := hid (PrsPost.zero hR.out hB4.bl)
    obtain ⟨⟨x0, x1, x2, x3, x4, x5⟩, x6, x7, -, -, -⟩ := hB4.cells
    clear hB4
    go_wp2_with fail
    simp [bodyPostD, Leaves, results, Tryz.results12, go_sem, x0, x1, x2, x3, x4, x5, x6, x7]
    exact hpost.out
end Go.Proofs.YtogopcejapklgaaGreatDoor
