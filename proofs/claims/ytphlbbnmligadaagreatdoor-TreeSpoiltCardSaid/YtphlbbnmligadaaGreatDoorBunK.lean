/- A statement that the maker is making: its block. -/
import Derived.Test.YtphlbbnmligadaaGreatDoorMkP
namespace Go.Proofs.YtphlbbnmligadaaGreatDoor
open Go.RowKit

def XS (X : Nat) (w : World) (b : Nat) : Prop := X < b ∧ b < w.heap.size
def z13 : Array Value := #[.int .i64 0, .int .i64 0, .int .i64 0, .int .i64 0, .int .i64 0, .int .u8 0, .slice none 0 0, .int .i64 0, .int .i64 0, .int .u8 0, .slice none 0 0, .slice none 0 0, .slice none 0 0]
/-- A statement that is being made lies in block X; the answer's block is new. -/
structure Bld (w w' : World) (B m t X : Nat) (k r v : Int) (u0 u1 u2 u3 : Value) (xa : Ex) (v0 v1 v2 v3 : Value) (xb : Ex) (ta : Option Addr) (tc : Nat) (T : List St) (ea : Option Addr) (ec : Nat) (E : List St) : Prop where
  hX : w'.heap[X]? = some (.cells #[.int .i64 k, .int .i64 r, .int .i64 v, u0, u1, u2, u3, v0, v1, v2, v3, .slice ta T.length tc, .slice ea E.length ec] 56 (0, 0))
  hR : w'.heap[w.heap.size]? = some (.cells z13 56 (0, 0))
  mkr : Mkr w' B m t
  gr : w.grownBy w' (some m)
  lt : w.heap.size < X
  ml : m < w.heap.size
  sep : Sep w' (X + 1) w'.heap.size [u0, u1, u2, u3] [v0, v1, v2, v3] xa xb (.slice ta T.length tc) (.slice ea E.length ec) T E
namespace Bld
variable {w w' : World} {B m t X : Nat} {k r v : Int} {u0 u1 u2 u3 : Value} {xa : Ex} {v0 v1 v2 v3 : Value} {xb : Ex} {ta : Option Addr} {tc : Nat} {T : List St} {ea : Option Addr} {ec : Nat} {E : List St}
theorem xlt (h : Bld w w' B m t X k r v u0 u1 u2 u3 xa v0 v1 v2 v3 xb ta tc T ea ec E) : X < w'.heap.size := (Array.getElem?_eq_some_iff.1 h.hX).1
theorem cell (h : Bld w w' B m t X k r v u0 u1 u2 u3 xa v0 v1 v2 v3 xb ta tc T ea ec E) : w'.cell? ⟨X, 0, none⟩ = some (.int .i64 k) := cell_of_heap h.hX
theorem free (h : Bld w w' B m t X k r v u0 u1 u2 u3 xa v0 v1 v2 v3 xb ta tc T ea ec E) (j : Nat) : w'.frozen? ⟨X, j, none⟩ = false := unfrozen h.hX
/-- Behind a call of the maker's. -/
theorem call (h : Bld w w' B m t X k r v u0 u1 u2 u3 xa v0 v1 v2 v3 xb ta tc T ea ec E) {w2 : World} {t2 : Nat} (hM : Mkr w2 B m t2) (hg : w'.grownBy w2 (some m)) : Bld w w2 B m t2 X k r v u0 u1 u2 u3 xa v0 v1 v2 v3 xb ta tc T ea ec E := by
  have hx := h.xlt
  have hl := h.lt
  have hm := h.ml
  exact ⟨(hg.block X hx (by simp; omega)).trans h.hX, (hg.block _ (by omega) (by simp; omega)).trans h.hR, hM, grownBy_trans h.gr hg, hl, hm,
    (h.sep.kept fun b hb hb' => hg.block b hb' (by simp; omega)).widen (Nat.le_refl _) hg.size⟩
/-- A row that a call has made: Then's, Else's. -/
theorem rowT (h : Bld w w' B m t X k r v u0 u1 u2 u3 xa v0 v1 v2 v3 xb none 0 [] none 0 []) {w2 : World} {a : Option Addr} {c : Nat} {L : List St} (hg : w'.grownBy w2 (some m)) (hL : StsX w2 w'.heap.size w2.heap.size (.slice a L.length c) L) :
    Sep w2 (X + 1) w2.heap.size [u0, u1, u2, u3] [v0, v1, v2, v3] xa xb (.slice a L.length c) (.slice none 0 0) L [] := by
  have hl := h.lt
  have hm := h.ml
  exact (h.sep.kept fun b hb hb' => hg.block b hb' (by simp; omega)).newT hL.rw_ hg.size
theorem rowE (h : Bld w w' B m t X k r v u0 u1 u2 u3 xa v0 v1 v2 v3 xb ta tc T none 0 []) {w2 : World} {a : Option Addr} {c : Nat} {L : List St} (hg : w'.grownBy w2 (some m)) (hL : StsX w2 w'.heap.size w2.heap.size (.slice a L.length c) L) :
    Sep w2 (X + 1) w2.heap.size [u0, u1, u2, u3] [v0, v1, v2, v3] xa xb (.slice ta T.length tc) (.slice a L.length c) T L := by
  have hl := h.lt
  have hm := h.ml
  exact (h.sep.kept fun b hb hb' => hg.block b hb' (by simp; omega)).newE hL.rw_ hg.size
/-- Behind a store into the block. -/
theorem put (h : Bld w w' B m t X k r v u0 u1 u2 u3 xa v0 v1 v2 v3 xb ta tc T ea ec E) (j : Nat) (u : Value) {w2 : World} (hw2 : w2 = w'.setCell ⟨X, j, none⟩ u) :
    w2.heap.size = w'.heap.size ∧ w2.heap[w.heap.size]? = some (.cells z13 56 (0, 0)) ∧ Mkr w2 B m t ∧ w.grownBy w2 (some m) ∧
    Sep w2 (X + 1) w2.heap.size [u0, u1, u2, u3] [v0, v1, v2, v3] xa xb (.slice ta T.length tc) (.slice ea E.length ec) T E ∧ (∀ b, X + 1 ≤ b → w2.heap[b]? = w'.heap[b]?) := by
  subst hw2
  have hl := h.lt
  have hm := h.ml
  have hs : (w'.setCell ⟨X, j, none⟩ u).heap.size = w'.heap.size := by simp
  have hk : ∀ b, X + 1 ≤ b → (w'.setCell ⟨X, j, none⟩ u).heap[b]? = w'.heap[b]? := fun b hb => Below.heap_setCell _ _ _ _ (by simp; omega)
  exact ⟨hs, (Below.heap_setCell _ _ _ _ (by simp; omega)).trans h.hR, h.mkr.set (by omega) _ _, grownBy_new h.gr (by omega) _ _, by rw [hs]; exact h.sep.kept fun b hb _ => hk b hb, hk⟩
theorem putK (h : Bld w w' B m t X k r v u0 u1 u2 u3 xa v0 v1 v2 v3 xb ta tc T ea ec E) (n : Int) : Bld w (w'.setCell ⟨X, 0, none⟩ (.int .i64 n)) B m t X n r v u0 u1 u2 u3 xa v0 v1 v2 v3 xb ta tc T ea ec E := by
  obtain ⟨-, p2, p3, p4, p5, -⟩ := h.put 0 (.int .i64 n) rfl
  exact ⟨by simp [World.setCell, Array.getElem?_modify, h.hX], p2, p3, p4, h.lt, h.ml, p5⟩
theorem putR (h : Bld w w' B m t X k r v u0 u1 u2 u3 xa v0 v1 v2 v3 xb ta tc T ea ec E) (n : Int) : Bld w (w'.setCell ⟨X, 1, none⟩ (.int .i64 n)) B m t X k n v u0 u1 u2 u3 xa v0 v1 v2 v3 xb ta tc T ea ec E := by
  obtain ⟨-, p2, p3, p4, p5, -⟩ := h.put 1 (.int .i64 n) rfl
  exact ⟨by simp [World.setCell, Array.getElem?_modify, h.hX], p2, p3, p4, h.lt, h.ml, p5⟩
theorem putV (h : Bld w w' B m t X k r v u0 u1 u2 u3 xa v0 v1 v2 v3 xb ta tc T ea ec E) (n : Int) : Bld w (w'.setCell ⟨X, 2, none⟩ (.int .i64 n)) B m t X k r n u0 u1 u2 u3 xa v0 v1 v2 v3 xb ta tc T ea ec E := by
  obtain ⟨-, p2, p3, p4, p5, -⟩ := h.put 2 (.int .i64 n) rfl
  exact ⟨by simp [World.setCell, Array.getElem?_modify, h.hX], p2, p3, p4, h.lt, h.ml, p5⟩
theorem putT (h : Bld w w' B m t X k r v u0 u1 u2 u3 xa v0 v1 v2 v3 xb none 0 [] none 0 []) {a : Option Addr} {c : Nat} {L : List St} (hL : Sep w' (X + 1) w'.heap.size [u0, u1, u2, u3] [v0, v1, v2, v3] xa xb (.slice a L.length c) (.slice none 0 0) L []) : Bld w (w'.setCell ⟨X, 11, none⟩ (.slice a L.length c)) B m t X k r v u0 u1 u2 u3 xa v0 v1 v2 v3 xb a c L none 0 [] := by
  obtain ⟨p1, p2, p3, p4, -, p6⟩ := h.put 11 (.slice a L.length c) rfl
  exact ⟨by simp [World.setCell, Array.getElem?_modify, h.hX], p2, p3, p4, h.lt, h.ml, by rw [p1]; exact hL.kept fun b hb _ => p6 b hb⟩
theorem putE (h : Bld w w' B m t X k r v u0 u1 u2 u3 xa v0 v1 v2 v3 xb ta tc T none 0 []) {a : Option Addr} {c : Nat} {L : List St} (hL : Sep w' (X + 1) w'.heap.size [u0, u1, u2, u3] [v0, v1, v2, v3] xa xb (.slice ta T.length tc) (.slice a L.length c) T L) : Bld w (w'.setCell ⟨X, 12, none⟩ (.slice a L.length c)) B m t X k r v u0 u1 u2 u3 xa v0 v1 v2 v3 xb ta tc T a c L := by
  obtain ⟨p1, p2, p3, p4, -, p6⟩ := h.put 12 (.slice a L.length c) rfl
  exact ⟨by simp [World.setCell, Array.getElem?_modify, h.hX], p2, p3, p4, h.lt, h.ml, by rw [p1]; exact hL.kept fun b hb _ => p6 b hb⟩
/-- Some cells of the block, with nothing said of expressions. -/
theorem put4 (h : Bld w w' B m t X k r v u0 u1 u2 u3 xa v0 v1 v2 v3 xb ta tc T ea ec E) (j0 j1 j2 j3 : Nat) (n0 n1 n2 n3 : Value) {w2 : World} (hw2 : w2 = (((w'.setCell ⟨X, j0, none⟩ n0).setCell ⟨X, j1, none⟩ n1).setCell ⟨X, j2, none⟩ n2).setCell ⟨X, j3, none⟩ n3) :
    w2.heap.size = w'.heap.size ∧ w2.heap[w.heap.size]? = some (.cells z13 56 (0, 0)) ∧ Mkr w2 B m t ∧ w.grownBy w2 (some m) ∧ (∀ b, X + 1 ≤ b → w2.heap[b]? = w'.heap[b]?) := by
  subst hw2
  have hl := h.lt
  have hm := h.ml
  have hk : ∀ b, X + 1 ≤ b → ((((w'.setCell ⟨X, j0, none⟩ n0).setCell ⟨X, j1, none⟩ n1).setCell ⟨X, j2, none⟩ n2).setCell ⟨X, j3, none⟩ n3).heap[b]? = w'.heap[b]? := fun b hb => by
    iterate 4 rw [Below.heap_setCell _ _ _ _ (by simp; omega)]
  refine ⟨by simp, ?_, (((h.mkr.set (by omega) _ _).set (by omega) _ _).set (by omega) _ _).set (by omega) _ _, grownBy_new (grownBy_new (grownBy_new (grownBy_new h.gr (by omega) _ _) (by omega) _ _) (by omega) _ _) (by omega) _ _, hk⟩
  exact (Below.heap_setCell _ _ _ _ (by simp; omega)).trans ((Below.heap_setCell _ _ _ _ (by simp; omega)).trans ((Below.heap_setCell _ _ _ _ (by simp; omega)).trans ((Below.heap_setCell _ _ _ _ (by simp; omega)).trans h.hR)))
theorem putA (h : Bld w w' B m t X k r v u0 u1 u2 u3 xa v0 v1 v2 v3 xb none 0 [] none 0 []) {n0 n1 n2 n3 : Value} {x : Ex} (hx : ExIn w' (XS X w') [n0, n1, n2, n3] x) :
    Bld w ((((w'.setCell ⟨X, 3, none⟩ n0).setCell ⟨X, 4, none⟩ n1).setCell ⟨X, 5, none⟩ n2).setCell ⟨X, 6, none⟩ n3) B m t X k r v n0 n1 n2 n3 x v0 v1 v2 v3 xb none 0 [] none 0 [] := by
  obtain ⟨p1, p2, p3, p4, p5⟩ := h.put4 3 4 5 6 n0 n1 n2 n3 rfl
  exact ⟨by simp [World.setCell, Array.getElem?_modify, h.hX], p2, p3, p4, h.lt, h.ml, by rw [p1]; exact (h.sep.newA (hx.widen fun b hb => ⟨hb.1, hb.2⟩)).kept fun b hb _ => p5 b hb⟩
theorem putB (h : Bld w w' B m t X k r v u0 u1 u2 u3 xa v0 v1 v2 v3 xb none 0 [] none 0 []) {n0 n1 n2 n3 : Value} {x : Ex} (hx : ExIn w' (XS X w') [n0, n1, n2, n3] x) :
    Bld w ((((w'.setCell ⟨X, 7, none⟩ n0).setCell ⟨X, 8, none⟩ n1).setCell ⟨X, 9, none⟩ n2).setCell ⟨X, 10, none⟩ n3) B m t X k r v u0 u1 u2 u3 xa n0 n1 n2 n3 x none 0 [] none 0 [] := by
  obtain ⟨p1, p2, p3, p4, p5⟩ := h.put4 7 8 9 10 n0 n1 n2 n3 rfl
  exact ⟨by simp [World.setCell, Array.getElem?_modify, h.hX], p2, p3, p4, h.lt, h.ml, by rw [p1]; exact (h.sep.newB (hx.widen fun b hb => ⟨hb.1, hb.2⟩)).kept fun b hb _ => p5 b hb⟩
end Bld

/-- The thirteen cells of a new block are written. -/
def set13 (w : World) (b : Nat) (c0 c1 c2 c3 c4 c5 c6 c7 c8 c9 c10 c11 c12 : Value) : World :=
  ((((((((((((w.setCell ⟨b, 0, none⟩ c0).setCell ⟨b, 1, none⟩ c1).setCell ⟨b, 2, none⟩ c2).setCell ⟨b, 3, none⟩ c3).setCell ⟨b, 4, none⟩ c4).setCell ⟨b, 5, none⟩ c5).setCell ⟨b, 6, none⟩ c6).setCell ⟨b, 7, none⟩ c7).setCell ⟨b, 8, none⟩ c8).setCell ⟨b, 9, none⟩ c9).setCell ⟨b, 10, none⟩ c10).setCell ⟨b, 11, none⟩ c11).setCell ⟨b, 12, none⟩ c12
theorem set13_at {w : World} {b : Nat} (h : w.heap[b]? = some (.cells z13 56 (0, 0))) (c0 c1 c2 c3 c4 c5 c6 c7 c8 c9 c10 c11 c12 : Value) : (set13 w b c0 c1 c2 c3 c4 c5 c6 c7 c8 c9 c10 c11 c12).heap[b]? = some (.cells #[c0, c1, c2, c3, c4, c5, c6, c7, c8, c9, c10, c11, c12] 56 (0, 0)) := by
  simp [set13, World.setCell, Array.getElem?_modify, h, z13]
theorem set13_other (w : World) (b : Nat) (c0 c1 c2 c3 c4 c5 c6 c7 c8 c9 c10 c11 c12 : Value) {i : Nat} (hi : i ≠ b) : (set13 w b c0 c1 c2 c3 c4 c5 c6 c7 c8 c9 c10 c11 c12).heap[i]? = w.heap[i]? := by
  unfold set13
  iterate 13 rw [Below.heap_setCell _ _ _ _ (by simpa using hi)]
theorem set13_size (w : World) (b : Nat) (c0 c1 c2 c3 c4 c5 c6 c7 c8 c9 c10 c11 c12 : Value) : (set13 w b c0 c1 c2 c3 c4 c5 c6 c7 c8 c9 c10 c11 c12).heap.size = w.heap.size := by simp [set13]
theorem set13_os (w : World) (b : Nat) (c0 c1 c2 c3 c4 c5 c6 c7 c8 c9 c10 c11 c12 : Value) : (set13 w b c0 c1 c2 c3 c4 c5 c6 c7 c8 c9 c10 c11 c12).os = w.os ∧ (set13 w b c0 c1 c2 c3 c4 c5 c6 c7 c8 c9 c10 c11 c12).tape = w.tape ∧ (set13 w b c0 c1 c2 c3 c4 c5 c6 c7 c8 c9 c10 c11 c12).output = w.output := by
  have h1 : ∀ (w : World) (j : Nat) (u : Value), (w.setCell ⟨b, j, none⟩ u).os = w.os := fun _ _ _ => rfl
  have h2 : ∀ (w : World) (j : Nat) (u : Value), (w.setCell ⟨b, j, none⟩ u).tape = w.tape := fun _ _ _ => rfl
  have h3 : ∀ (w : World) (j : Nat) (u : Value), (w.setCell ⟨b, j, none⟩ u).output = w.output := fun _ _ _ => rfl
  unfold set13
  exact ⟨by simp only [h1], by simp only [h2], by simp only [h3]⟩

/-- What is left, from the block. -/
theorem Bld.post {w w' : World} {B m t t0 X d : Nat} {vars dom k r v : Int} {u0 u1 u2 u3 : Value} {xa : Ex} {v0 v1 v2 v3 : Value} {xb : Ex} {ta : Option Addr} {tc : Nat} {T : List St} {ea : Option Addr} {ec : Nat} {E : List St}
    (h : Bld w w' B m t X k r v u0 u1 u2 u3 xa v0 v1 v2 v3 xb ta tc T ea ec E) (wk : (Lit.int .i64 k).wf = true) (wr : (Lit.int .i64 r).wf = true) (wv : (Lit.int .i64 v).wf = true)
    (hok : (okS vars dom (d + 1) (.mk k r v xa xb T E) && shS (.mk k r v xa xb T E)) = true) (hc : 1 + cntL T + cntL E ≤ cB d) (ht : t ≤ t0 + tB d) :
    MStPost B m t0 vars dom d w (.returned (.agg #[.int .i64 k, .int .i64 r, .int .i64 v, u0, u1, u2, u3, v0, v1, v2, v3, .slice ta T.length tc, .slice ea E.length ec]))
      (set13 w' w.heap.size (.int .i64 k) (.int .i64 r) (.int .i64 v) u0 u1 u2 u3 v0 v1 v2 v3 (.slice ta T.length tc) (.slice ea E.length ec)) := by
  have hx := h.xlt
  have hl := h.lt
  have hm := h.ml
  have hz := set13_size w' w.heap.size (.int .i64 k) (.int .i64 r) (.int .i64 v) u0 u1 u2 u3 v0 v1 v2 v3 (.slice ta T.length tc) (.slice ea E.length ec)
  have ho := fun i (hi : i ≠ w.heap.size) => set13_other w' w.heap.size (.int .i64 k) (.int .i64 r) (.int .i64 v) u0 u1 u2 u3 v0 v1 v2 v3 (.slice ta T.length tc) (.slice ea E.length ec) hi
  obtain ⟨o1, o2, o3⟩ := set13_os w' w.heap.size (.int .i64 k) (.int .i64 r) (.int .i64 v) u0 u1 u2 u3 v0 v1 v2 v3 (.slice ta T.length tc) (.slice ea E.length ec)
  generalize set13 w' w.heap.size (.int .i64 k) (.int .i64 r) (.int .i64 v) u0 u1 u2 u3 v0 v1 v2 v3 (.slice ta T.length tc) (.slice ea E.length ec) = w3 at *
  refine ⟨_, .mk k r v xa xb T E, t, rfl, ⟨u0, u1, u2, u3, v0, v1, v2, v3, ta, ea, tc, ec, rfl, ⟨wk, wr, wv⟩, by rw [hz]; exact (h.sep.kept fun b hb _ => ho b (by omega)).widen (by omega) (Nat.le_refl _)⟩, hok, by rw [cntS_mk]; exact hc, ?_, ht,
    ⟨o1.trans h.gr.os, o2.trans h.gr.tape, o3.trans h.gr.output, by rw [hz]; exact h.gr.size, fun i hi hne => (ho i (by omega)).trans (h.gr.block i hi hne)⟩⟩
  have hB := h.mkr.1
  exact h.mkr.keep (ho m (by omega)) fun b o hb => World.cell?_of_block (ho b (by omega))
/-- The block at the start. -/
theorem Bld.start {w w1 : World} {B m t : Nat} {k : Int} (hm : m < w.heap.size) (hR : w1.heap[w.heap.size]? = some (.cells z13 56 (0, 0))) (hM : Mkr w1 B m t) (hg : w.grownBy w1 (some m)) :
    Bld w (w1.alloc (.cells #[.int .i64 k, .int .i64 0, .int .i64 0, .int .i64 0, .int .i64 0, .int .u8 0, .slice none 0 0, .int .i64 0, .int .i64 0, .int .u8 0, .slice none 0 0, .slice none 0 0, .slice none 0 0] 56)) B m t w1.heap.size k 0 0 (.int .i64 0) (.int .i64 0) (.int .u8 0) (.slice none 0 0) exZ (.int .i64 0) (.int .i64 0) (.int .u8 0) (.slice none 0 0) exZ none 0 [] none 0 [] := by
  have hlt : w.heap.size < w1.heap.size := (Array.getElem?_eq_some_iff.1 hR).1
  exact ⟨heap_alloc_new w1 _, (World.grownBy_alloc w1 _ none).block _ hlt (by simp) |>.trans hR, hM.alloc _, grownBy_alloc hg _, hlt, hm, w1.heap.size + 1, w1.heap.size + 1, ⟨Nat.le_refl _, Nat.le_refl _, by simp⟩, ExIn.leaf _ _ 0 0 0 (by decide) (by decide) (by decide), ExIn.leaf _ _ 0 0 0 (by decide) (by decide) (by decide), Rw.nil_, Rw.nil_⟩
end Go.Proofs.YtphlbbnmligadaaGreatDoor
namespace Go.Proofs.YtphlbbnmligadaaGreatDoor
open Go.RowKit

/-- The number that is picked next. -/
def PickIs (w : World) (m : Nat) (k r : Int) : Prop :=
  ∃ a n cap t, w.heap[m]? = some (.cells #[.slice a n cap, .int .i64 ((t : Nat) : Int)] 41 (0, 0)) ∧
    ((n < t + 1 ∧ r = 0) ∨ (t + 1 ≤ n ∧ ∃ b off, ∃ u : Nat, a = some ⟨b, off, none⟩ ∧ w.cell? ⟨b, off + t, none⟩ = some (.int .u8 u) ∧ r = (u : Int) % k))
theorem PickIs.one {w : World} {m : Nat} {k r r' : Int} (h : PickIs w m k r) (h' : PickIs w m k r') : r = r' := by
  obtain ⟨a, n, cap, t, hh, h⟩ := h
  obtain ⟨a', n', cap', t', hh', h'⟩ := h'
  rw [hh] at hh'
  simp only [Option.some.injEq, Obj.cells.injEq, Array.mk.injEq, List.cons.injEq, Value.slice.injEq, Value.int.injEq, true_and, and_true] at hh'
  obtain ⟨⟨rfl, rfl, rfl⟩, ht⟩ := hh'
  obtain rfl : t = t' := by omega
  rcases h with ⟨h1, rfl⟩ | ⟨h1, b, off, u, rfl, hc, rfl⟩
  · rcases h' with ⟨_, rfl⟩ | ⟨h2, _⟩
    · rfl
    · omega
  · rcases h' with ⟨h2, _⟩ | ⟨_, b', off', u', e, hc', rfl⟩
    · omega
    · simp only [Option.some.injEq, Addr.mk.injEq, and_true] at e
      obtain ⟨rfl, rfl⟩ := e
      rw [hc] at hc'
      simp only [Option.some.injEq, Value.int.injEq, true_and] at hc'
      rw [hc']
theorem PickIs.ex {w : World} {B m t : Nat} (h : Mkr w B m t) (k : Int) (hk : 1 ≤ k) : ∃ r, PickIs w m k r ∧ 0 ≤ r ∧ r < k := by
  obtain ⟨hB, a, n, cap, hu, hh⟩ := h
  by_cases hlt : t + 1 ≤ n
  · obtain ⟨b, off, u, rfl, hb, hu0, hc⟩ := hu.2.2 t (by omega)
    exact ⟨(u : Int) % k, ⟨_, n, cap, t, hh, .inr ⟨hlt, b, off, u, rfl, hc, rfl⟩⟩, Int.emod_nonneg _ (by omega), Int.emod_lt_of_pos _ (by omega)⟩
  · exact ⟨0, ⟨a, n, cap, t, hh, .inl ⟨by omega, rfl⟩⟩, by omega, by omega⟩
theorem PickIs.range {w : World} {B m t : Nat} (h : Mkr w B m t) {k r : Int} (hk : 1 ≤ k) (hp : PickIs w m k r) : 0 ≤ r ∧ r < k := by
  obtain ⟨r', hp', h0, h1⟩ := PickIs.ex h k hk
  rw [hp.one hp']
  exact ⟨h0, h1⟩
theorem PickIs.alloc {w : World} {B m t : Nat} (h : Mkr w B m t) {k r : Int} (o : Obj) (hp : PickIs w m k r) : PickIs (w.alloc o) m k r := by
  have hm := h.lt
  obtain ⟨hB, a0, n0, cap0, hu, hh0⟩ := h
  obtain ⟨a, n, cap, t', hh, hp⟩ := hp
  have e : (w.alloc o).heap[m]? = w.heap[m]? := (World.grownBy_alloc w o none).block m hm (by simp)
  refine ⟨a, n, cap, t', e.trans hh, ?_⟩
  rcases hp with h | ⟨h1, b, off, u, rfl, hc, hr⟩
  · exact .inl h
  · refine .inr ⟨h1, b, off, u, rfl, ?_, hr⟩
    rw [hh] at hh0
    simp only [Option.some.injEq, Obj.cells.injEq, Array.mk.injEq, List.cons.injEq, Value.slice.injEq, Value.int.injEq, true_and, and_true] at hh0
    obtain ⟨⟨rfl, rfl, rfl⟩, ht⟩ := hh0
    obtain ⟨b2, off2, u2, e2, hb2, -, -⟩ := hu.2.2 t' (by omega)
    simp only [Option.some.injEq, Addr.mk.injEq, and_true] at e2
    obtain ⟨rfl, rfl⟩ := e2
    exact (World.cell?_alloc_lt _ _ _ (by show b < w.heap.size; omega)).trans hc

set_option maxHeartbeats 1000000 in
theorem pick_is (B m t : Nat) (k : Int) (w : World) (hM : Mkr w B m t) (ht : t < 4611686018427387904) (hk : 1 ≤ k) :
    Calls Tryz.prog 23 #[.pointer (some ⟨m, 0, none⟩), .int .i64 k] w fun e w' => ∃ r : Int, e = .returned (.int .i64 r) ∧ PickIs w m k r ∧ Mkr w' B m (t + 1) ∧ w.grownBy w' (some m) := by
  have hmlt := hM.lt
  obtain ⟨hB, a, n, cap, hu, hh⟩ := hM
  have HP : Hid (∀ r : Int, ((n < t + 1 ∧ r = 0) ∨ (t + 1 ≤ n ∧ ∃ b off, ∃ u : Nat, a = some ⟨b, off, none⟩ ∧ w.cell? ⟨b, off + t, none⟩ = some (.int .u8 u) ∧ r = (u : Int) % k)) → PickIs w m k r) := fun r hr => ⟨a, n, cap, t, hh, hr⟩
  have f0 : w.cell? ⟨m, 0, none⟩ = some (.slice a n cap) := by simp [World.cell?, hh]
  have f1 : w.cell? ⟨m, 1, none⟩ = some (.int .i64 t) := by simp [World.cell?, hh]
  have f2 : w.frozen? ⟨m, 1, none⟩ = false := by simp [World.frozen?, hh]
  have hmx := hu.2.1
  have hn := hu.1
  unfold maxLen at hmx
  have HH : Hid ((w.setCell ⟨m, 1, none⟩ (.int .i64 ((t : Int) + 1))).heap[m]? = some (.cells #[.slice a n cap, .int .i64 ((t : Int) + 1)] 41 (0, 0))) := by
    show _ = _
    simp [World.setCell, Array.getElem?_modify, hh]
  have HG : Hid (w.grownBy (w.setCell ⟨m, 1, none⟩ (.int .i64 ((t : Int) + 1))) (some m)) := grownBy_set (grownBy_refl _ _) _ _
  clear hh
  go_enter Tryz.func23, Tryz.ntmps23
  go_wp2_with fail
  generalize hW : World.setCell w _ _ = W1 at *
  clear hW f0 f1 f2
  have g0 : W1.cell? ⟨m, 0, none⟩ = some (.slice a n cap) := by simp [World.cell?, HH.out]
  have g1 : W1.cell? ⟨m, 1, none⟩ = some (.int .i64 ((t : Int) + 1)) := by simp [World.cell?, HH.out]
  have hu1 : U8s W1 (· < B) a n cap := hu.keep fun b o hb => grownBy_cell HG.out (by omega) (by omega)
  have HM : Hid (Mkr W1 B m (t + 1)) := ⟨hB, a, n, cap, hu1, by simpa using HH.out⟩
  have hmW : m < W1.heap.size := by have := HG.out.size; omega
  by_cases hlt : t + 1 ≤ n
  · obtain ⟨b, off, u, rfl, hb, hu0, hc⟩ := hu1.2.2 t (by omega)
    have hc0 := hid ((grownBy_cell HG.out (b := b) (o := off + t) (by omega) (by omega)).symm.trans hc)
    have hbW : b < W1.heap.size := by omega
    have q1 : IntKind.i64.wrap (t : Int) = t := IntWalk.i64_in _ (by omega)
    have q4 : (0 : Int) ≤ t := by omega
    have q5 : (t : Int) < n := by omega
    have q6 : t < n := by omega
    have q2 : ¬ ((n : Int) < (t : Int) + 1) := by omega
    have q3 : k ≠ 0 := by omega
    clear hu1 hu
    go_region_held3 (Kp W1) (first | assumption | exact Kp.start _) (fail)
    go_wp2_with fail
    go_region_held3 (Kp W1) (first | assumption | exact Kp.of ((Below.refl _ _).drew.drew)) (fail)
    go_wp2_with fail
    go_ret
    refine ⟨_, rfl, HP.out _ (.inr ⟨hlt, b, off, u, rfl, hc0.out, ?_⟩), HM.out.below (Below.refl _ _).drew.drew, grownBy_drew (grownBy_drew HG.out)⟩
    rw [IntWalk.i64_in _ (by omega), Int.tmod_eq_emod_of_nonneg (by omega)]
  · have q2 : (n : Int) < (t : Int) + 1 := by omega
    clear hu1 hu
    go_region_held3 (Kp W1) (first | assumption | exact Kp.start _) (fail)
    go_wp2_with fail
    go_ret
    exact ⟨0, rfl, HP.out _ (.inl ⟨by omega, rfl⟩), HM.out.below (Below.refl _ _).drew, grownBy_drew HG.out⟩

/-- The kind of the statement that is made next. -/
def KindIs (w : World) (m b off kn : Nat) (K : Int) : Prop := ∀ (o : Obj) (r : Int), PickIs (w.alloc o) m kn r → w.cell? ⟨b, off + r.toNat, none⟩ = some (.int .i64 K)
theorem KindIs.ex {w : World} {B m t b off kn : Nat} (h : Mkr w B m t) (hkn : 1 ≤ kn) (hc : ∀ i, i < kn → ∃ k : Int, 1 ≤ k ∧ k ≤ 11 ∧ w.cell? ⟨b, off + i, none⟩ = some (.int .i64 k)) : ∃ K : Int, 1 ≤ K ∧ K ≤ 11 ∧ KindIs w m b off kn K := by
  obtain ⟨r, hp, r0, r1⟩ := PickIs.ex h (kn : Int) (by omega)
  obtain ⟨K, k1, k2, hK⟩ := hc r.toNat (by omega)
  refine ⟨K, k1, k2, fun o r' hp' => ?_⟩
  rw [← (hp.alloc h o).one hp']
  exact hK
/-- The contract of the maker's stmt, where the next kind is K. -/
def StmtK (B m : Nat) (vars dom : Int) (b off kn kc : Nat) (d : Nat) (K : Int) : Prop := ∀ (di : Int) (t : Nat) (w : World), di = d → Mkr w B m t → KdIn w B (some ⟨b, off, none⟩) kn kc → KindIs w m b off kn K → t + tB d < 4611686018427387904 →
    Calls Tryz.prog 50 #[.pointer (some ⟨m, 0, none⟩), .int .i64 di, .int .i64 vars, .int .i64 dom, .slice (some ⟨b, off, none⟩) kn kc] w (MStPost B m t vars dom d w)
end Go.Proofs.YtphlbbnmligadaaGreatDoor
