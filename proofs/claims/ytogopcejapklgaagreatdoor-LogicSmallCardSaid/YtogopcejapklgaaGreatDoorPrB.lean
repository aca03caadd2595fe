/- The parser's box. -/
import Derived.Test.YtogopcejapklgaaGreatDoorFmO
import Derived.Test.YtogopcejapklgaaGreatDoorBunG
namespace Go.Proofs.YtogopcejapklgaaGreatDoor
open Go.RowKit

/-- A row of tokens without its first one. -/
theorem TkIn.tail {w : World} {S : Nat → Prop} {b off cap : Nat} {t : Tok} {L : List Tok} (h : TkIn w S (some ⟨b, off, none⟩) (t :: L).length cap (t :: L)) : TkIn w S (some ⟨b, off + 4, none⟩) L.length (cap - 1) L := by
  obtain ⟨-, h1, h2, h3⟩ := h
  simp only [List.length_cons] at h1 h3
  refine ⟨rfl, by omega, by omega, fun h0 => ?_⟩
  obtain ⟨b', off', e, hb, hc⟩ := h3 (by omega)
  simp only [Option.some.injEq, Addr.mk.injEq, and_true] at e
  obtain ⟨rfl, rfl⟩ := e
  refine ⟨b, off + 4, rfl, hb, fun i hi j hj => ?_⟩
  have := hc (i + 1) (by omega) j hj
  rw [show off + ((i + 1) * 4 + j) = off + 4 + (i * 4 + j) by omega] at this
  rw [this]
  simp [celAt]
/-- The parser lies in block P: the tokens that are left, and how many formulas there are. -/
structure PBox (w : World) (P : Nat) (L : List Tok) (c : Int) : Prop where
  lt : P < w.heap.size
  c0 : ∃ a cap, w.cell? ⟨P, 0, none⟩ = some (.slice a L.length cap) ∧ TkIn w (fun b => b < P) a L.length cap L
  c1 : w.cell? ⟨P, 1, none⟩ = some (.int .i64 c)
  f0 : ∀ o, w.frozen? ⟨P, o, none⟩ = false
namespace PBox
variable {w w' : World} {P : Nat} {L : List Tok} {c : Int}
theorem keep (h : PBox w P L c) (hs : w.heap.size ≤ w'.heap.size) (hb : ∀ b, b ≤ P → w'.heap[b]? = w.heap[b]?) : PBox w' P L c := by
  obtain ⟨a, cap, h1, h2⟩ := h.c0
  exact ⟨Nat.lt_of_lt_of_le h.lt hs, ⟨a, cap, (World.cell?_of_block (w := w) (a := ⟨P, 0, none⟩) (hb P (Nat.le_refl _))).trans h1, h2.keep fun b o hlt => World.cell?_of_block (w := w) (a := ⟨b, o, none⟩) (hb b (Nat.le_of_lt hlt))⟩,
    (World.cell?_of_block (w := w) (a := ⟨P, 1, none⟩) (hb P (Nat.le_refl _))).trans h.c1, fun o => (World.frozen?_of_block (w := w) (a := ⟨P, o, none⟩) (hb P (Nat.le_refl _))).trans (h.f0 o)⟩
theorem grown (h : PBox w P L c) {r : Option Nat} (hg : w.grownBy w' r) (hr : ∀ k, r = some k → P < k) : PBox w' P L c :=
  h.keep hg.size fun b hb => hg.block b (by have := h.lt; omega) fun e => by have := hr b e.symm; omega
theorem below (h : PBox w P L c) (hb : Below w.heap.size w w') : PBox w' P L c := h.keep hb.size fun b hbP => hb.block b (by have := h.lt; omega)
theorem alloc (h : PBox w P L c) (o : Obj) : PBox (w.alloc o) P L c := h.below ((Below.refl _ _).alloc (Nat.le_refl _) o)
theorem drew (h : PBox w P L c) : PBox w.drew P L c := h.below (Below.refl _ _).drew
theorem set (h : PBox w P L c) {b o : Nat} (hb : P < b) (u : Value) : PBox (w.setCell ⟨b, o, none⟩ u) P L c :=
  h.keep (by simp) fun k hk => Below.heap_setCell _ _ _ _ (by simp; omega)
/-- The first token. -/
theorem hd (h : PBox w P L c) (hE : Ends L) : ∃ b off cap, w.cell? ⟨P, 0, none⟩ = some (.slice (some ⟨b, off, none⟩) L.length cap) ∧ b < P ∧ 1 ≤ L.length ∧ L.length ≤ cap ∧ cap ≤ maxLen ∧
    w.cell? ⟨b, off, none⟩ = some (.int .i64 (hdT L).kind) ∧ w.cell? ⟨b, off + 1, none⟩ = some (strV (hdT L).text) ∧ w.cell? ⟨b, off + 2, none⟩ = some (.int .i64 (hdT L).n) ∧ w.cell? ⟨b, off + 3, none⟩ = some (.int .i64 (hdT L).place) ∧
    TkIn w (fun b => b < P) (some ⟨b, off, none⟩) L.length cap L := by
  obtain ⟨a, cap, h1, h2⟩ := h.c0
  obtain ⟨t, M, rfl⟩ := hE.cons_
  obtain ⟨b, off, rfl, hb, g0, g1, g2, g3⟩ := h2.at_ 0 (by simp)
  refine ⟨b, off, cap, h1, hb, by simp, h2.2.le, h2.2.mx, ?_, ?_, ?_, ?_, h2⟩
  · simpa [hdT] using g0
  · simpa [hdT] using g1
  · simpa [hdT] using g2
  · simpa [hdT] using g3
/-- One token is taken. -/
theorem take (h : PBox w P L c) {b off cap : Nat} (h0 : L ≠ []) (hT : TkIn w (fun b => b < P) (some ⟨b, off, none⟩) L.length cap L) :
    PBox (w.setCell ⟨P, 0, none⟩ (.slice (some ⟨b, off + 4, none⟩) L.tail.length (cap - 1))) P L.tail c := by
  obtain ⟨t, M, rfl⟩ : ∃ t M, L = t :: M := by cases L with | nil => exact absurd rfl h0 | cons t M => exact ⟨t, M, rfl⟩
  obtain ⟨a, cap', h1, -⟩ := h.c0
  have hlt := h.lt
  have h2 := h.c1
  have hf := h.f0
  refine ⟨by simpa using h.lt, ⟨some ⟨b, off + 4, none⟩, cap - 1, by go_simp, ?_⟩, by go_simp, fun o => by go_simp⟩
  exact hT.tail.keep fun k o hk => World.cell?_setCell_other _ _ _ _ (by intro e; injection e; omega)
/-- One formula more. -/
theorem more (h : PBox w P L c) (c' : Int) : PBox (w.setCell ⟨P, 1, none⟩ (.int .i64 c')) P L c' := by
  obtain ⟨a, cap, h1, hT⟩ := h.c0
  have hlt := h.lt
  have h2 := h.c1
  have hf := h.f0
  refine ⟨by simpa using h.lt, ⟨a, cap, by go_simp, ?_⟩, by go_simp, fun o => by go_simp⟩
  exact hT.keep fun k o hk => World.cell?_setCell_other _ _ _ _ (by intro e; injection e; omega)
end PBox
theorem cell_of_heap {w : World} {b j : Nat} {c : Array Value} {T : TypeId} (h : w.heap[b]? = some (.cells c T (0, 0))) : w.cell? ⟨b, j, none⟩ = c[j]? := by simp [World.cell?, h]
theorem unfrozen {w : World} {b j : Nat} {c : Array Value} {T : TypeId} (h : w.heap[b]? = some (.cells c T (0, 0))) : w.frozen? ⟨b, j, none⟩ = false := by simp [World.frozen?, h]
/-- What gives up. -/
abbrev wrongP (e : Int) (i : Nat) : Ending := .panicked [{ v := .iface 56 (.agg #[.int .i64 e, .int .i64 i]), recovered := false }]
theorem grown_set (w : World) (b o : Nat) (u : Value) : w.grownBy (w.setCell ⟨b, o, none⟩ u) (some b) :=
  ⟨rfl, rfl, rfl, by simp [World.setCell], fun k _ hk => Below.heap_setCell _ _ _ _ (fun e => hk (by rw [e]))⟩
theorem grown_refl (w : World) (r : Option Nat) : w.grownBy w r := ⟨rfl, rfl, rfl, Nat.le_refl _, fun _ _ _ => rfl⟩
theorem grown_trans {a b c : World} {r : Option Nat} (h : a.grownBy b r) (k : b.grownBy c r) : a.grownBy c r :=
  ⟨k.os.trans h.os, k.tape.trans h.tape, k.output.trans h.output, Nat.le_trans h.size k.size, fun i hi hr => (k.block i (Nat.lt_of_lt_of_le hi h.size) hr).trans (h.block i hi hr)⟩
/-- What came later than w is free to be written. -/
theorem grown_new {a b c : World} {r : Option Nat} (h : a.grownBy b r) {q : Option Nat} (k : b.grownBy c q) (hq : ∀ n, q = some n → a.heap.size ≤ n) : a.grownBy c r :=
  ⟨k.os.trans h.os, k.tape.trans h.tape, k.output.trans h.output, Nat.le_trans h.size k.size, fun i hi hr => (k.block i (Nat.lt_of_lt_of_le hi h.size) (fun e => by have := hq i e.symm; omega)).trans (h.block i hi hr)⟩
theorem grown_alloc {a b : World} {r : Option Nat} (h : a.grownBy b r) (o : Obj) : a.grownBy (b.alloc o) r :=
  ⟨h.os, h.tape, h.output, by have := h.size; simp; omega, fun i hi hr => (Below.heap_alloc _ _ _ (Nat.lt_of_lt_of_le hi h.size)).trans (h.block i hi hr)⟩
theorem grown_drew {a b : World} {r : Option Nat} (h : a.grownBy b r) : a.grownBy b.drew r := ⟨h.os, h.tape, h.output, h.size, h.block⟩
theorem grown_below {a b : World} {r : Option Nat} (h : a.grownBy b r) {n : Nat} (hn : n ≤ a.heap.size) (hr : ∀ k, r = some k → n ≤ k) : Below n a b :=
  ⟨h.os, h.tape, h.output, h.size, fun k hk => h.block k (by omega) (fun e => by have := hr k e.symm; omega)⟩
theorem below_grown {a b : World} (h : Below a.heap.size a b) (r : Option Nat) : a.grownBy b r := ⟨h.os, h.tape, h.output, h.size, fun k hk _ => h.block k hk⟩
end Go.Proofs.YtogopcejapklgaaGreatDoor
