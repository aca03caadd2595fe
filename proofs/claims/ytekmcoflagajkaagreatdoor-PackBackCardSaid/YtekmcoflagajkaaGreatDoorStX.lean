/- What step has in hand, and how it ends. -/
import Derived.Test.YtekmcoflagajkaaGreatDoorOwn
import Derived.Test.YtekmcoflagajkaaGreatDoorBunR
namespace Go.Proofs.YtekmcoflagajkaaGreatDoor
open Go.RowKit

/-- What an instruction that may be is like. -/
theorem ins_open {vars dom many : Int} {x : Ins} (h : insL vars dom x many = true) :
    (x.op = 1 ∨ x.op = 2 ∨ x.op = 3 ∨ x.op = 4 ∨ x.op = 5 ∨ x.op = 6 ∨ x.op = 7 ∨ x.op = 8 ∨ x.op = 9 ∨ x.op = 12 ∨ x.op = 13) ∧
    ((x.op = 1 ∨ x.op = 3 ∨ x.op = 6) → 0 ≤ x.reg ∧ x.reg < 4) ∧ ((x.op = 1 ∨ x.op = 2 ∨ x.op = 6 ∨ x.op = 7 ∨ x.op = 8) → 0 ≤ x.v ∧ x.v < vars) := by
  unfold insL at h
  simp only [Bool.and_eq_true, decide_eq_true_eq] at h
  obtain ⟨⟨⟨⟨k1, k2⟩, t0⟩, t1⟩, hp⟩ := h
  have hop : x.op = 1 ∨ x.op = 2 ∨ x.op = 3 ∨ x.op = 4 ∨ x.op = 5 ∨ x.op = 6 ∨ x.op = 7 ∨ x.op = 8 ∨ x.op = 9 ∨ x.op = 12 ∨ x.op = 13 := by
    unfold insK at k1 k2
    by_cases e1 : x.op = 12
    · simp [e1]
    by_cases e2 : x.op = 13
    · simp [e2]
    rw [if_neg e1, if_neg e2] at k1 k2
    omega
  refine ⟨hop, ?_⟩
  obtain ⟨op, rg, v, xa, xb, dst⟩ := x
  simp only at hop k1 k2 t0 t1 hp ⊢
  rcases hop with rfl | rfl | rfl | rfl | rfl | rfl | rfl | rfl | rfl | rfl | rfl <;>
    simp [insK, insT, partL, numL, oneL, h0, h1, h2, h3] at hp t1 ⊢ <;> omega

def StepPost (w : World) (th : List Thr) (i : Nat) (r : (Thr × List Int × Bool) × Bool) (e : Ending) (w' : World) : Prop :=
  ∃ V, e = .returned (.tuple #[V, .bool r.2]) ∧ Below w.heap.size w w' ∧ (r.2 = true → ∃ va vm B, V = .agg #[va, vm, .bool r.1.2.2] ∧ StW w' w.heap.size B va vm (th.set i r.1.1) r.1.2.1) ∧ ∃ a n c a' n' c' bd, V = .agg #[.slice a n c, .slice a' n' c', .bool bd]
theorem StepPost.drew {w : World} {th : List Thr} {i : Nat} {r : (Thr × List Int × Bool) × Bool} {e : Ending} {w' : World} (h : StepPost w th i r e w') : StepPost w th i r e w'.drew := by
  obtain ⟨V, h1, h2, h3, hV⟩ := h
  refine ⟨V, h1, h2.drew, fun hr => ?_, hV⟩
  obtain ⟨va, vm, B, h4, h5⟩ := h3 hr
  exact ⟨va, vm, B, h4, h5.other (Below.refl _ _).drew⟩
/-- What step is handed, and where its answer goes. -/
structure StpB (W : World) (n : Nat) (dom m b : Int) (cv hv mv : Value) (bad : Bool) : Prop where
  lt : n + 4 ≤ W.heap.size
  c1 : W.cell? ⟨n, 1, none⟩ = some (.int .i64 dom)
  c2 : W.cell? ⟨n, 2, none⟩ = some cv
  m0 : W.cell? ⟨n + 1, 0, none⟩ = some (.int .i64 m)
  m1 : W.cell? ⟨n + 1, 1, none⟩ = some (.int .i64 b)
  s0 : W.cell? ⟨n + 1 + 1, 0, none⟩ = some hv
  s1 : W.cell? ⟨n + 1 + 1, 1, none⟩ = some mv
  s2 : W.cell? ⟨n + 1 + 1, 2, none⟩ = some (.bool bad)
  r0 : W.cell? ⟨n + 1 + 1 + 1, 0, none⟩ = some (.slice none 0 0)
  r1 : W.cell? ⟨n + 1 + 1 + 1, 1, none⟩ = some (.slice none 0 0)
  r2 : W.cell? ⟨n + 1 + 1 + 1, 2, none⟩ = some (.bool false)
  rf : ∀ o, W.frozen? ⟨n + 1 + 1 + 1, o, none⟩ = false
theorem StpB.later {W W' : World} {n : Nat} {dom m b : Int} {cv hv mv : Value} {bad : Bool} (h : StpB W n dom m b cv hv mv bad) (hb : Below (n + 4) W W') : StpB W' n dom m b cv hv mv bad := by
  have hc : ∀ k o, k < n + 4 → W'.cell? ⟨k, o, none⟩ = W.cell? ⟨k, o, none⟩ := fun k o hk => hb.cell (p := ⟨k, o, none⟩) hk
  exact ⟨Nat.le_trans h.lt hb.size, (hc _ _ (by omega)).trans h.c1, (hc _ _ (by omega)).trans h.c2, (hc _ _ (by omega)).trans h.m0, (hc _ _ (by omega)).trans h.m1, (hc _ _ (by omega)).trans h.s0, (hc _ _ (by omega)).trans h.s1, (hc _ _ (by omega)).trans h.s2,
    (hc _ _ (by omega)).trans h.r0, (hc _ _ (by omega)).trans h.r1, (hc _ _ (by omega)).trans h.r2, fun o => (hb.frozen (p := ⟨_, o, none⟩) (by show n + 1 + 1 + 1 < n + 4; omega)).trans (h.rf o)⟩

/-- What step has in hand once it knows the instruction. -/
structure StpI (w1 W : World) (ob ib : Nat) (va vm : Value) (bad : Bool) (op rg vi ka na oa : Int) (sa : Value) (kb nb oo : Int) (sb : Value) (dst : Int) : Prop where
  hb : Below w1.heap.size w1 W
  ob_ : w1.heap.size ≤ ob ∧ ob < ib ∧ ib < W.heap.size
  box : SBox W ob va vm bad
  i0 : W.cell? ⟨ib, 0, none⟩ = some (.int .i64 op)
  i1 : W.cell? ⟨ib, 1, none⟩ = some (.int .i64 rg)
  i2 : W.cell? ⟨ib, 2, none⟩ = some (.int .i64 vi)
  i3 : W.cell? ⟨ib, 3, none⟩ = some (.int .i64 ka)
  i4 : W.cell? ⟨ib, 4, none⟩ = some (.int .i64 na)
  i5 : W.cell? ⟨ib, 5, none⟩ = some (.int .u8 oa)
  i6 : W.cell? ⟨ib, 6, none⟩ = some sa
  i7 : W.cell? ⟨ib, 7, none⟩ = some (.int .i64 kb)
  i8 : W.cell? ⟨ib, 8, none⟩ = some (.int .i64 nb)
  i9 : W.cell? ⟨ib, 9, none⟩ = some (.int .u8 oo)
  ia : W.cell? ⟨ib, 10, none⟩ = some sb
  ic : W.cell? ⟨ib, 11, none⟩ = some (.int .i64 dst)
theorem StpI.later {w1 W W' : World} {ob ib : Nat} {va vm : Value} {bad : Bool} {op rg vi ka na oa : Int} {sa : Value} {kb nb oo : Int} {sb : Value} {dst : Int} (h : StpI w1 W ob ib va vm bad op rg vi ka na oa sa kb nb oo sb dst) (hb : Below W.heap.size W W') :
    StpI w1 W' ob ib va vm bad op rg vi ka na oa sa kb nb oo sb dst := by
  obtain ⟨h1, ⟨h2, h3, h4⟩, h5, i0, i1, i2, i3, i4, i5, i6, i7, i8, i9, ia, ic⟩ := h
  have hc : ∀ o, W'.cell? ⟨ib, o, none⟩ = W.cell? ⟨ib, o, none⟩ := fun o => hb.cell (p := ⟨ib, o, none⟩) h4
  exact ⟨h1.trans (hb.mono h1.size), ⟨h2, h3, Nat.lt_of_lt_of_le h4 hb.size⟩, h5.block hb.size (hb.block _ h5.lt), (hc _).trans i0, (hc _).trans i1, (hc _).trans i2, (hc _).trans i3, (hc _).trans i4, (hc _).trans i5, (hc _).trans i6, (hc _).trans i7, (hc _).trans i8, (hc _).trans i9, (hc _).trans ia, (hc _).trans ic⟩
/-- The same cell is written in both. -/
theorem below_set2 {n : Nat} {w W : World} (h : Below n w W) (a : Addr) (u : Value) : Below n (w.setCell a u) (W.setCell a u) :=
  ⟨h.os, h.tape, h.output, by simpa [World.setCell] using h.size, fun k hk => by simp [World.setCell, Array.getElem?_modify, h.block k hk]⟩
theorem StW.thr {w w' : World} {n0 B g : Nat} {va vm : Value} {th th' : List Thr} {mem : List Int} (h : StW w n0 B va vm th mem) (hg : w.grownBy w' (some g)) (hB : B ≤ g) (hT : ThO w' B va th') : StW w' n0 B va vm th' mem := by
  refine ⟨h.le, Nat.le_trans h.lt hg.size, h.hm.grown hg ?_, h.ml, hT⟩
  rcases hv : vm.ownBlock with _ | k
  · exact .inl rfl
  · exact .inr fun e => by have := h.ml k hv; simp at e; omega
/-- How step ends. -/
theorem step_fin {w W0 V W W3 : World} {B : Nat} {va vm : Value} {bad : Bool} {th : List Thr} {mem : List Int} (hB : Below w.heap.size w W0) (h1 : Below W0.heap.size W0 V) (hst : StW V W0.heap.size B va vm th mem) (hW : Below V.heap.size V W) (zS : W0.heap.size = w.heap.size + 4)
    (e3 : W3 = ((W.setCell ⟨w.heap.size + 1 + 1 + 1, 0, none⟩ va).setCell ⟨w.heap.size + 1 + 1 + 1, 1, none⟩ vm).setCell ⟨w.heap.size + 1 + 1 + 1, 2, none⟩ (.bool bad)) : StW W3 w.heap.size B va vm th mem ∧ Below w.heap.size w W3 := by
  subst e3
  constructor
  · refine StW.down (n0 := W0.heap.size) ?_ (by omega)
    exact (hst.other hW).grown (grown_trans (grown_trans (grown_set _ _ _ _) (grown_set _ _ _ _)) (grown_set _ _ _ _)) (by omega)
  · exact three_below (hB.trans ((h1.trans (hW.mono h1.size)).mono hB.size)) (by omega)

theorem StpI.set {w1 W : World} {ob ib : Nat} {va vm : Value} {bad : Bool} {op rg vi ka na oa : Int} {sa : Value} {kb nb oo : Int} {sb : Value} {dst : Int} (h : StpI w1 W ob ib va vm bad op rg vi ka na oa sa kb nb oo sb dst) (a : Addr) (u : Value) (ha : a.block < w1.heap.size) :
    StpI (w1.setCell a u) (W.setCell a u) ob ib va vm bad op rg vi ka na oa sa kb nb oo sb dst := by
  obtain ⟨h1, ⟨h2, h3, h4⟩, h5, i0, i1, i2, i3, i4, i5, i6, i7, i8, i9, ia, ic⟩ := h
  have hc : ∀ k o, w1.heap.size ≤ k → (W.setCell a u).cell? ⟨k, o, none⟩ = W.cell? ⟨k, o, none⟩ := fun k o hk => World.cell?_setCell_other _ _ _ _ (by intro e; have h := congrArg Addr.block e; simp only at h; omega)
  have hz : (w1.setCell a u).heap.size = w1.heap.size := by simp [World.setCell]
  refine ⟨?_, ⟨by rw [hz]; exact h2, h3, by simpa [World.setCell] using h4⟩, ⟨by simpa [World.setCell] using h5.lt, (hc _ _ h2).trans h5.c0, (hc _ _ h2).trans h5.c1, (hc _ _ h2).trans h5.c2, fun o => frozen_set (h5.f0 o)⟩,
    (hc _ _ (by omega)).trans i0, (hc _ _ (by omega)).trans i1, (hc _ _ (by omega)).trans i2, (hc _ _ (by omega)).trans i3, (hc _ _ (by omega)).trans i4, (hc _ _ (by omega)).trans i5, (hc _ _ (by omega)).trans i6, (hc _ _ (by omega)).trans i7, (hc _ _ (by omega)).trans i8, (hc _ _ (by omega)).trans i9, (hc _ _ (by omega)).trans ia, (hc _ _ (by omega)).trans ic⟩
  rw [hz]
  exact below_set2 h1 a u
theorem StpB.set {W : World} {n : Nat} {dom m b : Int} {cv hv mv : Value} {bad : Bool} (h : StpB W n dom m b cv hv mv bad) (a : Addr) (u : Value) (ha : n + 4 ≤ a.block) : StpB (W.setCell a u) n dom m b cv hv mv bad :=
  h.later ((Below.refl _ _).setCell ha u)

section
variable {w : World} {n0 B g gm cap cm : Nat} {va vm : Value} {th : List Thr} {mem : List Int}
/-- A thread's state of a state of the call's own. -/
theorem StW.at_ (h : StW w n0 B va vm th mem) (i : Nat) (hi : i < th.length) (hva : va = .slice (some ⟨g, 0, none⟩) th.length cap) :
    ∃ a k, (w.cell? ⟨g, i * 6, none⟩ = some (.int .i64 th[i].pc) ∧ w.cell? ⟨g, i * 6 + 1, none⟩ = some (.int .i64 th[i].r0) ∧ w.cell? ⟨g, i * 6 + 2, none⟩ = some (.int .i64 th[i].r1)) ∧
      (w.cell? ⟨g, i * 6 + 3, none⟩ = some (.int .i64 th[i].r2) ∧ w.cell? ⟨g, i * 6 + 4, none⟩ = some (.int .i64 th[i].r3) ∧ w.cell? ⟨g, i * 6 + 5, none⟩ = some (.slice a th[i].buf.length k)) ∧
      (∀ j, w.frozen? ⟨g, j, none⟩ = false) ∧ EnIn w (In_ w) a th[i].buf.length k th[i].buf ∧ B ≤ g ∧ g < w.heap.size := by
  obtain ⟨g', cap', a, k, e, -, ⟨h1, h2⟩, h3, h4, h5, h6, -⟩ := h.ht.at_ i hi
  rw [hva] at e
  obtain ⟨rfl, rfl⟩ : g = g' ∧ cap = cap' := by simpa using e
  exact ⟨a, k, h3, h4, h5, h6.widen fun b hb => hb.2.1, h1, h2⟩
theorem StW.setAt (h : StW w n0 B va vm th mem) (i : Nat) (hi : i < th.length) (hva : va = .slice (some ⟨g, 0, none⟩) th.length cap) (j : Nat) (u : Value) (x : Thr) (hj : j < 5) (hx : x.buf = th[i].buf) (hc : ∀ a k, x.cells a k = (th[i].cells a k).set j u) :
    StW (w.setCell ⟨g, i * 6 + j, none⟩ u) n0 B va vm (th.set i x) mem := by
  obtain ⟨g', cap', a, k, e, -, ⟨h1, h2⟩, -, -, -, -, h7, -⟩ := h.ht.at_ i hi
  rw [hva] at e
  obtain ⟨rfl, rfl⟩ : g = g' ∧ cap = cap' := by simpa using e
  obtain ⟨h8, h9⟩ := h7 j u x hj hx (hc a k)
  exact h.thr h9 h1 h8
theorem StW.setBuf (h : StW w n0 B va vm th mem) (i : Nat) (hi : i < th.length) (hva : va = .slice (some ⟨g, 0, none⟩) th.length cap) (a' : Option Addr) (k' : Nat) (l : List (Int × Int)) (hl : EnIn w (Sx w B va) a' l.length k' l) :
    StW (w.setCell ⟨g, i * 6 + 5, none⟩ (.slice a' l.length k')) n0 B va vm (th.set i { th[i] with buf := l }) mem := by
  obtain ⟨g', cap', a, k, e, -, ⟨h1, h2⟩, -, -, -, -, -, h7⟩ := h.ht.at_ i hi
  rw [hva] at e
  obtain ⟨rfl, rfl⟩ : g = g' ∧ cap = cap' := by simpa using e
  obtain ⟨h8, h9⟩ := h7 a' k' l hl
  exact h.thr h9 h1 h8
theorem StW.setAt2 {i : Nat} {x : Thr} (h : StW w n0 B va vm (th.set i x) mem) (hi : i < th.length) (hva : va = .slice (some ⟨g, 0, none⟩) th.length cap) (j : Nat) (u : Value) (x' : Thr) (hj : j < 5) (hx : x'.buf = x.buf) (hc : ∀ a k, x'.cells a k = (x.cells a k).set j u) :
    StW (w.setCell ⟨g, i * 6 + j, none⟩ u) n0 B va vm (th.set i x') mem := by
  have h1 := h.setAt i (by simpa using hi) (by rw [List.length_set]; exact hva) j u x' hj (by rw [List.getElem_set_self]; exact hx) (fun a k => by rw [List.getElem_set_self]; exact hc a k)
  rwa [List.set_set] at h1
theorem StW.setBuf2 {i : Nat} {x : Thr} (h : StW w n0 B va vm (th.set i x) mem) (hi : i < th.length) (hva : va = .slice (some ⟨g, 0, none⟩) th.length cap) (a' : Option Addr) (k' : Nat) (l : List (Int × Int)) (hl : EnIn w (Sx w B va) a' l.length k' l) :
    StW (w.setCell ⟨g, i * 6 + 5, none⟩ (.slice a' l.length k')) n0 B va vm (th.set i { x with buf := l }) mem := by
  have h1 := h.setBuf i (by simpa using hi) (by rw [List.length_set]; exact hva) a' k' l hl
  rwa [List.set_set, List.getElem_set_self] at h1
theorem StW.mem_ (h : StW w n0 B va vm th mem) (v : Nat) (hv : v < mem.length) (hvm : vm = .slice (some ⟨gm, 0, none⟩) mem.length cm) :
    w.cell? ⟨gm, v, none⟩ = some (.int .i64 mem[v]) ∧ (∀ j, w.frozen? ⟨gm, j, none⟩ = false) ∧ (n0 ≤ gm ∧ gm < B) ∧ (mem.length ≤ cm ∧ cm ≤ maxLen) := by
  obtain ⟨g', cap', e, h2, ⟨h0, -⟩, h3, h4, -⟩ := h.hm.at_ v hv
  rw [hvm] at e
  obtain ⟨rfl, rfl⟩ : gm = g' ∧ cm = cap' := by simpa using e
  exact ⟨h3, h4, ⟨h0, h.ml _ (by rw [hvm]; rfl)⟩, h2⟩
theorem StW.setMem (h : StW w n0 B va vm th mem) (v : Nat) (hv : v < mem.length) (hvm : vm = .slice (some ⟨gm, 0, none⟩) mem.length cm) (n : Int) :
    StW (w.setCell ⟨gm, v, none⟩ (.int .i64 n)) n0 B va vm th (mem.set v n) := by
  have hB := (h.mem_ v hv hvm).2.2.1.2
  obtain ⟨g', cap', e, -, -, -, -, h5⟩ := h.hm.at_ v hv
  rw [hvm] at e
  obtain ⟨rfl, rfl⟩ : gm = g' ∧ cm = cap' := by simpa using e
  obtain ⟨h8, h9⟩ := h5 n
  exact ⟨h.le, Nat.le_trans h.lt h9.size, h8, h.ml, h.ht.grown h9 fun k hk => by simp at hk; omega⟩
end
end Go.Proofs.YtekmcoflagajkaaGreatDoor
