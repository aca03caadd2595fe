/- The program's writer of statements: what it reads, and how texts are put. -/
import Derived.Test.YtphlbbnmligadaaGreatDoorPrU
import Derived.Test.YtphlbbnmligadaaGreatDoorBunP
import Derived.Deep.RegionHeld3
namespace Go.Proofs.YtphlbbnmligadaaGreatDoor
open Go.RowKit

/-- What a writing call reads: a statement's box, the names' row, a name. -/
abbrev Rd (X wb : Nat) (vs : Value) (vb vo : Nat) (nm : Value) (W0 W : World) : Prop :=
  (∀ j, W.cell? ⟨X, j, none⟩ = W0.cell? ⟨X, j, none⟩) ∧ W.cell? ⟨wb, 2, none⟩ = some vs ∧ W.cell? ⟨vb, vo, none⟩ = some nm
theorem Rd.below {X wb vb vo : Nat} {vs nm : Value} {W0 W W' : World} (h : Rd X wb vs vb vo nm W0 W) (hb : Below W.heap.size W W') (h1 : X < W.heap.size) (h2 : wb < W.heap.size) (h3 : vb < W.heap.size) : Rd X wb vs vb vo nm W0 W' :=
  ⟨fun j => (hb.cell (p := ⟨X, j, none⟩) h1).trans (h.1 j), (hb.cell (p := ⟨wb, 2, none⟩) h2).trans h.2.1, (hb.cell (p := ⟨vb, vo, none⟩) h3).trans h.2.2⟩
theorem Rd.wk {X wb vb vo B : Nat} {vs nm : Value} {L : List UInt8} {W0 W W' : World} {c : Array Value} {T : TypeId} {fz : Nat × Nat} (h : Rd X wb vs vb vo nm W0 W) (k : Wk B wb W W') (hX : W.heap[X]? = some (.cells c T fz)) (hT : T ≠ 5) (hne : X ≠ wb) (hw : Wt W' B wb L vs) (hvb : vb < B) : Rd X wb vs vb vo nm W0 W' :=
  ⟨fun j => (World.cell?_of_block (a := ⟨X, j, none⟩) ((k.cells hX hne hT).trans hX.symm)).trans (h.1 j), hw.c2, (k.bl.cell (p := ⟨vb, vo, none⟩) hvb).trans h.2.2⟩

/-- put of texts that stand in a new row. -/
theorem put_lit {B wb : Nat} {L : List UInt8} {vs : Value} (W : World) (cs : Array Value) (n : Nat) (l : List ByteArray) (h : Wt W B wb L vs) (hB : B ≤ W.heap.size) (hcs : cs = (l.map Value.string).toArray) (hn : n = l.length) (hn2 : n ≤ 1000) (hlen : L.length + (catB l).length ≤ 100000000000) :
    Calls Tryz.prog 25 #[.pointer (some ⟨wb, 0, none⟩), .slice (some ⟨W.heap.size, 0, none⟩) n n] (W.alloc (.cells cs 9)) fun e w' => e = .returned (.tuple #[]) ∧ Wt w' B wb (L ++ catB l) vs ∧ Wk B wb W w' := by
  subst hcs
  have hb : Below W.heap.size W (W.alloc (.cells (l.map Value.string).toArray 9)) := (Below.refl _ _).alloc (Nat.le_refl _) _
  refine (put_any B wb L vs _ n n l _ (h.below hb) ⟨hn, Nat.le_refl _, by unfold maxLen; omega, W.heap.size, 0, _, (0, 0), rfl, heap_alloc_new W _, fun i hi => ?_⟩ hlen (by simp; omega)).mono ?_
  · simp [hi]
  · rintro e w' ⟨rfl, h1, h2⟩
    exact ⟨rfl, h1, (Wk.of_below hb hB).trans h2⟩

/-- The writer of a kind of statements. -/
def fnK (k : Int) : Nat :=
  if k = 1 then 77 else if k = 2 then 78 else if k = 3 then 79 else if k = 4 then 80 else if k = 5 then 81 else if k = 6 then 82
  else if k = 7 then 83 else if k = 8 then 84 else if k = 9 then 85 else if k = 10 then 86 else 87

def LtB (B : Nat) : Nat → Prop := fun b => b < B
def WStC (vs : List ByteArray) (dom : Int) (n : Nat) : Prop := ∀ (x : St), okS vs.length dom n x = true → cntS x ≤ 200 → ∀ (B wb : Nat) (L : List UInt8) (va : Option Addr) (cv : Nat) (cs : List Value) (w : World), Wt w B wb L (.slice va vs.length cv) → B ≤ w.heap.size → VrIn w (LtB B) va vs.length cv vs → StIn w (LtB B) cs x → L.length + (stB vs x).length ≤ 90000000000 →
  Calls Tryz.prog (fnK x.kind) #[.pointer (some ⟨wb, 0, none⟩), .agg cs.toArray] w (PutPost B wb (L ++ stB vs x) (.slice va vs.length cv) w)
def WBlC (vs : List ByteArray) (dom : Int) (n : Nat) : Prop := ∀ (l : List St), okL vs.length dom n l = true → cntL l ≤ 200 → ∀ (B wb : Nat) (L : List UInt8) (va : Option Addr) (cv : Nat) (a : Option Addr) (cap : Nat) (w : World), Wt w B wb L (.slice va vs.length cv) → B ≤ w.heap.size → VrIn w (LtB B) va vs.length cv vs → StRow w (LtB B) a l.length cap l → L.length + (blkB vs l).length ≤ 90000000000 →
  Calls Tryz.prog 28 #[.pointer (some ⟨wb, 0, none⟩), .slice a l.length cap] w (PutPost B wb (L ++ blkB vs l) (.slice va vs.length cv) w)
end Go.Proofs.YtphlbbnmligadaaGreatDoor
