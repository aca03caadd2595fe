/- The parser takes a part of a formula: what is known on the way. -/
import Derived.Test.YtogopcejapklgaaGreatDoorPrE
import Derived.Test.YtogopcejapklgaaGreatDoorFmK
import Derived.Test.YtogopcejapklgaaGreatDoorBunM
import Derived.Test.YtogopcejapklgaaGreatDoorBunF
namespace Go.Proofs.YtogopcejapklgaaGreatDoor
open Go.RowKit

def New (w w' : World) (b : Nat) : Prop := w.heap.size ≤ b ∧ b < w'.heap.size
def FormPost (w : World) (P d c : Nat) (L : List Tok) (e : Ending) (w' : World) : Prop :=
  match parL d c L with
  | .ok (f, L2, c2) => ∃ a cap, e = .returned (.agg #[.int .i64 f.kind, .int .i64 f.prop.k, .int .i64 f.prop.t, .int .i64 f.prop.a, .int .i64 f.prop.n, .slice a f.kids.length cap]) ∧ FmIn w' (New w w') (fmC f.kind f.prop a f.kids.length cap) f ∧ PBox w' P L2 c2 ∧ w.grownBy w' (some P)
  | .bad er i => e = wrongP er i ∧ w.grownBy w' (some P)
/-- The contract of formula, within so much depth. -/
def FormAt (d : Nat) : Prop := ∀ (P c : Nat) (L : List Tok) (wi : Int) (w : World), wi = 20 - d → c ≤ 200 → PBox w P L c → Ends L → Tn L →
  Calls Tryz.prog 26 #[.pointer (some ⟨P, 0, none⟩), .int .i64 wi] w (FormPost w P d c L)

/-- Below base nothing but two blocks has turned. -/
structure But3 (base : Nat) (w w' : World) (P B : Nat) : Prop where
  os : w'.os = w.os
  tape : w'.tape = w.tape
  output : w'.output = w.output
  size : w.heap.size ≤ w'.heap.size
  block : ∀ b, b < base → b ≠ P → b ≠ B → w'.heap[b]? = w.heap[b]?
theorem But3.refl (base : Nat) (w : World) (P B : Nat) : But3 base w w P B := ⟨rfl, rfl, rfl, Nat.le_refl _, fun _ _ _ _ => rfl⟩
theorem But3.trans {base : Nat} {a b c : World} {P B : Nat} (h : But3 base a b P B) (g : But3 base b c P B) : But3 base a c P B :=
  ⟨g.os.trans h.os, g.tape.trans h.tape, g.output.trans h.output, Nat.le_trans h.size g.size, fun k hk h1 h2 => (g.block k hk h1 h2).trans (h.block k hk h1 h2)⟩
theorem But3.of {base : Nat} {w w' : World} {P : Nat} {r : Option Nat} (h : w.grownBy w' r) (hb : base ≤ w.heap.size) (hr : ∀ k, r = some k → k = P ∨ base ≤ k) (B : Nat) : But3 base w w' P B :=
  ⟨h.os, h.tape, h.output, h.size, fun b hlt h1 _ => h.block b (by omega) fun e => by rcases hr b e.symm with h | h <;> omega⟩
theorem But3.fin {base : Nat} {a w w' : World} {P B : Nat} (h : a.grownBy w (some P)) (g : But3 base w w' P B) (ha : a.heap.size ≤ base) (hB : a.heap.size ≤ B) : a.grownBy w' (some P) :=
  ⟨g.os.trans h.os, g.tape.trans h.tape, g.output.trans h.output, Nat.le_trans h.size g.size, fun b hb hne => (g.block b (by omega) (by simpa using hne) (by omega)).trans (h.block b hb hne)⟩

/-- On the way: the formula's box and its parts, the boxes of the parser and of the depth. -/
structure KSt (base : Nat) (w x : World) (P B bp bw : Nat) (wi k : Int) (v : Value) (l : List Fm) : Prop where
  but : But3 base w x P B
  hB : x.heap[B]? = some (fmO k Pr.zero v)
  kd : Kds x base v l
  sz : base ≤ x.heap.size
  lt : P < B ∧ B < base
  bp : x.cell? ⟨bp, 0, none⟩ = some (.pointer (some ⟨P, 0, none⟩)) ∧ bp < base ∧ bp ≠ P ∧ bp ≠ B
  bw : x.cell? ⟨bw, 0, none⟩ = some (.int .i64 wi) ∧ bw < base ∧ bw ≠ P ∧ bw ≠ B
namespace KSt
variable {base : Nat} {w x y : World} {P B bp bw : Nat} {wi k : Int} {v v' : Value} {l l' : List Fm}
theorem grown (h : KSt base w x P B bp bw wi k v l) {r : Option Nat} (hg : x.grownBy y r) (hr : ∀ k, r = some k → k = P) : KSt base w y P B bp bw wi k v l := by
  have hl := h.lt
  have hs := h.sz
  have hk : ∀ b, b < base → b ≠ P → y.heap[b]? = x.heap[b]? := fun b hb hne => hg.block b (by omega) fun e => hne (hr b e.symm)
  exact ⟨h.but.trans (.of hg hs (fun k e => .inl (hr k e)) B), (hk B hl.2 (by omega)).trans h.hB, h.kd.grown hg fun k e => by have := hr k e; omega, Nat.le_trans hs hg.size, hl,
    ⟨(World.cell?_of_block (w := x) (a := ⟨bp, 0, none⟩) (hk bp h.bp.2.1 h.bp.2.2.1)).trans h.bp.1, h.bp.2⟩, ⟨(World.cell?_of_block (w := x) (a := ⟨bw, 0, none⟩) (hk bw h.bw.2.1 h.bw.2.2.1)).trans h.bw.1, h.bw.2⟩⟩
theorem alloc (h : KSt base w x P B bp bw wi k v l) (o : Obj) : KSt base w (x.alloc o) P B bp bw wi k v l := h.grown (World.grownBy_alloc x o none) fun _ e => by cases e
theorem drew (h : KSt base w x P B bp bw wi k v l) : KSt base w x.drew P B bp bw wi k v l := h.grown (r := none) (grown_drew (grown_refl _ _)) fun _ e => by cases e
theorem cells (h : KSt base w x P B bp bw wi k v l) : x.cell? ⟨bp, 0, none⟩ = some (.pointer (some ⟨P, 0, none⟩)) ∧ x.cell? ⟨bw, 0, none⟩ = some (.int .i64 wi) := ⟨h.bp.1, h.bw.1⟩
theorem box (h : KSt base w x P B bp bw wi k v l) : x.cell? ⟨B, 5, none⟩ = some v ∧ (∀ o, x.frozen? ⟨B, o, none⟩ = false) ∧ B < x.heap.size := by
  obtain ⟨y9, yf, y0, y1, y2, y3, y4, y5⟩ := fmO_cells h.hB
  exact ⟨y5, yf, y9⟩
/-- What a call has made lies apart. -/
theorem made (h : KSt base w x P B bp bw wi k v l) {cs : List Value} {f : Fm} (hf : FmIn y (New x y) cs f) : FmIn y (Ks base y v) cs f :=
  hf.widen fun b hb => ⟨Nat.le_trans h.sz hb.1, hb.2, fun e => by have := (h.kd.own b e.symm).2; have := hb.1; omega⟩
theorem made_alloc {cs : List Value} {f : Fm} (hf : FmIn x (Ks base x v) cs f) (o : Obj) : FmIn (x.alloc o) (Ks base (x.alloc o) v) cs f :=
  (hf.keep fun b o hb => World.cell?_alloc_lt _ _ _ hb.2.1).widen fun b hb => ⟨hb.1, by have := hb.2.1; simp; omega, hb.2.2⟩
end KSt

def KidPost (base : Nat) (w : World) (P B : Nat) (k : Int) (n : Nat) (l : List Fm) (d c : Nat) (L : List Tok) (e : Ending) (w' : World) : Prop :=
  match parL d c L with
  | .ok (f, L2, c2) => e = .returned (.tuple #[]) ∧ (∃ A cap, w'.heap[B]? = some (fmO k Pr.zero (.slice A (n + 1) cap)) ∧ Kds w' base (.slice A (n + 1) cap) (l ++ [f])) ∧ PBox w' P L2 c2 ∧ But3 base w w' P B
  | .bad er i => e = wrongP er i ∧ But3 base w w' P B

theorem put6_congr {w w' : World} {g g' off : Nat} {l : List Value} (h : w.heap[g']? = w'.heap[g']?) : (put6 w g off l).heap[g']? = (put6 w' g off l).heap[g']? := by
  have key : ∀ (js : List Nat) (w w' : World), w.heap[g']? = w'.heap[g']? → (js.foldl (fun w j => w.setCell ⟨g, off + j, none⟩ (l[j]?.getD undef)) w).heap[g']? = (js.foldl (fun w j => w.setCell ⟨g, off + j, none⟩ (l[j]?.getD undef)) w').heap[g']? := by
    intro js
    induction js with
    | nil => intro w w' h; exact h
    | cons j js ih =>
      intro w w' h
      exact ih _ _ (by simp [World.setCell, Array.getElem?_modify, h])
  exact key _ _ _ h
theorem put6_far {w : World} {g off b : Nat} {l : List Value} (h : b ≠ g) : (put6 w g off l).heap[b]? = w.heap[b]? := by
  have key : ∀ (js : List Nat) (w : World), (js.foldl (fun w j => w.setCell ⟨g, off + j, none⟩ (l[j]?.getD undef)) w).heap[b]? = w.heap[b]? := by
    intro js
    induction js with
    | nil => intro w; rfl
    | cons j js ih =>
      intro w
      exact (ih _).trans (Below.heap_setCell _ _ _ _ (by simpa using h))
  exact key _ _
theorem put6_same (w : World) (g off : Nat) (l : List Value) : (put6 w g off l).os = w.os ∧ (put6 w g off l).tape = w.tape ∧ (put6 w g off l).output = w.output ∧ (put6 w g off l).heap.size = w.heap.size := by
  have key : ∀ (js : List Nat) (w : World), (js.foldl (fun w j => w.setCell ⟨g, off + j, none⟩ (l[j]?.getD undef)) w).os = w.os ∧ (js.foldl (fun w j => w.setCell ⟨g, off + j, none⟩ (l[j]?.getD undef)) w).tape = w.tape ∧ (js.foldl (fun w j => w.setCell ⟨g, off + j, none⟩ (l[j]?.getD undef)) w).output = w.output ∧ (js.foldl (fun w j => w.setCell ⟨g, off + j, none⟩ (l[j]?.getD undef)) w).heap.size = w.heap.size := by
    intro js
    induction js with
    | nil => intro w; exact ⟨rfl, rfl, rfl, rfl⟩
    | cons j js ih =>
      intro w
      obtain ⟨h1, h2, h3, h4⟩ := ih (w.setCell ⟨g, off + j, none⟩ (l[j]?.getD undef))
      exact ⟨h1, h2, h3, by rw [List.foldl_cons, h4]; simp⟩
  exact key _ _
/-- What is left, once the part's cells and the row are written, in whichever order. -/
theorem KSt.fin {base : Nat} {w x W' W2 : World} {P B bp bw n g cap c2 : Nat} {wi k : Int} {v : Value} {L2 : List Tok} {LL : List (Fm × (Nat → Value))} {f : Fm} {cs : List Value} (h : KSt base w x P B bp bw wi k v (LL.map (·.1))) (hn : LL.length = n)
    (hL : ∀ y ∈ LL, FmIn x (Ks base x v) (fxC y) y.1) (hf : FmIn x (Ks base x v) cs f) (hP : PBox x P L2 c2) (hA : App6 x W' base v (.slice (some ⟨g, 0, none⟩) (n + 1) cap) n (LL.flatMap fxC)) (hg : base ≤ g)
    (hW : W2 = (put6 W' g (n * 6) cs).setCell ⟨B, 5, none⟩ (.slice (some ⟨g, 0, none⟩) (n + 1) cap) ∨ W2 = put6 (W'.setCell ⟨B, 5, none⟩ (.slice (some ⟨g, 0, none⟩) (n + 1) cap)) g (n * 6) cs) :
    (∃ A cap, W2.heap[B]? = some (fmO k Pr.zero (.slice A (n + 1) cap)) ∧ Kds W2 base (.slice A (n + 1) cap) (LL.map (·.1) ++ [f])) ∧ PBox W2 P L2 c2 ∧ But3 base w W2 P B := by
  have hl := h.lt
  have hs := h.sz
  have hgr := hA.gr
  have hsz := hgr.size
  have hv : ∀ q, v.ownBlock = some q → base ≤ q := fun q hq => (h.kd.own q hq).1
  obtain ⟨e1, e2, e3, e4⟩ := put6_same W' g (n * 6) cs
  obtain ⟨f1, f2, f3, f4⟩ := put6_same (W'.setCell ⟨B, 5, none⟩ (.slice (some ⟨g, 0, none⟩) (n + 1) cap)) g (n * 6) cs
  have hBW : W'.heap[B]? = some (fmO k Pr.zero v) := (hgr.block B (by omega) fun e => by have := hv B e.symm; omega).trans h.hB
  have hset : ∀ W : World, W.heap[B]? = some (fmO k Pr.zero v) → (W.setCell ⟨B, 5, none⟩ (.slice (some ⟨g, 0, none⟩) (n + 1) cap)).heap[B]? = some (fmO k Pr.zero (.slice (some ⟨g, 0, none⟩) (n + 1) cap)) := fun W hW => by
    simp [World.setCell, Array.getElem?_modify, hW, fmO]
  have hfar : ∀ b, b ≠ g → b ≠ B → W2.heap[b]? = W'.heap[b]? := fun b h1 h2 => by
    rcases hW with rfl | rfl
    · rw [Below.heap_setCell _ _ _ _ (by simpa using h2), put6_far h1]
    · rw [put6_far h1, Below.heap_setCell _ _ _ _ (by simpa using h2)]
  have hg2 : W2.heap[g]? = (put6 W' g (n * 6) cs).heap[g]? := by
    rcases hW with rfl | rfl
    · rw [Below.heap_setCell _ _ _ _ (by simp; omega)]
    · exact put6_congr (Below.heap_setCell _ _ _ _ (by simp; omega))
  have hB2 : W2.heap[B]? = some (fmO k Pr.zero (.slice (some ⟨g, 0, none⟩) (n + 1) cap)) := by
    rcases hW with rfl | rfl
    · exact hset _ ((put6_far (by omega)).trans hBW)
    · rw [put6_far (by omega)]; exact hset _ hBW
  have hsame : W2.os = W'.os ∧ W2.tape = W'.tape ∧ W2.output = W'.output ∧ W2.heap.size = W'.heap.size := by
    rcases hW with rfl | rfl
    · exact ⟨e1, e2, e3, by rw [← e4]; simp⟩
    · exact ⟨f1, f2, f3, by rw [f4]; simp⟩
  obtain ⟨s1, s2, s3, s4⟩ := hsame
  have hblk : ∀ b, b < base → b ≠ B → W2.heap[b]? = x.heap[b]? := fun b hb hne => (hfar b (by omega) hne).trans (hgr.block b (by omega) fun e => by have := hv b e.symm; omega)
  refine ⟨⟨_, _, hB2, Kds.next hA hn hL hf s4 hg2 fun b hb hne => hfar b hne (by omega)⟩, hP.keep (by omega) fun b hb => hblk b (by omega) (by omega), h.but.trans ⟨s1.trans hgr.os, s2.trans hgr.tape, s3.trans hgr.output, by omega, fun b hb _ h2 => hblk b hb h2⟩⟩
end Go.Proofs.YtogopcejapklgaaGreatDoor
