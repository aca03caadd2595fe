/- How plain data lie in memory: slices, expressions; what a call keeps. No program in sight. -/
import Derived.WalkKit
import Derived.WalkSpells
import Derived.WalkLawsBesides
namespace Go.Proofs.YtcgpobeidlimkaaGreatDoor
open Go.RowKit

theorem hid {p : Prop} (h : p) : Hid p := h

theorem ret_int {k : IntKind} {a b : Int} (h : a = b) : Ending.returned (.int k a) = .returned (.int k b) := by rw [h]
theorem ret_bool {a b : Bool} (h : a = b) : Ending.returned (.bool a) = .returned (.bool b) := by rw [h]

/-- What was there in W0 is as it was. -/
abbrev Kp (W0 w' : World) : Prop := Below W0.heap.size W0 w' ∧ ∀ b o, b < W0.heap.size → w'.cell? ⟨b, o, none⟩ = W0.cell? ⟨b, o, none⟩
theorem Kp.of {W0 w' : World} (h : Below W0.heap.size W0 w') : Kp W0 w' := ⟨h, fun _ _ hb => h.cell (p := ⟨_, _, none⟩) hb⟩
theorem Kp.start (W0 : World) : Kp W0 W0.drew := .of (Below.refl _ _).drew
theorem Kp.refl (W0 : World) : Kp W0 W0 := .of (Below.refl _ _)
theorem Kp.next {W0 w w' : World} (h : Kp W0 w) (hb : Below w.heap.size w w') : Kp W0 w' := .of (h.1.trans (hb.mono h.1.size))
theorem Kp.fin {w W0 w1 : World} (hB : Below w.heap.size w W0) (h : Kp W0 w1) : Below w.heap.size w w1 := hB.trans (h.1.mono hB.size)

/-- The blocks that lie in w. -/
def In_ (w : World) : Nat → Prop := fun b => b < w.heap.size
theorem In_.mono {w w' : World} (h : w.heap.size ≤ w'.heap.size) : ∀ b, In_ w b → In_ w' b := fun _ hb => Nat.lt_of_lt_of_le hb h
theorem In_.lt {w : World} {b : Nat} (h : In_ w b) : b < w.heap.size := h

/-- n elements of sz cells each lie where a slice leads, in blocks of S: element i's cells are C i. -/
structure Sl (w : World) (S : Nat → Prop) (sz : Nat) (a : Option Addr) (n cap : Nat) (C : Nat → List Value) : Prop where
  le : n ≤ cap
  mx : cap ≤ maxLen
  at_ : 0 < n → ∃ b off, a = some ⟨b, off, none⟩ ∧ S b ∧ ∀ i, i < n → ∀ j, j < sz → w.cell? ⟨b, off + (i * sz + j), none⟩ = (C i)[j]?

namespace Sl
variable {w w' : World} {S S' : Nat → Prop} {sz n cap : Nat} {a : Option Addr} {C : Nat → List Value}
theorem keep (h : Sl w S sz a n cap C) (hk : ∀ b o, S b → w'.cell? ⟨b, o, none⟩ = w.cell? ⟨b, o, none⟩) : Sl w' S sz a n cap C :=
  ⟨h.le, h.mx, fun h0 => by
    obtain ⟨b, off, rfl, hb, hc⟩ := h.at_ h0
    exact ⟨b, off, rfl, hb, fun i hi j hj => (hk _ _ hb).trans (hc i hi j hj)⟩⟩
theorem widen (h : Sl w S sz a n cap C) (hS : ∀ b, S b → S' b) : Sl w S' sz a n cap C :=
  ⟨h.le, h.mx, fun h0 => by
    obtain ⟨b, off, rfl, hb, hc⟩ := h.at_ h0
    exact ⟨b, off, rfl, hS _ hb, hc⟩⟩
theorem nil {sz : Nat} : Sl w S sz none 0 0 C := ⟨Nat.le_refl _, Nat.zero_le _, fun h => absurd h (by omega)⟩
end Sl

/-- An expression: kind, number, operator, parts. -/
inductive Ex where
  | mk (k n o : Int) (kids : List Ex)

namespace Ex
def kind : Ex → Int | mk k _ _ _ => k
def num : Ex → Int | mk _ n _ _ => n
def op : Ex → Int | mk _ _ o _ => o
def kids : Ex → List Ex | mk _ _ _ l => l

theorem ind {P : Ex → Prop} (h : ∀ k n o l, (∀ x, x ∈ l → P x) → P (mk k n o l)) : ∀ x, P x
  | mk k n o l => h k n o l fun x _hx => ind h x
termination_by x => SizeOf.sizeOf x
decreasing_by
  have := List.sizeOf_lt_of_mem _hx
  simp only [mk.sizeOf_spec]; omega
end Ex

/-- There is such an operator. -/
def isOp (o : Int) : Bool := o == 43 || o == 45 || o == 42 || o == 60 || o == 38 || o == 124 || o == 61 || o == 33

/-- May an expression be, within so much depth, with numbers below a domain? -/
def Ex.fit (dom : Int) : Nat → Ex → Bool
  | 0, _ => false
  | deep + 1, mk k n o l =>
    if k = 1 then decide (0 ≤ n) && decide (n < dom) && o == 0 && l.isEmpty
    else if k = 2 then decide (0 ≤ n) && decide (n < 4) && o == 0 && l.isEmpty
    else if k = 3 then n == 0 && isOp o && (match l with | [x, y] => fit dom deep x && fit dom deep y | _ => false)
    else false

/-- An expression lies in 'w', its parts in blocks of S: its four cells. -/
inductive ExIn (w : World) (S : Nat → Prop) : List Value → Ex → Prop
  | mk (k n o : Int) (a : Option Addr) (cap : Nat) (l : List Ex) (cs : Nat → List Value)
      (wk : (Lit.int .i64 k).wf = true) (wn : (Lit.int .i64 n).wf = true) (wo : (Lit.int .u8 o).wf = true)
      (hs : Sl w S 4 a l.length cap cs)
      (hk : ∀ i (h : i < l.length), ExIn w S (cs i) l[i]) :
      ExIn w S [.int .i64 k, .int .i64 n, .int .u8 o, .slice a l.length cap] (.mk k n o l)

namespace ExIn
variable {w w' : World} {S S' : Nat → Prop} {cs : List Value} {x : Ex}
theorem keep (h : ExIn w S cs x) (hk : ∀ b o, S b → w'.cell? ⟨b, o, none⟩ = w.cell? ⟨b, o, none⟩) : ExIn w' S cs x := by
  induction h with
  | mk k n o a cap l cs wk wn wo hs _ ih => exact .mk k n o a cap l cs wk wn wo (hs.keep hk) (fun i hi => ih i hi)
theorem widen (h : ExIn w S cs x) (hS : ∀ b, S b → S' b) : ExIn w S' cs x := by
  induction h with
  | mk k n o a cap l cs wk wn wo hs _ ih => exact .mk k n o a cap l cs wk wn wo (hs.widen hS) (fun i hi => ih i hi)
theorem four (h : ExIn w S cs x) : ∃ u0 u1 u2 u3, cs = [u0, u1, u2, u3] := by
  cases h with
  | mk => exact ⟨_, _, _, _, rfl⟩
theorem open_ {k n o : Int} {l : List Ex} (h : ExIn w S cs (.mk k n o l)) :
    ∃ a cap, cs = [.int .i64 k, .int .i64 n, .int .u8 o, .slice a l.length cap] ∧ l.length ≤ cap ∧ cap ≤ maxLen ∧ (Lit.int .i64 k).wf = true ∧ (Lit.int .i64 n).wf = true ∧ (Lit.int .u8 o).wf = true ∧
      ∀ i (_ : i < l.length), ∃ b off u0 u1 u2 u3, a = some ⟨b, off, none⟩ ∧ S b ∧ w.cell? ⟨b, off + i * 4, none⟩ = some u0 ∧ w.cell? ⟨b, off + i * 4 + 1, none⟩ = some u1 ∧ w.cell? ⟨b, off + i * 4 + 2, none⟩ = some u2 ∧ w.cell? ⟨b, off + i * 4 + 3, none⟩ = some u3 ∧
        ExIn w S [u0, u1, u2, u3] l[i] := by
  cases h with
  | mk _ _ _ a cap _ cs wk wn wo hs hk =>
  refine ⟨a, cap, rfl, hs.le, hs.mx, wk, wn, wo, fun i hi => ?_⟩
  obtain ⟨b, off, rfl, hb, hcell⟩ := hs.at_ (by omega)
  have h := hk i hi
  obtain ⟨u0, u1, u2, u3, he⟩ := h.four
  rw [he] at h
  have g := fun j hj => hcell i hi j hj
  simp only [he] at g
  exact ⟨b, off, u0, u1, u2, u3, rfl, hb, by simpa using g 0 (by omega), by simpa [Nat.add_assoc] using g 1 (by omega), by simpa [Nat.add_assoc] using g 2 (by omega), by simpa [Nat.add_assoc] using g 3 (by omega), h⟩
/-- The very two parts of an expression that has two, behind 'open_'. -/
theorem pair {a : Option Addr} {x y : Ex}
    (h : ∀ i (_ : i < [x, y].length), ∃ b off u0 u1 u2 u3, a = some ⟨b, off, none⟩ ∧ S b ∧ w.cell? ⟨b, off + i * 4, none⟩ = some u0 ∧ w.cell? ⟨b, off + i * 4 + 1, none⟩ = some u1 ∧ w.cell? ⟨b, off + i * 4 + 2, none⟩ = some u2 ∧ w.cell? ⟨b, off + i * 4 + 3, none⟩ = some u3 ∧
        ExIn w S [u0, u1, u2, u3] [x, y][i]) :
    ∃ b off u0 u1 u2 u3 v0 v1 v2 v3, a = some ⟨b, off, none⟩ ∧ S b ∧
      w.cell? ⟨b, off, none⟩ = some u0 ∧ w.cell? ⟨b, off + 1, none⟩ = some u1 ∧ w.cell? ⟨b, off + 2, none⟩ = some u2 ∧ w.cell? ⟨b, off + 3, none⟩ = some u3 ∧
      w.cell? ⟨b, off + 4, none⟩ = some v0 ∧ w.cell? ⟨b, off + (4 + 1), none⟩ = some v1 ∧ w.cell? ⟨b, off + (4 + 2), none⟩ = some v2 ∧ w.cell? ⟨b, off + (4 + 3), none⟩ = some v3 ∧
      ExIn w S [u0, u1, u2, u3] x ∧ ExIn w S [v0, v1, v2, v3] y := by
  obtain ⟨b, off, u0, u1, u2, u3, rfl, hb, g0, g1, g2, g3, hx⟩ := h 0 (by simp)
  obtain ⟨b', off', v0, v1, v2, v3, e, _, h0, h1, h2, h3, hy⟩ := h 1 (by simp)
  simp only [Option.some.injEq, Addr.mk.injEq, and_true] at e
  obtain ⟨rfl, rfl⟩ := e
  exact ⟨b, off, u0, u1, u2, u3, v0, v1, v2, v3, rfl, hb, by simpa using g0, by simpa using g1, by simpa using g2, by simpa using g3, by simpa using h0, by simpa [Nat.add_assoc] using h1, by simpa [Nat.add_assoc] using h2, by simpa [Nat.add_assoc] using h3, hx, hy⟩
theorem leaf (w : World) (S : Nat → Prop) (k n o : Int) (wk : (Lit.int .i64 k).wf = true) (wn : (Lit.int .i64 n).wf = true) (wo : (Lit.int .u8 o).wf = true) :
    ExIn w S [.int .i64 k, .int .i64 n, .int .u8 o, .slice none 0 0] (.mk k n o []) :=
  .mk k n o none 0 [] (fun _ => []) wk wn wo .nil (fun i hi => absurd hi (by simp))
theorem mk2 {k n o : Int} (wk : (Lit.int .i64 k).wf = true) (wn : (Lit.int .i64 n).wf = true) (wo : (Lit.int .u8 o).wf = true) {b : Nat} {u0 u1 u2 u3 v0 v1 v2 v3 : Value} {x y : Ex} (hb : S b)
    (hc : ∀ j, w.cell? ⟨b, j, none⟩ = (#[u0, u1, u2, u3, v0, v1, v2, v3] : Array Value)[j]?) (hx : ExIn w S [u0, u1, u2, u3] x) (hy : ExIn w S [v0, v1, v2, v3] y) :
    ExIn w S [.int .i64 k, .int .i64 n, .int .u8 o, .slice (some ⟨b, 0, none⟩) 2 2] (.mk k n o [x, y]) := by
  refine .mk k n o (some ⟨b, 0, none⟩) 2 [x, y] (fun i => match i with | 0 => [u0, u1, u2, u3] | _ => [v0, v1, v2, v3]) wk wn wo ⟨Nat.le_refl _, by decide, fun _ => ⟨b, 0, rfl, hb, fun i hi j hj => ?_⟩⟩ (fun i hi => ?_)
  · rw [hc]
    match i, hi, j, hj with
    | 0, _, 0, _ | 0, _, 1, _ | 0, _, 2, _ | 0, _, 3, _ | 1, _, 0, _ | 1, _, 1, _ | 1, _, 2, _ | 1, _, 3, _ => rfl
  · match i, hi with
    | 0, _ => exact hx
    | 1, _ => exact hy
end ExIn

theorem Kp.ex {W0 w : World} (h : Kp W0 w) {cs : List Value} {x : Ex} (hx : ExIn W0 (In_ W0) cs x) : ExIn w (In_ w) cs x := (hx.keep fun b o hb => h.2 b o hb).widen (In_.mono h.1.size)
end Go.Proofs.YtcgpobeidlimkaaGreatDoor
