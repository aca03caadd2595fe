/- How plain data lie in memory: slices, expressions; what a call keeps. No program in sight. -/
import Derived.WalkKit
import Derived.WalkSpells
import Derived.WalkLawsBesides
import Derived.Maps.OwnOps
import Derived.Maps.AppendAt
import Derived.Deep.RegionLawGrows
import Derived.Deep.RegionHeld3
import Derived.Shelf.SlIter.Sorted
namespace Go.Proofs.YtphlbbnmligadaaGreatDoor
open Go.RowKit

theorem hid {p : Prop} (h : p) : Hid p := h

theorem ret_int {k : IntKind} {a b : Int} (h : a = b) : Ending.returned (.int k a) = .returned (.int k b) := by rw [h]
theorem ret_bool {a b : Bool} (h : a = b) : Ending.returned (.bool a) = .returned (.bool b) := by rw [h]

/-- What was there in W0 is as it was. -/
abbrev Kp (W0 w' : World) : Prop := Below W0.heap.size W0 w' ∧ ∀ b o, b < W0.heap.size → w'.cell? ⟨b, o, none⟩ = W0.cell? ⟨b, o, none⟩
theorem Kp.of {W0 w' : World} (h : Below W0.heap.size W0 w') : Kp W0 w' := ⟨h, fun _ _ hb => h.cell (p := ⟨_, _, none⟩) hb⟩
theorem Kp.start (W0 : World) : Kp W0 W0.drew := .of (Below.refl _ _).drew
theorem Kp.refl (W0 : World) : Kp W0 W0 := .of (Below.refl _ _)
theorem Kp.next {W0 w w' : World} (h : Kp W0 w) (hb : Below w.heap.size w w') : Kp W0 w' := .of (h.1.trans (hb.mono h.1.size))
theorem Kp.fin {w W0 w1 : World} (hB : Below w.heap.size w W0) (h : Kp W0 w1) : Below w.heap.size w w1 := hB.trans (h.1.mono hB.size)

/-- The blocks that lie in w. -/
def In_ (w : World) : Nat → Prop := fun b => b < w.heap.size
theorem In_.mono {w w' : World} (h : w.heap.size ≤ w'.heap.size) : ∀ b, In_ w b → In_ w' b := fun _ hb => Nat.lt_of_lt_of_le hb h
theorem In_.lt {w : World} {b : Nat} (h : In_ w b) : b < w.heap.size := h

/-- n elements of sz cells each lie where a slice leads, in blocks of S: element i's cells are C i. -/
structure Sl (w : World) (S : Nat → Prop) (sz : Nat) (a : Option Addr) (n cap : Nat) (C : Nat → List Value) : Prop where
  le : n ≤ cap
  mx : cap ≤ maxLen
  at_ : 0 < n → ∃ b off, a = some ⟨b, off, none⟩ ∧ S b ∧ ∀ i, i < n → ∀ j, j < sz → w.cell? ⟨b, off + (i * sz + j), none⟩ = (C i)[j]?

namespace Sl
variable {w w' : World} {S S' : Nat → Prop} {sz n cap : Nat} {a : Option Addr} {C : Nat → List Value}
theorem keep (h : Sl w S sz a n cap C) (hk : ∀ b o, S b → w'.cell? ⟨b, o, none⟩ = w.cell? ⟨b, o, none⟩) : Sl w' S sz a n cap C :=
  ⟨h.le, h.mx, fun h0 => by
    obtain ⟨b, off, rfl, hb, hc⟩ := h.at_ h0
    exact ⟨b, off, rfl, hb, fun i hi j hj => (hk _ _ hb).trans (hc i hi j hj)⟩⟩
theorem widen (h : Sl w S sz a n cap C) (hS : ∀ b, S b → S' b) : Sl w S' sz a n cap C :=
  ⟨h.le, h.mx, fun h0 => by
    obtain ⟨b, off, rfl, hb, hc⟩ := h.at_ h0
    exact ⟨b, off, rfl, hS _ hb, hc⟩⟩
theorem nil {sz : Nat} : Sl w S sz none 0 0 C := ⟨Nat.le_refl _, Nat.zero_le _, fun h => absurd h (by omega)⟩
end Sl

/-- An expression: kind, number, operator, parts. -/
inductive Ex where
  | mk (k n o : Int) (kids : List Ex)

namespace Ex
def kind : Ex → Int | mk k _ _ _ => k
def num : Ex → Int | mk _ n _ _ => n
def op : Ex → Int | mk _ _ o _ => o
def kids : Ex → List Ex | mk _ _ _ l => l

theorem ind {P : Ex → Prop} (h : ∀ k n o l, (∀ x, x ∈ l → P x) → P (mk k n o l)) : ∀ x, P x
  | mk k n o l => h k n o l fun x _hx => ind h x
termination_by x => SizeOf.sizeOf x
decreasing_by
  have := List.sizeOf_lt_of_mem _hx
  simp only [mk.sizeOf_spec]; omega
end Ex

/-- There is such an operator. -/
def isOp (o : Int) : Bool := o == 43 || o == 45 || o == 42 || o == 60 || o == 38 || o == 124 || o == 61 || o == 33

/-- May an expression be, within so much depth, with numbers below a domain? -/
def Ex.fit (dom : Int) : Nat → Ex → Bool
  | 0, _ => false
  | deep + 1, mk k n o l =>
    if k = 1 then decide (0 ≤ n) && decide (n < dom) && o == 0 && l.isEmpty
    else if k = 2 then decide (0 ≤ n) && decide (n < 4) && o == 0 && l.isEmpty
    else if k = 3 then n == 0 && isOp o && (match l with | [x, y] => fit dom deep x && fit dom deep y | _ => false)
    else false

/-- An expression lies in 'w', its parts in blocks of S: its four cells. -/
inductive ExIn (w : World) (S : Nat → Prop) : List Value → Ex → Prop
  | mk (k n o : Int) (a : Option Addr) (cap : Nat) (l : List Ex) (cs : Nat → List Value)
      (wk : (Lit.int .i64 k).wf = true) (wn : (Lit.int .i64 n).wf = true) (wo : (Lit.int .u8 o).wf = true)
      (hs : Sl w S 4 a l.length cap cs)
      (hk : ∀ i (h : i < l.length), ExIn w S (cs i) l[i]) :
      ExIn w S [.int .i64 k, .int .i64 n, .int .u8 o, .slice a l.length cap] (.mk k n o l)

namespace ExIn
variable {w w' : World} {S S' : Nat → Prop} {cs : List Value} {x : Ex}
theorem keep (h : ExIn w S cs x) (hk : ∀ b o, S b → w'.cell? ⟨b, o, none⟩ = w.cell? ⟨b, o, none⟩) : ExIn w' S cs x := by
  induction h with
  | mk k n o a cap l cs wk wn wo hs _ ih => exact .mk k n o a cap l cs wk wn wo (hs.keep hk) (fun i hi => ih i hi)
theorem widen (h : ExIn w S cs x) (hS : ∀ b, S b → S' b) : ExIn w S' cs x := by
  induction h with
  | mk k n o a cap l cs wk wn wo hs _ ih => exact .mk k n o a cap l cs wk wn wo (hs.widen hS) (fun i hi => ih i hi)
theorem four (h : ExIn w S cs x) : ∃ u0 u1 u2 u3, cs = [u0, u1, u2, u3] := by
  cases h with
  | mk => exact ⟨_, _, _, _, rfl⟩
theorem open_ {k n o : Int} {l : List Ex} (h : ExIn w S cs (.mk k n o l)) :
    ∃ a cap, cs = [.int .i64 k, .int .i64 n, .int .u8 o, .slice a l.length cap] ∧ l.length ≤ cap ∧ cap ≤ maxLen ∧ (Lit.int .i64 k).wf = true ∧ (Lit.int .i64 n).wf = true ∧ (Lit.int .u8 o).wf = true ∧
      ∀ i (_ : i < l.length), ∃ b off u0 u1 u2 u3, a = some ⟨b, off, none⟩ ∧ S b ∧ w.cell? ⟨b, off + i * 4, none⟩ = some u0 ∧ w.cell? ⟨b, off + i * 4 + 1, none⟩ = some u1 ∧ w.cell? ⟨b, off + i * 4 + 2, none⟩ = some u2 ∧ w.cell? ⟨b, off + i * 4 + 3, none⟩ = some u3 ∧
        ExIn w S [u0, u1, u2, u3] l[i] := by
  cases h with
  | mk _ _ _ a cap _ cs wk wn wo hs hk =>
  refine ⟨a, cap, rfl, hs.le, hs.mx, wk, wn, wo, fun i hi => ?_⟩
  obtain ⟨b, off, rfl, hb, hcell⟩ := hs.at_ (by omega)
  have h := hk i hi
  obtain ⟨u0, u1, u2, u3, he⟩ := h.four
  rw [he] at h
  have g := fun j hj => hcell i hi j hj
  simp only [he] at g
  exact ⟨b, off, u0, u1, u2, u3, rfl, hb, by simpa using g 0 (by omega), by simpa [Nat.add_assoc] using g 1 (by omega), by simpa [Nat.add_assoc] using g 2 (by omega), by simpa [Nat.add_assoc] using g 3 (by omega), h⟩
/-- The very two parts of an expression that has two, behind 'open_'. -/
theorem pair {a : Option Addr} {x y : Ex}
    (h : ∀ i (_ : i < [x, y].length), ∃ b off u0 u1 u2 u3, a = some ⟨b, off, none⟩ ∧ S b ∧ w.cell? ⟨b, off + i * 4, none⟩ = some u0 ∧ w.cell? ⟨b, off + i * 4 + 1, none⟩ = some u1 ∧ w.cell? ⟨b, off + i * 4 + 2, none⟩ = some u2 ∧ w.cell? ⟨b, off + i * 4 + 3, none⟩ = some u3 ∧
        ExIn w S [u0, u1, u2, u3] [x, y][i]) :
    ∃ b off u0 u1 u2 u3 v0 v1 v2 v3, a = some ⟨b, off, none⟩ ∧ S b ∧
      w.cell? ⟨b, off, none⟩ = some u0 ∧ w.cell? ⟨b, off + 1, none⟩ = some u1 ∧ w.cell? ⟨b, off + 2, none⟩ = some u2 ∧ w.cell? ⟨b, off + 3, none⟩ = some u3 ∧
      w.cell? ⟨b, off + 4, none⟩ = some v0 ∧ w.cell? ⟨b, off + (4 + 1), none⟩ = some v1 ∧ w.cell? ⟨b, off + (4 + 2), none⟩ = some v2 ∧ w.cell? ⟨b, off + (4 + 3), none⟩ = some v3 ∧
      ExIn w S [u0, u1, u2, u3] x ∧ ExIn w S [v0, v1, v2, v3] y := by
  obtain ⟨b, off, u0, u1, u2, u3, rfl, hb, g0, g1, g2, g3, hx⟩ := h 0 (by simp)
  obtain ⟨b', off', v0, v1, v2, v3, e, _, h0, h1, h2, h3, hy⟩ := h 1 (by simp)
  simp only [Option.some.injEq, Addr.mk.injEq, and_true] at e
  obtain ⟨rfl, rfl⟩ := e
  exact ⟨b, off, u0, u1, u2, u3, v0, v1, v2, v3, rfl, hb, by simpa using g0, by simpa using g1, by simpa using g2, by simpa using g3, by simpa using h0, by simpa [Nat.add_assoc] using h1, by simpa [Nat.add_assoc] using h2, by simpa [Nat.add_assoc] using h3, hx, hy⟩
theorem leaf (w : World) (S : Nat → Prop) (k n o : Int) (wk : (Lit.int .i64 k).wf = true) (wn : (Lit.int .i64 n).wf = true) (wo : (Lit.int .u8 o).wf = true) :
    ExIn w S [.int .i64 k, .int .i64 n, .int .u8 o, .slice none 0 0] (.mk k n o []) :=
  .mk k n o none 0 [] (fun _ => []) wk wn wo .nil (fun i hi => absurd hi (by simp))
theorem mk2 {k n o : Int} (wk : (Lit.int .i64 k).wf = true) (wn : (Lit.int .i64 n).wf = true) (wo : (Lit.int .u8 o).wf = true) {b : Nat} {u0 u1 u2 u3 v0 v1 v2 v3 : Value} {x y : Ex} (hb : S b)
    (hc : ∀ j, w.cell? ⟨b, j, none⟩ = (#[u0, u1, u2, u3, v0, v1, v2, v3] : Array Value)[j]?) (hx : ExIn w S [u0, u1, u2, u3] x) (hy : ExIn w S [v0, v1, v2, v3] y) :
    ExIn w S [.int .i64 k, .int .i64 n, .int .u8 o, .slice (some ⟨b, 0, none⟩) 2 2] (.mk k n o [x, y]) := by
  refine .mk k n o (some ⟨b, 0, none⟩) 2 [x, y] (fun i => match i with | 0 => [u0, u1, u2, u3] | _ => [v0, v1, v2, v3]) wk wn wo ⟨Nat.le_refl _, by decide, fun _ => ⟨b, 0, rfl, hb, fun i hi j hj => ?_⟩⟩ (fun i hi => ?_)
  · rw [hc]
    match i, hi, j, hj with
    | 0, _, 0, _ | 0, _, 1, _ | 0, _, 2, _ | 0, _, 3, _ | 1, _, 0, _ | 1, _, 1, _ | 1, _, 2, _ | 1, _, 3, _ => rfl
  · match i, hi with
    | 0, _ => exact hx
    | 1, _ => exact hy
end ExIn

theorem Kp.ex {W0 w : World} (h : Kp W0 w) {cs : List Value} {x : Ex} (hx : ExIn W0 (In_ W0) cs x) : ExIn w (In_ w) cs x := (hx.keep fun b o hb => h.2 b o hb).widen (In_.mono h.1.size)
end Go.Proofs.YtphlbbnmligadaaGreatDoor
namespace Go.Proofs.YtphlbbnmligadaaGreatDoor
open Go.RowKit Go.MapKept

/-- Block b of w is a map of just these entries. -/
def MapIs (w : World) (b : Nat) (l : List (Int × Value)) : Prop :=
  ∃ es clock, w.heap[b]? = some (.map es clock) ∧ es.toList.map (fun e => (e.key, e.val)) = l.map (fun p => (Value.int .i64 p.1, p.2))
/-- What lies at a key. -/
def mget (z : Value) (x : Int) : List (Int × Value) → Value
  | [] => z
  | p :: r => if x = p.1 then p.2 else mget z x r

theorem MapIs.made (w : World) : MapIs (w.alloc (.map #[] 0)) w.heap.size [] := ⟨#[], 0, (heap_alloc w _).1, rfl⟩
theorem MapIs.lt {w : World} {b : Nat} {l : List (Int × Value)} (h : MapIs w b l) : b < w.heap.size := by
  obtain ⟨es, clock, hb, _⟩ := h
  exact (Array.getElem?_eq_some_iff.1 hb).1
theorem MapIs.keep {w w' : World} {b : Nat} {l : List (Int × Value)} (h : MapIs w b l) (hb : Below w.heap.size w w') : MapIs w' b l := by
  have hlt := h.lt
  obtain ⟨es, clock, h1, h2⟩ := h
  exact ⟨es, clock, (hb.block b hlt).trans h1, h2⟩
theorem MapIs.drew {w : World} {b : Nat} {l : List (Int × Value)} (h : MapIs w b l) : MapIs w.drew b l := h

theorem find_spec (x : Int) (z : Value) : ∀ (es : List MapEntry) (l : List (Int × Value)) (i : Nat), es.map (fun e => (e.key, e.val)) = l.map (fun p => (Value.int .i64 p.1, p.2)) →
    (∃ j v, Instr.findNow (.int .i64) (.int .i64 x) es i = some (some (j, v)) ∧ mget z x l = v ∧ ∃ p ∈ l, p.1 = x) ∨ (Instr.findNow (.int .i64) (.int .i64 x) es i = some none ∧ mget z x l = z ∧ ∀ p ∈ l, p.1 ≠ x)
  | [], [], _, _ => .inr ⟨rfl, rfl, by simp⟩
  | [], p :: l, _, h => by simp at h
  | e :: es, [], _, h => by simp at h
  | e :: es, p :: l, i, h => by
    simp only [List.map_cons, List.cons.injEq, Prod.mk.injEq] at h
    obtain ⟨⟨hk, hv⟩, ht⟩ := h
    unfold Instr.findNow mget
    rw [hk]
    by_cases hx : x = p.1
    · left
      refine ⟨i, e.val, by simp [Instr.sameNow, hx], by rw [if_pos hx, hv], p, by simp, hx.symm⟩
    · have hn : Instr.sameNow (.int .i64) (.int .i64 x) (.int .i64 p.1) = some false := by simp [Instr.sameNow, hx]
      rw [hn, if_neg hx]
      rcases find_spec x z es l (i + 1) ht with ⟨j, v, h1, h2, q, hq, hq2⟩ | ⟨h1, h2, h3⟩
      · exact .inl ⟨j, v, h1, h2, q, by simp [hq], hq2⟩
      · refine .inr ⟨h1, h2, fun q hq => ?_⟩
        rcases List.mem_cons.1 hq with rfl | hq
        · exact fun h => hx h.symm
        · exact h3 q hq

/-- 'm[k]'. -/
theorem run_look_of {P : Program} {w : World} {b : Nat} {l : List (Int × Value)} {t k e : TypeId} {z : Value} (h : MapIs w b l) (ht : P.underlying t = some (.map k e)) (hk : P.underlying k = some (.int .i64)) (hz : (zeroValue e).run P w = .ok z w) (x : Int) :
    (Instr.lookup t (.map (some b)) (.int .i64 x) false).run P w = .ok (mget z x l) w := by
  obtain ⟨es, clock, hb, he⟩ := h
  unfold Instr.lookup
  have hkey : IsKey (.int .i64) (.int .i64 x) := rfl
  simp only [Sem.run_bind, run_underlying ht, Result.andThen, Go.MapKept.run_getObj_map hb, Sem.run_pure, Go.MapKept.run_checkKey hk hkey]
  rcases find_spec x z es.toList l 0 he with ⟨j, v, h1, h2, _⟩ | ⟨h1, h2, _⟩
  · rw [run_findKey hk h1]
    simp [h2]
  · rw [run_findKey hk h1]
    simp [h2, hz]

/-- 'm[k] = v' at a new key. -/
theorem run_put_of {P : Program} {w : World} {b : Nat} {l : List (Int × Value)} {t k e : TypeId} (h : MapIs w b l) (ht : P.underlying t = some (.map k e)) (hk : P.underlying k = some (.int .i64)) (x : Int) (v : Value) (hx : l.all (fun p => p.1 != x) = true) :
    ∃ w', (Instr.mapUpdate t (.map (some b)) (.int .i64 x) v).run P w = .ok () w' ∧ MapIs w' b (l ++ [(x, v)]) ∧ w.grownBy w' (some b) := by
  obtain ⟨es, clock, hb, he⟩ := h
  have hno : Instr.findNow (.int .i64) (.int .i64 x) es.toList 0 = some none := by
    rcases find_spec x undef es.toList l 0 he with ⟨j, v, _, _, p, hp, hpx⟩ | ⟨h1, _⟩
    · have := List.all_eq_true.1 hx p hp
      simp [hpx] at this
    · exact h1
  refine ⟨{ w with heap := w.heap.setIfInBounds b (.map (es.push { key := .int .i64 x, val := v, born := clock }) (clock + 1)) }, ?_, ⟨_, _, (heap_set hb).1, ?_⟩, ⟨rfl, rfl, rfl, by simp, fun i _ hi => (heap_set hb).2 i (fun e => hi (by rw [e]))⟩⟩
  · unfold Instr.mapUpdate
    have hkey : IsKey (.int .i64) (.int .i64 x) := rfl
    simp only [Sem.run_bind, run_underlying ht, Result.andThen, Go.MapKept.run_getObj_map hb, Go.MapKept.run_checkKey hk hkey, run_findKey hk hno, Go.MapKept.run_setObj_map _ hb]
  · simp [he]

/-- .. as a step of the walk. -/
theorem wpList_put_of {P : Program} (w : World) {ops : Array Oper} {rest : List Oper} {o : Oper} {a : Act} {Q : Exit → Act → World → Prop}
    (hg : o.guard = none) (m x v : Operand) (t k e : TypeId) (hop : o.op = Op.insert t m x v) (ht : P.underlying t = some (.map k e)) (hk : P.underlying k = some (.int .i64))
    (b : Nat) (l : List (Int × Value)) (hm : a.eval m = .map (some b)) (h : MapIs w b l) (key : Int) (hx : a.eval x = .int .i64 key) (val : Value) (hv : a.eval v = val) (hno : l.all (fun p => p.1 != key) = true)
    (hK : ∀ w', MapIs w' b (l ++ [(key, val)]) → w.grownBy w' (some b) → wpList P ops Q rest (a.put o.dst undef) w') :
    wpList P ops Q (o :: rest) a w := by
  refine wpList_plain hg fun K' hK' => ?_
  subst hv
  obtain ⟨w', hrun, r1, r2⟩ := run_put_of h ht hk key (a.eval v) hno
  unfold Oper.wp
  simp [execOp, hop, hm, hx, hrun, Result.andThen]
  exact hK' _ _ (hK w' r1 r2)
/-- 'm[k]' as a step of the walk. -/
theorem wpList_look_of {P : Program} (w : World) {ops : Array Oper} {rest : List Oper} {o : Oper} {a : Act} {Q : Exit → Act → World → Prop}
    (hg : o.guard = none) (m x : Operand) (t k e : TypeId) (hop : o.op = Op.lookup t m x false) (ht : P.underlying t = some (.map k e)) (hk : P.underlying k = some (.int .i64)) (z : Value) (hz : (zeroValue e).run P w = .ok z w)
    (b : Nat) (l : List (Int × Value)) (hm : a.eval m = .map (some b)) (h : MapIs w b l) (key : Int) (hx : a.eval x = .int .i64 key) (val : Value) (hv : mget z key l = val)
    (hK : wpList P ops Q rest (a.put o.dst val) w) :
    wpList P ops Q (o :: rest) a w := by
  refine wpList_plain hg fun K' hK' => ?_
  unfold Oper.wp
  simp [execOp, hop, hm, hx, run_look_of h ht hk hz key, hv, Result.andThen]
  exact hK' _ _ hK
theorem Kp.put {W0 w w' : World} {b : Nat} (h : Kp W0 w) (hb : W0.heap.size ≤ b) (hg : w.grownBy w' (some b)) : Kp W0 w' :=
  .of (h.1.grown hg h.1.size fun _ hk => by cases hk; exact hb)
end Go.Proofs.YtphlbbnmligadaaGreatDoor
namespace Go.Proofs.YtphlbbnmligadaaGreatDoor
open Go.RowKit

/-- The cells 'news', m elements, lie where the slice (A, m) leads. -/
def SrcAt (w : World) (size : Nat) (A : Option Addr) (m : Nat) (news : List Value) : Prop :=
  news.length = m * size ∧ (A = none → m = 0) ∧ ∀ ad, A = some ad → ∀ j u, news[j]? = some u → w.cell? (ad.add j) = some u

section
variable {P : Program} {w : World} {base : Nat} {t e : TypeId} {i : TypeInfo} {z : Value} {size bytes : Nat}

theorem run_app (ty : TypeId) (ht : P.underlying t = some (.slice e)) (hi : P.info? e = some i) (hz : i.zero = some z) (hsize : i.size = size) (hby : i.bytes = bytes) (hzs : z.cells.size = size) (hsz : 0 < size)
    {v : Value} {n : Nat} {xs : List Value} (hown : w.ownsRow base e size v n xs) {A : Option Addr} {m c : Nat} {news : List Value} (hs : SrcAt w size A m news) (h1 : ∀ u ∈ news, u.oneCell' = true)
    (h63 : n + m ≤ maxLen) (hbytes : (n + m) * bytes ≤ 140737488355328) (hbase : base ≤ w.heap.size) :
    ∃ v' w', (Builtin.append_ #[t, t] ty #[v, .slice A m c]).run P w = .ok v' w' ∧ w'.ownsRow base e size v' (n + m) (xs ++ news) ∧ w.grownBy w' v.ownBlock ∧ (v'.ownBlock = v.ownBlock ∨ v'.ownBlock = some w.heap.size) := by
  obtain ⟨hl, hA, hc⟩ := hs
  cases A with
  | none =>
    obtain rfl := hA rfl
    obtain rfl : news = [] := List.eq_nil_of_length_eq_zero (by simpa using hl)
    refine ⟨v, w, ?_, by simpa using hown, ⟨rfl, rfl, rfl, Nat.le_refl _, fun _ _ _ => rfl⟩, .inl rfl⟩
    rcases hown.2 with ⟨rfl, rfl⟩ | ⟨g, cap, cur, rfl, _, _, hnc, _⟩
    · simp [Builtin.append_, run_underlying ht, sizeOf, typeInfo, hi, Builtin.lenOf, Builtin.firstCells]
    · simp [Builtin.append_, run_underlying ht, sizeOf, typeInfo, hi, Builtin.lenOf, Builtin.firstCells, hnc, storeCells]
  | some ad =>
    obtain ⟨v', w', hrun, h2, h3, _, h5⟩ := run_append_own_at (P := P) w base t ty e i z size bytes ht hi hz hsize hby hzs hsz v n xs hown ad m c news hl (hc ad rfl) h1 h63 hbytes hbase
    exact ⟨v', w', hrun, h2, h3, h5⟩

theorem wp_app {o : Oper} {a : Act} {K : Act → World → Prop} {Q : Exit → Act → World → Prop} (s x : Operand) (ho : o.op = .call { callee := .builtin .append, args := #[s, x], argTypes := #[t, t] })
    (ht : P.underlying t = some (.slice e)) (hi : P.info? e = some i) (hz : i.zero = some z) (hsize : i.size = size) (hby : i.bytes = bytes) (hzs : z.cells.size = size) (hsz : 0 < size)
    (v : Value) (n : Nat) (xs : List Value) (hsv : a.eval s = v) (hown : w.ownsRow base e size v n xs) (m : Nat) (news : List Value) (hsrc : ∃ A c, a.eval x = .slice A m c ∧ SrcAt w size A m news) (h1 : ∀ u ∈ news, u.oneCell' = true)
    (h63 : n + m ≤ maxLen) (hbytes : (n + m) * bytes ≤ 140737488355328) (hbase : base ≤ w.heap.size)
    (h : ∀ v' w', w'.ownsRow base e size v' (n + m) (xs ++ news) → w.grownBy w' v.ownBlock → (v'.ownBlock = v.ownBlock ∨ v'.ownBlock = some w.heap.size) → K (a.put o.dst v') w') : o.wp P a w K Q := by
  obtain ⟨A, c, hx, hs⟩ := hsrc
  obtain ⟨v', w', hrun, h2, h3, h4⟩ := run_app (P := P) o.type ht hi hz hsize hby hzs hsz hown (c := c) hs h1 h63 hbytes hbase
  unfold Oper.wp execOp
  simp only [ho, resolve, invoke, builtin, Sem.run_bind, Sem.run_pure, Result.andThen_ok, List.map_toArray, List.map_cons, List.map_nil, hsv, hx, hrun]
  exact h v' w' h2 h3 h4

/-- As a step of a region. -/
theorem step_app {ops : Array Oper} {o : Oper} {a : Act} {K : Act → World → Prop} {Q : Exit → Act → World → Prop} {E : Prop} (hgd : o.guard = none) (s x : Operand) (ho : o.op = .call { callee := .builtin .append, args := #[s, x], argTypes := #[t, t] })
    (ht : P.underlying t = some (.slice e)) (hi : P.info? e = some i) (hz : i.zero = some z) (hsize : i.size = size) (hby : i.bytes = bytes) (hzs : z.cells.size = size) (hsz : 0 < size)
    (v : Value) (n : Nat) (xs : List Value) (hsv : a.eval s = v) (hown : w.ownsRow base e size v n xs) (m : Nat) (news : List Value) (hsrc : ∃ A c, a.eval x = .slice A m c ∧ SrcAt w size A m news) (h1 : ∀ u ∈ news, u.oneCell' = true)
    (h63 : n + m ≤ maxLen) (hbytes : (n + m) * bytes ≤ 140737488355328) (hbase : base ≤ w.heap.size)
    (h : ∀ v' w', w'.ownsRow base e size v' (n + m) (xs ++ news) → w.grownBy w' v.ownBlock → (v'.ownBlock = v.ownBlock ∨ v'.ownBlock = some w.heap.size) → K (a.put o.dst v') w') :
    if Region.wanted o (yielded ops a.tmps) = true then Oper.wp P o a w K Q else E := by
  have hw : Region.wanted o (yielded ops a.tmps) = true := by simp [Region.wanted, hgd]
  rw [if_pos hw]
  exact wp_app s x ho ht hi hz hsize hby hzs hsz v n xs hsv hown m news hsrc h1 h63 hbytes hbase h

/-- In a plain list of operations. -/
theorem list_app {ops : Array Oper} {rest : List Oper} {o : Oper} {a : Act} {Q : Exit → Act → World → Prop} (hgd : o.guard = none) (s x : Operand) (ho : o.op = .call { callee := .builtin .append, args := #[s, x], argTypes := #[t, t] })
    (ht : P.underlying t = some (.slice e)) (hi : P.info? e = some i) (hz : i.zero = some z) (hsize : i.size = size) (hby : i.bytes = bytes) (hzs : z.cells.size = size) (hsz : 0 < size)
    (v : Value) (n : Nat) (xs : List Value) (hsv : a.eval s = v) (hown : w.ownsRow base e size v n xs) (m : Nat) (news : List Value) (hsrc : ∃ A c, a.eval x = .slice A m c ∧ SrcAt w size A m news) (h1 : ∀ u ∈ news, u.oneCell' = true)
    (h63 : n + m ≤ maxLen) (hbytes : (n + m) * bytes ≤ 140737488355328) (hbase : base ≤ w.heap.size)
    (h : ∀ v' w', w'.ownsRow base e size v' (n + m) (xs ++ news) → w.grownBy w' v.ownBlock → (v'.ownBlock = v.ownBlock ∨ v'.ownBlock = some w.heap.size) → wpList P ops Q rest (a.put o.dst v') w') : wpList P ops Q (o :: rest) a w :=
  wpList_plain hgd fun _ hK => wp_app s x ho ht hi hz hsize hby hzs hsz v n xs hsv hown m news hsrc h1 h63 hbytes hbase fun v' w' h2 h3 h4 => hK _ _ (h v' w' h2 h3 h4)
end

/-- A new block's cells, as a source. -/
theorem src_new {w : World} {T : TypeId} {size m : Nat} {news : List Value} (hl : news.length = m * size) : SrcAt (w.alloc (.cells news.toArray T)) size (some ⟨w.heap.size, 0, none⟩) m news := by
  refine ⟨hl, fun h => (by cases h), fun ad h j u hu => ?_⟩
  obtain rfl : ad = ⟨w.heap.size, 0, none⟩ := by simpa using h.symm
  have hadd : (⟨w.heap.size, 0, none⟩ : Addr).add j = ⟨w.heap.size, j, none⟩ := by
    unfold Addr.add
    split
    · rename_i h0; subst h0; rfl
    · simp
  rw [hadd]
  simpa using hu
theorem src_new_d {w : World} {T : TypeId} {size m : Nat} {news : List Value} (hl : news.length = m * size) : SrcAt (w.alloc (.cells news.toArray T)).drew size (some ⟨w.heap.size, 0, none⟩) m news := src_new (w := w) hl
theorem SrcAt.grown {w w1 : World} {size m : Nat} {A : Option Addr} {news : List Value} {r : Option Nat} (h : SrcAt w size A m news) (hg : w.grownBy w1 r) (hr : r = none ∨ ∀ ad, A = some ad → some ad.block ≠ r) : SrcAt w1 size A m news := by
  refine ⟨h.1, h.2.1, fun ad had j u hu => ?_⟩
  have hc := h.2.2 ad had j u hu
  have hb : (ad.add j).block = ad.block := by unfold Addr.add; split <;> rfl
  refine hg.cell hc ?_
  rw [hb]
  rcases hr with rfl | hr
  · simp
  · exact hr ad had
theorem Kp.grown {W0 w w1 : World} {r : Option Nat} (h : Kp W0 w) (hg : w.grownBy w1 r) (hr : ∀ k, r = some k → W0.heap.size ≤ k) : Kp W0 w1 :=
  .of (h.1.grown hg h.1.size hr)
theorem Kp.alloc {W0 w : World} (h : Kp W0 w) (o : Obj) : Kp W0 (w.alloc o) := .of (h.1.alloc h.1.size o)
theorem Kp.drew {W0 w : World} (h : Kp W0 w) : Kp W0 w.drew := .of h.1.drew
end Go.Proofs.YtphlbbnmligadaaGreatDoor
namespace Go.Proofs.YtphlbbnmligadaaGreatDoor
open Go.RowKit Go.MapKept

/-- 'm[k]', and whether there is such an entry. -/
theorem run_look2_of {P : Program} {w : World} {b : Nat} {l : List (Int × Value)} {t k e : TypeId} {z : Value} (h : MapIs w b l) (ht : P.underlying t = some (.map k e)) (hk : P.underlying k = some (.int .i64)) (hz : (zeroValue e).run P w = .ok z w) (x : Int) :
    (Instr.lookup t (.map (some b)) (.int .i64 x) true).run P w = .ok (.tuple #[mget z x l, .bool (l.any fun p => p.1 == x)]) w := by
  obtain ⟨es, clock, hb, he⟩ := h
  unfold Instr.lookup
  have hkey : IsKey (.int .i64) (.int .i64 x) := rfl
  simp only [Sem.run_bind, run_underlying ht, Result.andThen, Go.MapKept.run_getObj_map hb, Sem.run_pure, Go.MapKept.run_checkKey hk hkey]
  rcases find_spec x z es.toList l 0 he with ⟨j, v, h1, h2, p, hp, hpx⟩ | ⟨h1, h2, h3⟩
  · rw [run_findKey hk h1]
    have : l.any (fun p => p.1 == x) = true := List.any_eq_true.2 ⟨p, hp, by simp [hpx]⟩
    simp [h2, this]
  · rw [run_findKey hk h1]
    have : l.any (fun p => p.1 == x) = false := List.any_eq_false.2 fun p hp => by simpa using h3 p hp
    simp [h2, hz, this]
theorem MapIs.alloc {w : World} {b : Nat} {l : List (Int × Value)} (h : MapIs w b l) (o : Obj) : MapIs (w.alloc o) b l := h.keep ((Below.refl _ _).alloc (Nat.le_refl _) _)
end Go.Proofs.YtphlbbnmligadaaGreatDoor
namespace Go.Proofs.YtphlbbnmligadaaGreatDoor
open Go.RowKit
theorem drewN_kp {W0 wr : World} (h : Kp W0 wr) (n : Nat) : Kp W0 (wr.drewN n) := .of ⟨h.1.os, h.1.tape, h.1.output, h.1.size, h.1.block⟩
end Go.Proofs.YtphlbbnmligadaaGreatDoor
namespace Go.Proofs.YtphlbbnmligadaaGreatDoor
open Go

section
variable {P : Program} {l : List Oper} {Q : Exit → Act → World → Prop} {md : Region.Mode} {S : World → Prop}
theorem takeL {i : Nat} {oi : Oper} {v : Value} {fuel : Nat} {listed : Array Bool} {a : Act} {w : World} (hi : l[i]? = some oi)
    (hs : Region.noSelect l.toArray = true) (hf : Region.free md l.toArray listed i = true) (hr : (Region.ready md l.toArray listed).contains i = true)
    (hQ : ∀ c a w, Q (.panic c) (a.put oi.dst v) w → Q (.panic c) a w) (hy : YieldsIf P l.toArray S oi v a) (hS : S w)
    (h : wpAnyH P md l.toArray Q S fuel (listed.setIfInBounds i true) (a.put oi.dst v) w) : wpAnyH P md l.toArray Q S (fuel + 1) listed a w :=
  wpAnyH_take (by simpa using hi) hs hf hr hQ hy hS h
/-- The one operation that may come up. -/
theorem callL {fuel : Nat} {listed : Array Bool} {a : Act} {w : World} {i : Nat} {o : Oper} (hr : Region.ready md l.toArray listed = [i]) (ho : l[i]? = some o)
    (h : ∀ K' : Act → World → Prop, Shut (∀ a w, S w → (S w → wpAnyH P md l.toArray Q S fuel (listed.setIfInBounds i true) a w) → K' a w) → if Region.wanted o (yielded l.toArray a.tmps) = true then Oper.wp P o a w K' Q else K' (a.put o.dst undef) w) :
    wpAnyH P md l.toArray Q S (fuel + 1) listed a w :=
  wpAnyH_ready (rs := [i]) hr (by simp) (AllReadyH.cons (by simpa using ho) h AllReadyH.nil)
/-- Two operations may come up. -/
theorem callL2 {fuel : Nat} {listed : Array Bool} {a : Act} {w : World} {i j : Nat} {oi oj : Oper} (hr : Region.ready md l.toArray listed = [i, j]) (hi : l[i]? = some oi) (hj : l[j]? = some oj)
    (h1 : ∀ K' : Act → World → Prop, Shut (∀ a w, S w → (S w → wpAnyH P md l.toArray Q S fuel (listed.setIfInBounds i true) a w) → K' a w) → if Region.wanted oi (yielded l.toArray a.tmps) = true then Oper.wp P oi a w K' Q else K' (a.put oi.dst undef) w)
    (h2 : ∀ K' : Act → World → Prop, Shut (∀ a w, S w → (S w → wpAnyH P md l.toArray Q S fuel (listed.setIfInBounds j true) a w) → K' a w) → if Region.wanted oj (yielded l.toArray a.tmps) = true then Oper.wp P oj a w K' Q else K' (a.put oj.dst undef) w) :
    wpAnyH P md l.toArray Q S (fuel + 1) listed a w :=
  wpAnyH_ready (rs := [i, j]) hr (by simp) (AllReadyH.cons (by simpa using hi) h1 (AllReadyH.cons (by simpa using hj) h2 AllReadyH.nil))
end
end Go.Proofs.YtphlbbnmligadaaGreatDoor
namespace Go.Proofs.YtphlbbnmligadaaGreatDoor
structure Tok where
  kind : Int
  text : List UInt8
  n : Int
  place : Nat

def blankB (c : UInt8) : Bool := c == 32 || c == 10
def letterB (c : UInt8) : Bool := decide (97 ≤ c.toNat) && decide (c.toNat ≤ 122)
def digitB (c : UInt8) : Bool := decide (48 ≤ c.toNat) && decide (c.toNat ≤ 57)
def partB (c : UInt8) : Bool := letterB c || digitB c
def signB (c : UInt8) : Bool := [43, 45, 42, 60, 38, 124, 61, 40, 41, 123, 125, 59, 44].contains c

def runP (p : UInt8 → Bool) (l : List UInt8) : Nat := (l.takeWhile p).length
def numLx (l : List UInt8) : Int := l.foldl (fun a c => 10 * a + ((c.toNat : Int) - 48)) 0

/-- Two bytes that are one sign. -/
def two : List UInt8 → Bool
  | 61 :: 61 :: _ => true
  | 33 :: 61 :: _ => true
  | _ => false

/-- The token ahead: its kind, its length, its value. -/
def headT : List UInt8 → Option (Int × Nat × Int)
  | [] => none
  | c :: l =>
    if letterB c = true then some (1, runP partB (c :: l), 0)
    else if digitB c = true then
      if 6 < runP digitB (c :: l) ∨ 1 < runP digitB (c :: l) ∧ c = 48 then none else some (2, runP digitB (c :: l), numLx ((c :: l).take (runP digitB (c :: l))))
    else if two (c :: l) = true then some (3, 2, 0)
    else if signB c = true then some (3, 1, 0) else none

def lexF : Nat → List UInt8 → Nat → List Tok × Option Nat
  | 0, _, _ => ([], none)
  | f + 1, l, i =>
    match l.drop (runP blankB l) with
    | [] => ([⟨0, [], 0, i + runP blankB l⟩], none)
    | c :: m =>
      match headT (c :: m) with
      | none => ([], some (i + runP blankB l))
      | some (k, n, v) => (⟨k, (c :: m).take n, v, i + runP blankB l⟩ :: (lexF f ((c :: m).drop n) (i + runP blankB l + n)).1, (lexF f ((c :: m).drop n) (i + runP blankB l + n)).2)

theorem runP_cons_pos {p : UInt8 → Bool} {c : UInt8} {l : List UInt8} (h : p c = true) : runP p (c :: l) = runP p l + 1 := by simp [runP, h]
theorem runP_cons_neg {p : UInt8 → Bool} {c : UInt8} {l : List UInt8} (h : p c = false) : runP p (c :: l) = 0 := by simp [runP, h]
theorem runP_nil {p : UInt8 → Bool} : runP p [] = 0 := rfl
theorem runP_le (p : UInt8 → Bool) : ∀ l : List UInt8, runP p l ≤ l.length
  | [] => by simp [runP]
  | c :: l => by
    have := runP_le p l
    by_cases h : p c = true
    · rw [runP_cons_pos h]; simp; omega
    · rw [runP_cons_neg (by simpa using h)]; simp

theorem part_of_letter {c : UInt8} (h : letterB c = true) : partB c = true := by simp [partB, h]

theorem two_len {l : List UInt8} (h : two l = true) : 2 ≤ l.length := by
  unfold two at h; split at h <;> simp at h ⊢

/-- A token has one byte at least, and no more than there are. -/
theorem headT_len {l : List UInt8} {k : Int} {n : Nat} {v : Int} (h : headT l = some (k, n, v)) : 1 ≤ n ∧ n ≤ l.length := by
  cases l with
  | nil => simp [headT] at h
  | cons c l =>
    simp only [headT] at h
    split at h
    · rename_i hc
      cases h
      exact ⟨by rw [runP_cons_pos (part_of_letter hc)]; omega, runP_le _ _⟩
    · split at h
      · rename_i hc
        split at h
        · cases h
        · cases h
          exact ⟨by rw [runP_cons_pos hc]; omega, runP_le _ _⟩
      · split at h
        · rename_i h2
          cases h
          exact ⟨by omega, two_len h2⟩
        · split at h
          · cases h
            simp
          · cases h

theorem lexF_fuel : ∀ (f g : Nat) (l : List UInt8) (i : Nat), l.length < f → l.length < g → lexF f l i = lexF g l i
  | 0, _, _, _, h, _ => by omega
  | _ + 1, 0, _, _, _, h => by omega
  | f + 1, g + 1, l, i, hf, hg => by
    simp only [lexF]
    split
    · rfl
    · rename_i c m hm
      split
      · rfl
      · rename_i k n v hk
        have h1 := headT_len hk
        have h2 : (c :: m).length ≤ l.length := by rw [← hm]; simp
        have := lexF_fuel f g ((c :: m).drop n) (i + runP blankB l + n) (by simp at h2 ⊢; omega) (by simp at h2 ⊢; omega)
        rw [this]

/-- The tokens from place i on, or those ahead of the error and its place. -/
def lexA (s : List UInt8) (i : Nat) : List Tok × Option Nat := lexF (s.length + 1) (s.drop i) i

theorem lexA_end (s : List UInt8) (i : Nat) (h : s.length ≤ i) : lexA s i = ([⟨0, [], 0, i⟩], none) := by
  simp [lexA, lexF, List.drop_eq_nil_of_le h, runP]

theorem lexA_blank (s : List UInt8) (i : Nat) (h : i < s.length) (hb : blankB s[i] = true) : lexA s i = lexA s (i + 1) := by
  unfold lexA
  rw [List.drop_eq_getElem_cons h]
  simp only [lexF, runP_cons_pos hb, List.drop_succ_cons]
  rw [show i + (runP blankB (List.drop (i + 1) s) + 1) = i + 1 + runP blankB (List.drop (i + 1) s) from by omega]

theorem headT_drop (s : List UInt8) (i : Nat) (h : i < s.length) (hb : blankB s[i] = false) : (s.drop i).drop (runP blankB (s.drop i)) = s.drop i ∧ runP blankB (s.drop i) = 0 := by
  rw [List.drop_eq_getElem_cons h, runP_cons_neg hb]
  simp

theorem lexA_none (s : List UInt8) (i : Nat) (h : i < s.length) (hb : blankB s[i] = false) (hk : headT (s.drop i) = none) : lexA s i = ([], some i) := by
  unfold lexA
  simp only [lexF]
  rw [(headT_drop s i h hb).1, (headT_drop s i h hb).2]
  rw [List.drop_eq_getElem_cons h] at hk ⊢
  simp only [hk]
  rfl

theorem lexA_some (s : List UInt8) (i : Nat) (h : i < s.length) (hb : blankB s[i] = false) {k : Int} {n : Nat} {v : Int} (hk : headT (s.drop i) = some (k, n, v)) :
    lexA s i = (⟨k, (s.drop i).take n, v, i⟩ :: (lexA s (i + n)).1, (lexA s (i + n)).2) := by
  have h1 := headT_len hk
  have e : lexA s (i + n) = lexF s.length ((s.drop i).drop n) (i + n) := by
    unfold lexA
    rw [List.drop_drop]
    exact lexF_fuel _ _ _ _ (by simp; omega) (by simp at h1 ⊢; omega)
  rw [e]
  unfold lexA
  simp only [lexF]
  rw [(headT_drop s i h hb).1, (headT_drop s i h hb).2]
  rw [List.drop_eq_getElem_cons h] at hk ⊢
  simp only [hk]
  rfl
end Go.Proofs.YtphlbbnmligadaaGreatDoor
namespace Go.Proofs.YtphlbbnmligadaaGreatDoor
theorem runP_append_stop (p : UInt8 → Bool) (c : UInt8) (t : List UInt8) (hc : p c = false) : ∀ l : List UInt8, runP p (l ++ c :: t) = runP p l
  | [] => by rw [List.nil_append, runP_cons_neg hc, runP_nil]
  | d :: l => by
    have ih := runP_append_stop p c t hc l
    rw [List.cons_append]
    by_cases h : p d = true
    · rw [runP_cons_pos h, runP_cons_pos h, ih]
    · rw [runP_cons_neg (by simpa using h), runP_cons_neg (by simpa using h)]

theorem part_blank : partB 32 = false := by decide
theorem digit_blank : digitB 32 = false := by decide

theorem two_append (t : List UInt8) : ∀ l : List UInt8, l ≠ [] → two (l ++ 32 :: t) = two l
  | [], h => absurd rfl h
  | [c], _ => by
    simp only [List.cons_append, List.nil_append]
    unfold two
    split
    · rename_i h; simp at h
    · rename_i h; simp at h
    · split <;> simp_all
  | c :: d :: l, _ => by
    simp only [List.cons_append]
    unfold two
    split <;> split <;> simp_all

/-- A blank behind a text leaves its first token. -/
theorem headT_append (t : List UInt8) (l : List UInt8) (hl : l ≠ []) : headT (l ++ 32 :: t) = headT l := by
  cases l with
  | nil => exact absurd rfl hl
  | cons c l =>
    have e1 := runP_append_stop partB 32 t part_blank (c :: l)
    have e2 := runP_append_stop digitB 32 t digit_blank (c :: l)
    have e3 := two_append t (c :: l) (by simp)
    have e4 : ((c :: l) ++ 32 :: t).take (runP digitB (c :: l)) = (c :: l).take (runP digitB (c :: l)) := by
      rw [List.take_append_of_le_length (runP_le _ _)]
    rw [List.cons_append] at e1 e2 e3 e4 ⊢
    simp only [headT, e1, e2, e3, e4]

theorem runP_take (p : UInt8 → Bool) : ∀ l : List UInt8, runP p (l.take (runP p l)) = runP p l
  | [] => by simp [runP]
  | c :: l => by
    by_cases h : p c = true
    · rw [runP_cons_pos h, List.take_succ_cons, runP_cons_pos h, runP_take p l]
    · rw [runP_cons_neg (by simpa using h)]; simp [runP]

/-- A token's own text is that token again. -/
theorem headT_take {l : List UInt8} {k : Int} {n : Nat} {v : Int} (h : headT l = some (k, n, v)) : headT (l.take n) = some (k, n, v) := by
  have hn := headT_len h
  cases l with
  | nil => simp [headT] at h
  | cons c l =>
    have e : (c :: l).take n = c :: l.take (n - 1) := by
      cases n with
      | zero => omega
      | succ n => simp
    rw [e]
    simp only [headT] at h ⊢
    rw [← e]
    by_cases hc : letterB c = true
    · rw [if_pos hc] at h ⊢
      obtain ⟨rfl, hn', rfl⟩ : 1 = k ∧ runP partB (c :: l) = n ∧ 0 = v := by simpa using h
      rw [← hn', runP_take]
    · rw [if_neg hc] at h ⊢
      by_cases hd : digitB c = true
      · rw [if_pos hd] at h ⊢
        by_cases hx : 6 < runP digitB (c :: l) ∨ 1 < runP digitB (c :: l) ∧ c = 48
        · rw [if_pos hx] at h; cases h
        · rw [if_neg hx] at h
          obtain ⟨rfl, hn', hv⟩ : 2 = k ∧ runP digitB (c :: l) = n ∧ numLx ((c :: l).take (runP digitB (c :: l))) = v := by simpa using h
          rw [← hn', runP_take, if_neg hx, List.take_take, Nat.min_self, hn', ← hv, hn']
      · rw [if_neg hd] at h ⊢
        by_cases h2 : two (c :: l) = true
        · rw [if_pos h2] at h
          obtain ⟨rfl, rfl, rfl⟩ : 3 = k ∧ 2 = n ∧ 0 = v := by simpa using h
          have : two ((c :: l).take 2) = true := by
            unfold two at h2
            split at h2
            · rename_i h; rw [h]; rfl
            · rename_i h; rw [h]; rfl
            · cases h2
          rw [if_pos this]
        · rw [if_neg h2] at h
          by_cases h3 : signB c = true
          · rw [if_pos h3] at h ⊢
            obtain ⟨rfl, rfl, rfl⟩ : 3 = k ∧ 1 = n ∧ 0 = v := by simpa using h
            have : two ((c :: l).take 1) = false := by
              simp only [List.take_succ_cons, List.take_zero]
              unfold two
              split <;> simp_all
            rw [this]
            simp
          · rw [if_neg h3] at h; cases h

/-- The first byte of a token is no blank. -/
theorem headT_blank {c : UInt8} {l : List UInt8} {x : Int × Nat × Int} (h : headT (c :: l) = some x) : blankB c = false := by
  have hc : blankB c = true → headT (c :: l) = none := by
    intro hb
    have : c = 32 ∨ c = 10 := by simpa [blankB] using hb
    rcases this with rfl | rfl
    · simp only [headT]
      rw [if_neg (by decide), if_neg (by decide), if_neg (by unfold two; split <;> simp_all), if_neg (by decide)]
    · simp only [headT]
      rw [if_neg (by decide), if_neg (by decide), if_neg (by unfold two; split <;> simp_all), if_neg (by decide)]
  cases hb : blankB c with
  | false => rfl
  | true => rw [hc hb] at h; cases h

/-- Two lists of tokens, but for their places. -/
def alike (a b : Tok) : Prop := a.kind = b.kind ∧ a.text = b.text ∧ a.n = b.n

/-- A token that stands by itself. -/
def Good (t : Tok) : Prop := headT t.text = some (t.kind, t.text.length, t.n)

theorem lexF_good : ∀ (f : Nat) (l : List UInt8) (i : Nat), (lexF f l i).2 = none → l.length < f → ∃ ts : List Tok, ∃ e : Tok, (lexF f l i).1 = ts ++ [e] ∧ (∀ t ∈ ts, Good t) ∧ e.kind = 0 ∧ e.text = [] ∧ e.n = 0 ∧ e.place = i + l.length
  | 0, _, _, _, h => by omega
  | f + 1, l, i, hn, hf => by
    simp only [lexF] at hn ⊢
    have hb := runP_le blankB l
    split at hn
    · rename_i hd
      have hlen : l.length ≤ runP blankB l := by simpa using hd
      exact ⟨[], _, by simp; exact rfl, by simp, rfl, rfl, rfl, by simp; omega⟩
    · rename_i c m hm
      have hlen := congrArg List.length hm
      simp at hlen
      split at hn
      · cases hn
      · rename_i k n v hk
        have h1 := headT_len hk
        simp only [List.length_cons] at h1
        simp only at hn
        obtain ⟨ts, e, h2, h3, h4, h5, h6, h7⟩ := lexF_good f _ _ hn (by simp; omega)
        simp only []
        refine ⟨⟨k, (c :: m).take n, v, _⟩ :: ts, e, by rw [h2]; rfl, ?_, h4, h5, h6, ?_⟩
        · intro t ht
          rcases List.mem_cons.1 ht with rfl | ht
          · unfold Good
            rw [headT_take hk, List.length_take, Nat.min_eq_left (by simp; omega)]
          · exact h3 t ht
        · rw [h7]; simp; omega

/-- The texts, a blank ahead of each. -/
def joinB (ts : List Tok) : List UInt8 := ts.flatMap fun t => 32 :: t.text

theorem joinB_cons (t : Tok) (ts : List Tok) : joinB (t :: ts) = 32 :: (t.text ++ joinB ts) := by simp [joinB]
theorem joinB_last (ts : List Tok) (e : Tok) : ∃ r, joinB (ts ++ [e]) = 32 :: r := by
  cases ts with
  | nil => exact ⟨_, by rw [List.nil_append, joinB_cons]⟩
  | cons t ts => exact ⟨_, by rw [List.cons_append, joinB_cons]⟩

theorem lexF_join (e : Tok) (he : e.kind = 0 ∧ e.text = [] ∧ e.n = 0) : ∀ (ts : List Tok) (f i : Nat), (∀ t ∈ ts, Good t) → (joinB (ts ++ [e])).length < f →
    ∃ us, lexF f (joinB (ts ++ [e])) i = (us, none) ∧ us.length = (ts ++ [e]).length ∧ ∀ k (h : k < us.length) (h' : k < (ts ++ [e]).length), alike us[k] (ts ++ [e])[k]
  | _, 0, _, _, h => by omega
  | [], f + 1, i, _, _ => by
    have hj : joinB ([] ++ [e]) = [32] := by simp [joinB, he.2.1]
    rw [hj]
    refine ⟨_, rfl, rfl, ?_⟩
    intro k h h'
    simp at h'
    subst h'
    exact ⟨he.1.symm, he.2.1.symm, he.2.2.symm⟩
  | t :: ts, f + 1, i, hg, hf => by
    have hgt : Good t := hg t (by simp)
    unfold Good at hgt
    obtain ⟨r, hr⟩ := joinB_last ts e
    have ht0 := headT_len hgt
    obtain ⟨c, m, hcm⟩ : ∃ c m, t.text = c :: m := by
      cases h : t.text with
      | nil => rw [h] at ht0; simp at ht0
      | cons c m => exact ⟨c, m, rfl⟩
    have hj : joinB (t :: ts ++ [e]) = 32 :: (t.text ++ 32 :: r) := by rw [List.cons_append, joinB_cons, hr]
    have hb : runP blankB (32 :: (t.text ++ 32 :: r)) = 1 := by
      rw [runP_cons_pos (by decide), hcm, List.cons_append, runP_cons_neg (headT_blank (by rw [hcm] at hgt; exact hgt))]
    have hh : headT (t.text ++ 32 :: r) = some (t.kind, t.text.length, t.n) := by rw [headT_append _ _ (by rw [hcm]; simp)]; exact hgt
    have hf' : (joinB (ts ++ [e])).length < f := by
      rw [hj] at hf; rw [hr]; simp at hf ⊢; omega
    obtain ⟨us, h1, h2, h3⟩ := lexF_join e he ts f (i + 1 + t.text.length) (fun u hu => hg u (by simp [hu])) hf'
    have hd : (t.text ++ 32 :: r).drop t.text.length = joinB (ts ++ [e]) := by rw [List.drop_left, hr]
    have htk : (t.text ++ 32 :: r).take t.text.length = t.text := by rw [List.take_left]
    have hstep : lexF (f + 1) (joinB (t :: ts ++ [e])) i = (⟨t.kind, t.text, t.n, i + 1⟩ :: us, none) := by
      rw [hj]
      simp only [lexF, hb, List.drop_succ_cons, List.drop_zero]
      rw [hcm] at hh hd htk ⊢
      simp only [List.cons_append] at hh hd htk ⊢
      simp only [hh, hd, htk]
      rw [← hcm, h1]
    refine ⟨_, hstep, by simp [h2], ?_⟩
    intro k h h'
    cases k with
    | zero => exact ⟨rfl, rfl, rfl⟩
    | succ k =>
      simp only [List.cons_append, List.getElem_cons_succ]
      exact h3 k (by simpa using h) (by simpa using h')

def key (t : Tok) : Int × List UInt8 × Int := (t.kind, t.text, t.n)

/-- Places alone turn where a text lies further on. -/
theorem lexF_shift : ∀ (f : Nat) (l : List UInt8) (i j : Nat), (lexF f l i).1.map key = (lexF f l j).1.map key ∧ (lexF f l i).2.isSome = (lexF f l j).2.isSome
  | 0, _, _, _ => ⟨rfl, rfl⟩
  | f + 1, l, i, j => by
    simp only [lexF]
    split
    · exact ⟨rfl, rfl⟩
    · split
      · exact ⟨rfl, rfl⟩
      · rename_i _ c m _ _ k n v _
        have := lexF_shift f ((c :: m).drop n) (i + runP blankB l + n) (j + runP blankB l + n)
        exact ⟨by simp only [List.map_cons]; rw [this.1]; rfl, this.2⟩

theorem runP_all (p : UInt8 → Bool) (t : List UInt8) : ∀ l : List UInt8, l.drop (runP p l) = [] → runP p (l ++ t) = l.length + runP p t
  | [], _ => by simp
  | c :: l, h => by
    by_cases hc : p c = true
    · rw [runP_cons_pos hc] at h
      rw [List.cons_append, runP_cons_pos hc, runP_all p t l (by simpa using h)]
      simp; omega
    · rw [runP_cons_neg (by simpa using hc)] at h
      simp at h

theorem runP_some (p : UInt8 → Bool) (t : List UInt8) : ∀ l : List UInt8, l.drop (runP p l) ≠ [] → runP p (l ++ t) = runP p l
  | [], h => absurd rfl h
  | c :: l, h => by
    by_cases hc : p c = true
    · rw [runP_cons_pos hc] at h
      rw [List.cons_append, runP_cons_pos hc, runP_cons_pos hc, runP_some p t l (by simpa using h)]
    · rw [List.cons_append, runP_cons_neg (by simpa using hc), runP_cons_neg (by simpa using hc)]

theorem lexF_parts (t : List UInt8) : ∀ (f : Nat) (l : List UInt8) (i F : Nat), l.length < f → (l ++ 32 :: t).length < F →
    (∀ j, (lexF f l i).2 = some j → (lexF F (l ++ 32 :: t) i).2 = some j) ∧
    ((lexF f l i).2 = none → lexF F (l ++ 32 :: t) i = ((lexF f l i).1.dropLast ++ (lexF F t (i + l.length + 1)).1, (lexF F t (i + l.length + 1)).2))
  | 0, _, _, _, h, _ => by omega
  | _ + 1, _, _, 0, _, h => by omega
  | f + 1, l, i, F + 1, hf, hF => by
    have hbl := runP_le blankB l
    have hm : ∀ m, l.drop (runP blankB l) = m → (m = [] ∨ ∃ c r, m = c :: r) := fun m _ => by cases m <;> simp
    rcases hm _ rfl with hm | ⟨c, m, hm⟩
    · have e : lexF (F + 1) (l ++ 32 :: t) i = lexF (F + 1) t (i + l.length + 1) := by
        simp only [lexF]
        rw [runP_all blankB (32 :: t) l hm, runP_cons_pos (by decide)]
        have : (l ++ 32 :: t).drop (l.length + (runP blankB t + 1)) = t.drop (runP blankB t) := by
          rw [← List.drop_drop, List.drop_left, List.drop_succ_cons]
        rw [this, show i + (l.length + (runP blankB t + 1)) = i + l.length + 1 + runP blankB t from by omega]
      have e2 : lexF (f + 1) l i = ([⟨0, [], 0, i + runP blankB l⟩], none) := by simp only [lexF, hm]
      rw [e, e2]
      exact ⟨fun j h => by simp at h, fun _ => by simp⟩
    · have hne : l.drop (runP blankB l) ≠ [] := by rw [hm]; simp
      have hr := runP_some blankB (32 :: t) l hne
      have hd : (l ++ 32 :: t).drop (runP blankB l) = c :: (m ++ 32 :: t) := by
        rw [List.drop_append_of_le_length hbl, hm, List.cons_append]
      have hh : headT (c :: (m ++ 32 :: t)) = headT (c :: m) := by
        have := headT_append t (c :: m) (by simp)
        rwa [List.cons_append] at this
      simp only [lexF, hr, hd, hh, hm]
      cases hk : headT (c :: m) with
      | none => exact ⟨fun j h => h, fun h => by simp at h⟩
      | some x =>
        obtain ⟨k, n, v⟩ := x
        have h1 := headT_len hk
        have hlen := congrArg List.length hm
        simp at hlen
        simp only
        have h2 : (c :: (m ++ 32 :: t)).drop n = (c :: m).drop n ++ 32 :: t := by
          rw [← List.cons_append, List.drop_append_of_le_length h1.2]
        have h3 : (c :: (m ++ 32 :: t)).take n = (c :: m).take n := by
          rw [← List.cons_append, List.take_append_of_le_length h1.2]
        rw [h2, h3]
        simp only [List.length_append, List.length_cons] at hF h1
        obtain ⟨p1, p2⟩ := lexF_parts t f ((c :: m).drop n) (i + runP blankB l + n) F (by simp; omega) (by simp; omega)
        refine ⟨p1, fun hn => ?_⟩
        rw [p2 hn]
        have hplace : i + runP blankB l + n + ((c :: m).drop n).length + 1 = i + l.length + 1 := by simp; omega
        rw [hplace]
        have hq : lexF F t (i + l.length + 1) = lexF (F + 1) t (i + l.length + 1) := lexF_fuel _ _ _ _ (by omega) (by omega)
        rw [hq]
        obtain ⟨ts, e, h4, _⟩ := lexF_good f _ _ hn (by simp; omega)
        rw [h4]
        simp only [lexF]
        have hdl : ∀ x : Tok, (x :: (ts ++ [e])).dropLast = x :: ts := fun x => by rw [← List.cons_append, List.dropLast_concat]
        rw [hdl, List.dropLast_concat, List.cons_append]
end Go.Proofs.YtphlbbnmligadaaGreatDoor
namespace Go.Proofs.YtphlbbnmligadaaGreatDoor
open Go.RowKit Go.Maps Go.Sort Go.Shelf
variable {P : Program} {ρ : Ren}

/-- An iterator's contract: the caller keeps what lay before. -/
def SeqGivesB {α : Type} (F : Fence) (n : Nat) (P : Program) (g : Nat) (lb : Array Value) (enc : α → Value) (S : List α → Prop) (N : Nat) (w : World) : Prop :=
  ∀ (l : Nat) (J : List α → World → Prop) (W : World), Below w.heap.size w W → AbidesFrom W.heap.size J → (∀ pre W1, J pre W1 → Below w.heap.size w W1) →
    (∀ pre x W1, J pre W1 → pre.length < N → YieldAt F (n - 1) P l #[enc x] W1 fun e W' => e = .returned (.bool true) ∧ J (pre ++ [x]) W' ∧ KeepsWalks W1 W') →
    J [] W →
    CallsIn F n P g (#[.func (.yield l) #[] #[]] ++ lb) W fun e W' => (∃ v, e = .returned v) ∧ ∃ xs, S xs ∧ J xs W'

theorem seqB_bounded {α : Type} {F : Fence} {n : Nat} {P : Program} {g : Nat} {lb : Array Value} {enc : α → Value} {S : List α → Prop} {N : Nat} {w : World}
    (h : SeqGivesB F n P g lb enc S N w) : SeqGivesB F n P g lb enc (fun xs => S xs ∧ xs.length ≤ N) N w := fun l J W hW hJ hB hY h0 => by
  refine (h l (fun xs W' => J xs W' ∧ xs.length ≤ N) W hW (fun s A B row hs hg hr => ⟨hJ s A B row hs.1 hg hr, hs.2⟩) (fun pre W1 hj => hB pre W1 hj.1)
    (fun pre x W1 hj hl => (hY pre x W1 hj.1 hl).mono (fun e w' hr => ⟨hr.1, ⟨hr.2.1, by simp; omega⟩, hr.2.2⟩)) ⟨h0, Nat.zero_le _⟩).mono ?_
  rintro e W' ⟨hv, xs, hS, hJ', hlen⟩
  exact ⟨hv, xs, ⟨hS, hlen⟩, hJ'⟩

set_option maxRecDepth 100000 in
set_option maxHeartbeats 2000000 in
theorem appendB_in (L : SlLaysZ.n11 P ρ) (F : Fence) (n : Nat) (h11 : F.fn (ρ.f 11)) (hro : F.round = none) (hn : 2 ≤ n) (g : Nat) (lb : Array Value) (hFg : F.fn g) (eg : ∀ args w, (callFunc g args).run P w = .ok (.enter g args) w)
    (S : List (List UInt8) → Prop) (N : Nat) (hN : N ≤ maxLen) (hNb : N * 16 ≤ 140737488355328) (w : World) (hseq : SeqGivesB F (n - 1) P g lb encStr S N w) :
    CallsIn F n P (ρ.f 11) #[.slice none 0 0, .func (.func g) #[] lb] w fun e w' => ∃ (v : Value) (ss : List (List UInt8)), e = .returned v ∧ S ss ∧ w'.ownsRow w.heap.size (ρ.t 26) 1 v ss.length (ss.map encStr) ∧ (v = .slice none 0 0 ↔ ss = []) ∧ Below w.heap.size w w' := by
  have h1 : 1 ≤ n := by omega
  have mixed := L.mixed; have t0 := L.t0; have a0 := L.a0; have z0 := L.z0; have v0 := L.v0; have t24 := L.t24; have a24 := L.a24; have z24 := L.z24; have v24 := L.v24; have t26 := L.t26; have a26 := L.a26; have z26 := L.z26; have v26 := L.v26; have t28 := L.t28; have a28 := L.a28; have z28 := L.z28; have v28 := L.v28
  have hne : ρ.t 24 ≠ ρ.t 26 := fun e => by have h := L.t24; rw [e, L.t26] at h; cases h
  have u0 := run_underlying L.t0; have u24 := run_underlying L.t24; have u26 := run_underlying L.t26; have u28 := run_underlying L.t28
  obtain ⟨_, _, FG⟩ := L.f11
  refine callsIn_of_wp_marks FG rfl h11 ?_ hro
  simp only [SlBodyZ.n11_ntmps ρ, List.size_toArray, List.length_cons, List.length_nil, Nat.reduceAdd, Nat.reduceSub, Array.replicate_succ, Array.replicate_zero, List.push_toArray, List.append_toArray, List.nil_append, List.cons_append]
  gi_wp2
  refine wpIn_rangeFunc ?_
  intro fn hfn
  rw [hro]
  obtain ⟨W0, hW0⟩ : ∃ W0, w.alloc (.cells #[.slice none 0 0] (ρ.t 24)) = W0 := ⟨_, rfl⟩
  have hs0 : W0.heap.size = w.heap.size + 1 := by rw [← hW0]; simp
  have hv0 : W0.heap[w.heap.size]? = some (.cells #[.slice none 0 0] (ρ.t 24) (0, 0)) := by rw [← hW0]; exact World.alloc_heap_new w _
  have hb0 : Below w.heap.size w W0 := by rw [← hW0]; exact (Below.refl _ w).alloc (Nat.le_refl _) _
  rw [hW0]
  obtain ⟨W1, hW1⟩ : ∃ W1, (W0.alloc (.deferred (some []))).alloc (.loop (AnyZ.apRec ρ fn (.func (.func g) #[] lb) w.heap.size W0.heap.size .ready none)) = W1 := ⟨_, rfl⟩
  have hold : ∀ k, k < W0.heap.size → W1.heap[k]? = W0.heap[k]? := fun k hk => by
    rw [← hW1]; exact (Below.heap_alloc _ _ k (by simp; omega)).trans (Below.heap_alloc _ _ k hk)
  have hb1 : Below w.heap.size w W1 := by rw [← hW1]; exact (hb0.alloc hb0.size _).alloc (by have := hb0.size; simp; omega) _
  have hs1 : W1.heap.size = W0.heap.size + 2 := by rw [← hW1]; simp
  have hM : AnyZ.ApAt ρ w fn (.func (.func g) #[] lb) w.heap.size (W0.heap.size + 1) W0.heap.size [] W1 :=
    ⟨⟨_, (hold w.heap.size (by omega)).trans hv0, ⟨rfl, .inl ⟨rfl, rfl⟩⟩, by simp⟩,
     by rw [← hW1]; have := World.alloc_heap_new (W0.alloc (.deferred (some []))) (.loop (AnyZ.apRec ρ fn (.func (.func g) #[] lb) w.heap.size W0.heap.size .ready none)); rwa [World.size_alloc] at this,
     by rw [← hW1]; exact (Below.heap_alloc _ _ _ (by simp)).trans (World.alloc_heap_new W0 _), hb1⟩
  refine ⟨W0.heap.size + 1, [{ target := .collected W0.heap.size, args := #[] }], W1, { target := .fn (.func g) lb, args := #[.func (.yield (W0.heap.size + 1)) #[] #[]] }, W1, g,
    #[.func (.yield (W0.heap.size + 1)) #[] #[]] ++ lb, W1, ?_, ?_, ?_, ?_, fun _ => h1, ?_⟩
  · rw [← hW1]; exact run_enterLoop_outer _ _ _ _ _
  · simp [resolve, go_sem]
  · intro f' hf'; simp [Target.leads] at hf'; subst hf'; exact hFg
  · simp [invoke, go_sem, eg]
  · refine (hseq (W0.heap.size + 1) (AnyZ.ApAt ρ w fn (.func (.func g) #[] lb) w.heap.size (W0.heap.size + 1) W0.heap.size) W1 hb1 (AnyZ.ap_abides ρ _ _ _ _ _ _ _ hb1.size) (fun _ _ h => h.below)
      (fun pre x W hJ hl => AnyZ.apYield { L with } F (n - 1 - 1) w fn hfn _ w.heap.size (W0.heap.size + 1) W0.heap.size (by omega) (by omega) (by omega) (Nat.le_refl _) (by omega) N hN hNb pre x W hJ hl) hM).mono ?_
    rintro e W2 ⟨⟨v0, rfl⟩, ss, hS, h2⟩
    obtain ⟨v, hv, hrow, hnil⟩ := h2.box
    have hend := run_endLoop (P := P) h2.L (by simp [AnyZ.apRec])
    obtain ⟨W3, hW3⟩ : ∃ W3, W2.putObj (W0.heap.size + 1) (.loop { AnyZ.apRec ρ fn (.func (.func g) #[] lb) w.heap.size W0.heap.size .ready none with state := .exhausted }) = W3 := ⟨_, rfl⟩
    rw [hW3] at hend
    have hg3 : W2.grownBy W3 (some (W0.heap.size + 1)) := by rw [← hW3]; exact grownBy_putObj_a _ _ _
    have hv3 : W3.heap[w.heap.size]? = some (.cells #[v] (ρ.t 24) (0, 0)) := by rw [← hW3]; exact (World.putObj_heap_other (by omega)).trans hv
    have hK3 : W3.heap[W0.heap.size]? = some (.deferred (some [])) := by rw [← hW3]; exact (World.putObj_heap_other (by omega)).trans h2.K
    have hrow3 := hrow.kept hg3 (ownsRow_ne_a hrow h2.L (fun cur e => by first | cases e | exact hne (Obj.cells.inj e).2.1))
    have hb3 : Below w.heap.size w W3 := h2.below.grown hg3 h2.below.size (fun k e => by cases e; omega)
    obtain ⟨hc3, hf3⟩ := cell_of_box_a hv3
    clear hW3
    refine ⟨none, W3, hend, ?_⟩
    gi_wp2
    rw [← hs0]
    refine ⟨by simp, .inl ⟨_, _, rfl, run_takeDeferred hK3, ?_⟩⟩
    exact ⟨_, results_tmp rfl _ _ _, v, ss, rfl, hS, hrow3.kept (grownBy_putObj_a _ _ _) (ownsRow_ne_a hrow3 hK3 (fun cur e => by first | cases e | exact hne (Obj.cells.inj e).2.1)), hnil, hb3.grown (grownBy_putObj_a _ _ _) hb3.size (fun k e => by cases e; omega)⟩

set_option maxHeartbeats 1000000 in
theorem collectB_in (L : SlLaysZ.n8 P ρ) (F : Fence) (n : Nat) (h8 : F.fn (ρ.f 8)) (h11 : F.fn (ρ.f 11)) (hro : F.round = none) (hn : 3 ≤ n) (g : Nat) (lb : Array Value) (hFg : F.fn g) (eg : ∀ args w, (callFunc g args).run P w = .ok (.enter g args) w)
    (S : List (List UInt8) → Prop) (N : Nat) (hN : N ≤ maxLen) (hNb : N * 16 ≤ 140737488355328) (w : World) (hseq : SeqGivesB F (n - 1 - 1) P g lb encStr S N w) :
    CallsIn F n P (ρ.f 8) #[.func (.func g) #[] lb] w fun e w' => ∃ (v : Value) (ss : List (List UInt8)), e = .returned v ∧ S ss ∧ w'.ownsRow w.heap.size (ρ.t 26) 1 v ss.length (ss.map encStr) ∧ (v = .slice none 0 0 ↔ ss = []) ∧ Below w.heap.size w w' := by
  have h1 : 1 ≤ n := by omega
  have e11 : ∀ args w, (callFunc (ρ.f 11) args).run P w = .ok (.enter (ρ.f 11) args) w := L.f11.enters rfl
  have mixed := L.mixed; have t0 := L.t0; have a0 := L.a0; have z0 := L.z0; have v0 := L.v0; have t24 := L.t24; have a24 := L.a24; have z24 := L.z24; have v24 := L.v24; have t26 := L.t26; have a26 := L.a26; have z26 := L.z26; have v26 := L.v26; have t28 := L.t28; have a28 := L.a28; have z28 := L.z28; have v28 := L.v28
  have u0 := run_underlying L.t0; have u24 := run_underlying L.t24; have u26 := run_underlying L.t26; have u28 := run_underlying L.t28
  obtain ⟨_, _, FG⟩ := L.f8
  refine callsIn_of_wp FG rfl h8 ?_ hro
  simp only [SlBodyZ.n8_ntmps ρ, List.size_toArray, List.length_cons, List.length_nil, Nat.reduceAdd, Nat.reduceSub, Array.replicate_succ, Array.replicate_zero, List.push_toArray, List.append_toArray, List.nil_append, List.cons_append]
  gi_wp2_with (gi_at_fn (ρ.f 11); refine (appendB_in { L with } F (n - 1) h11 hro (by omega) g lb hFg eg S N hN hNb _ hseq).mono ?_; rintro e w' ⟨v, ss, rfl, hS, hrow, hnil, hb⟩)
  go_ret
  exact ⟨v, ss, rfl, hS, hrow, hnil, hb⟩

set_option maxRecDepth 100000 in
set_option maxHeartbeats 2000000 in
theorem sortedB_in (L : SlLaysZ.n6 P ρ) (F : Fence) (n : Nat) (h6 : F.fn (ρ.f 6)) (h8 : F.fn (ρ.f 8)) (h9 : F.fn (ρ.f 9)) (h11 : F.fn (ρ.f 11)) (hro : F.round = none) (hn : 4 ≤ n) (hsort : AnyZ.SortsIn P ρ F (n - 1)) (e9 : ∀ args w, (callFunc (ρ.f 9) args).run P w = .ok (.enter (ρ.f 9) args) w) (g : Nat) (lb : Array Value) (hFg : F.fn g) (eg : ∀ args w, (callFunc g args).run P w = .ok (.enter g args) w)
    (S : List (List UInt8) → Prop) (N : Nat) (hN : N ≤ maxLen) (hNb : N * 16 ≤ 140737488355328) (w : World) (hseq : SeqGivesB F (n - 1 - 1 - 1) P g lb encStr S N w) :
    CallsIn F n P (ρ.f 6) #[.func (.func g) #[] lb] w fun e w' => ∃ (v : Value) (ss : List (List UInt8)), e = .returned v ∧ S ss ∧
      w'.ownsRow w.heap.size (ρ.t 26) 1 v ss.length ((ss.mergeSort (fun x y => decide (x ≤ y))).map encStr) ∧ (v = .slice none 0 0 ↔ ss = []) ∧ Below w.heap.size w w' := by
  have h1 : 1 ≤ n := by omega
  have e8 : ∀ args w, (callFunc (ρ.f 8) args).run P w = .ok (.enter (ρ.f 8) args) w := L.f8.enters rfl
  have mixed := L.mixed; have t0 := L.t0; have a0 := L.a0; have z0 := L.z0; have v0 := L.v0; have t24 := L.t24; have a24 := L.a24; have z24 := L.z24; have v24 := L.v24; have t26 := L.t26; have a26 := L.a26; have z26 := L.z26; have v26 := L.v26; have t28 := L.t28; have a28 := L.a28; have z28 := L.z28; have v28 := L.v28
  have u0 := run_underlying L.t0; have u24 := run_underlying L.t24; have u26 := run_underlying L.t26; have u28 := run_underlying L.t28
  obtain ⟨_, _, FG⟩ := L.f6
  refine callsIn_of_wp FG rfl h6 ?_ hro
  simp only [SlBodyZ.n6_ntmps ρ, List.size_toArray, List.length_cons, List.length_nil, Nat.reduceAdd, Nat.reduceSub, Array.replicate_succ, Array.replicate_zero, List.push_toArray, List.append_toArray, List.nil_append, List.cons_append]
  gi_wp2_with (gi_at_fn (ρ.f 8); refine (collectB_in { L with } F (n - 1) h8 h11 hro (by omega) g lb hFg eg _ N hN hNb _ (seqB_bounded hseq)).mono ?_; rintro e W ⟨v, ss, rfl, ⟨hS, hlen⟩, hrow, hnil, hb⟩)
  rcases hrow.2 with ⟨rfl, hz⟩ | ⟨gb, cap, cur, rfl, hbase, hgb, r1, r2, r3, r4⟩
  · -- nothing came: the nil slice is sorted and handed back
    have hss : ss = [] := List.eq_nil_of_length_eq_zero hz
    subst hss
    gi_wp2_with (gi_at_fn (ρ.f 9); refine (hsort.2 none 0 W).mono ?_; rintro e w' ⟨rfl, rfl⟩)
    go_ret
    exact ⟨.slice none 0 0, [], rfl, hS, by simpa using hrow, by simp, hb⟩
  · have hH : Holds encStr W gb 0 ss.toArray := holds_of_block hgb (by simpa using r4)
    have hgl : gb < W.heap.size := (Array.getElem?_eq_some_iff.1 hgb).1
    have hsz : ss.length < 4611686018427387904 := by omega
    have cS := hsort.1 gb 0 cap ss W hH hgl hsz
    gi_wp2_with (gi_at_fn (ρ.f 9); refine cS.mono ?_; rintro e w' ⟨rfl, nn, os, rfl⟩)
    go_ret
    exact ⟨_, ss, rfl, hS, ownsRow_sorted (by simp) hbase hgb r1 r2 r3, hnil, hb.grown (grownBy_sorted _) hb.size (fun j hj => by cases hj; exact hbase)⟩


end Go.Proofs.YtphlbbnmligadaaGreatDoor
