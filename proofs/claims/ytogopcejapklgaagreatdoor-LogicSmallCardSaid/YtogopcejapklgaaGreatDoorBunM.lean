/- How plain data lie in memory: slices, expressions; what a call keeps. No program in sight. -/
import Derived.WalkKit
import Derived.WalkSpells
import Derived.WalkLawsBesides
import Derived.Maps.AppendAt
import Derived.Deep.RegionLawGrows
import Derived.Deep.RegionHeld3
import Derived.Maps.OwnOps
import Derived.Maps.RangeWalk
import Derived.Maps.RangeRun
namespace Go.Proofs.YtogopcejapklgaaGreatDoor
open Go.RowKit

theorem hid {p : Prop} (h : p) : Hid p := h

theorem ret_int {k : IntKind} {a b : Int} (h : a = b) : Ending.returned (.int k a) = .returned (.int k b) := by rw [h]
theorem ret_bool {a b : Bool} (h : a = b) : Ending.returned (.bool a) = .returned (.bool b) := by rw [h]

/-- What was there in W0 is as it was. -/
abbrev Kp (W0 w' : World) : Prop := Below W0.heap.size W0 w' ∧ ∀ b o, b < W0.heap.size → w'.cell? ⟨b, o, none⟩ = W0.cell? ⟨b, o, none⟩
theorem Kp.of {W0 w' : World} (h : Below W0.heap.size W0 w') : Kp W0 w' := ⟨h, fun _ _ hb => h.cell (p := ⟨_, _, none⟩) hb⟩
theorem Kp.start (W0 : World) : Kp W0 W0.drew := .of (Below.refl _ _).drew
theorem Kp.refl (W0 : World) : Kp W0 W0 := .of (Below.refl _ _)
theorem Kp.next {W0 w w' : World} (h : Kp W0 w) (hb : Below w.heap.size w w') : Kp W0 w' := .of (h.1.trans (hb.mono h.1.size))
theorem Kp.fin {w W0 w1 : World} (hB : Below w.heap.size w W0) (h : Kp W0 w1) : Below w.heap.size w w1 := hB.trans (h.1.mono hB.size)

/-- The blocks that lie in w. -/
def In_ (w : World) : Nat → Prop := fun b => b < w.heap.size
theorem In_.mono {w w' : World} (h : w.heap.size ≤ w'.heap.size) : ∀ b, In_ w b → In_ w' b := fun _ hb => Nat.lt_of_lt_of_le hb h
theorem In_.lt {w : World} {b : Nat} (h : In_ w b) : b < w.heap.size := h

/-- n elements of sz cells each lie where a slice leads, in blocks of S: element i's cells are C i. -/
structure Sl (w : World) (S : Nat → Prop) (sz : Nat) (a : Option Addr) (n cap : Nat) (C : Nat → List Value) : Prop where
  le : n ≤ cap
  mx : cap ≤ maxLen
  at_ : 0 < n → ∃ b off, a = some ⟨b, off, none⟩ ∧ S b ∧ ∀ i, i < n → ∀ j, j < sz → w.cell? ⟨b, off + (i * sz + j), none⟩ = (C i)[j]?

namespace Sl
variable {w w' : World} {S S' : Nat → Prop} {sz n cap : Nat} {a : Option Addr} {C : Nat → List Value}
theorem keep (h : Sl w S sz a n cap C) (hk : ∀ b o, S b → w'.cell? ⟨b, o, none⟩ = w.cell? ⟨b, o, none⟩) : Sl w' S sz a n cap C :=
  ⟨h.le, h.mx, fun h0 => by
    obtain ⟨b, off, rfl, hb, hc⟩ := h.at_ h0
    exact ⟨b, off, rfl, hb, fun i hi j hj => (hk _ _ hb).trans (hc i hi j hj)⟩⟩
theorem widen (h : Sl w S sz a n cap C) (hS : ∀ b, S b → S' b) : Sl w S' sz a n cap C :=
  ⟨h.le, h.mx, fun h0 => by
    obtain ⟨b, off, rfl, hb, hc⟩ := h.at_ h0
    exact ⟨b, off, rfl, hS _ hb, hc⟩⟩
theorem nil {sz : Nat} : Sl w S sz none 0 0 C := ⟨Nat.le_refl _, Nat.zero_le _, fun h => absurd h (by omega)⟩
end Sl

/-- An expression: kind, number, operator, parts. -/
inductive Ex where
  | mk (k n o : Int) (kids : List Ex)

namespace Ex
def kind : Ex → Int | mk k _ _ _ => k
def num : Ex → Int | mk _ n _ _ => n
def op : Ex → Int | mk _ _ o _ => o
def kids : Ex → List Ex | mk _ _ _ l => l

theorem ind {P : Ex → Prop} (h : ∀ k n o l, (∀ x, x ∈ l → P x) → P (mk k n o l)) : ∀ x, P x
  | mk k n o l => h k n o l fun x _hx => ind h x
termination_by x => SizeOf.sizeOf x
decreasing_by
  have := List.sizeOf_lt_of_mem _hx
  simp only [mk.sizeOf_spec]; omega
end Ex

/-- There is such an operator. -/
def isOp (o : Int) : Bool := o == 43 || o == 45 || o == 42 || o == 60 || o == 38 || o == 124 || o == 61 || o == 33

/-- May an expression be, within so much depth, with numbers below a domain? -/
def Ex.fit (dom : Int) : Nat → Ex → Bool
  | 0, _ => false
  | deep + 1, mk k n o l =>
    if k = 1 then decide (0 ≤ n) && decide (n < dom) && o == 0 && l.isEmpty
    else if k = 2 then decide (0 ≤ n) && decide (n < 4) && o == 0 && l.isEmpty
    else if k = 3 then n == 0 && isOp o && (match l with | [x, y] => fit dom deep x && fit dom deep y | _ => false)
    else false

/-- An expression lies in 'w', its parts in blocks of S: its four cells. -/
inductive ExIn (w : World) (S : Nat → Prop) : List Value → Ex → Prop
  | mk (k n o : Int) (a : Option Addr) (cap : Nat) (l : List Ex) (cs : Nat → List Value)
      (wk : (Lit.int .i64 k).wf = true) (wn : (Lit.int .i64 n).wf = true) (wo : (Lit.int .u8 o).wf = true)
      (hs : Sl w S 4 a l.length cap cs)
      (hk : ∀ i (h : i < l.length), ExIn w S (cs i) l[i]) :
      ExIn w S [.int .i64 k, .int .i64 n, .int .u8 o, .slice a l.length cap] (.mk k n o l)

namespace ExIn
variable {w w' : World} {S S' : Nat → Prop} {cs : List Value} {x : Ex}
theorem keep (h : ExIn w S cs x) (hk : ∀ b o, S b → w'.cell? ⟨b, o, none⟩ = w.cell? ⟨b, o, none⟩) : ExIn w' S cs x := by
  induction h with
  | mk k n o a cap l cs wk wn wo hs _ ih => exact .mk k n o a cap l cs wk wn wo (hs.keep hk) (fun i hi => ih i hi)
theorem widen (h : ExIn w S cs x) (hS : ∀ b, S b → S' b) : ExIn w S' cs x := by
  induction h with
  | mk k n o a cap l cs wk wn wo hs _ ih => exact .mk k n o a cap l cs wk wn wo (hs.widen hS) (fun i hi => ih i hi)
theorem four (h : ExIn w S cs x) : ∃ u0 u1 u2 u3, cs = [u0, u1, u2, u3] := by
  cases h with
  | mk => exact ⟨_, _, _, _, rfl⟩
theorem open_ {k n o : Int} {l : List Ex} (h : ExIn w S cs (.mk k n o l)) :
    ∃ a cap, cs = [.int .i64 k, .int .i64 n, .int .u8 o, .slice a l.length cap] ∧ l.length ≤ cap ∧ cap ≤ maxLen ∧ (Lit.int .i64 k).wf = true ∧ (Lit.int .i64 n).wf = true ∧ (Lit.int .u8 o).wf = true ∧
      ∀ i (_ : i < l.length), ∃ b off u0 u1 u2 u3, a = some ⟨b, off, none⟩ ∧ S b ∧ w.cell? ⟨b, off + i * 4, none⟩ = some u0 ∧ w.cell? ⟨b, off + i * 4 + 1, none⟩ = some u1 ∧ w.cell? ⟨b, off + i * 4 + 2, none⟩ = some u2 ∧ w.cell? ⟨b, off + i * 4 + 3, none⟩ = some u3 ∧
        ExIn w S [u0, u1, u2, u3] l[i] := by
  cases h with
  | mk _ _ _ a cap _ cs wk wn wo hs hk =>
  refine ⟨a, cap, rfl, hs.le, hs.mx, wk, wn, wo, fun i hi => ?_⟩
  obtain ⟨b, off, rfl, hb, hcell⟩ := hs.at_ (by omega)
  have h := hk i hi
  obtain ⟨u0, u1, u2, u3, he⟩ := h.four
  rw [he] at h
  have g := fun j hj => hcell i hi j hj
  simp only [he] at g
  exact ⟨b, off, u0, u1, u2, u3, rfl, hb, by simpa using g 0 (by omega), by simpa [Nat.add_assoc] using g 1 (by omega), by simpa [Nat.add_assoc] using g 2 (by omega), by simpa [Nat.add_assoc] using g 3 (by omega), h⟩
/-- The very two parts of an expression that has two, behind 'open_'. -/
theorem pair {a : Option Addr} {x y : Ex}
    (h : ∀ i (_ : i < [x, y].length), ∃ b off u0 u1 u2 u3, a = some ⟨b, off, none⟩ ∧ S b ∧ w.cell? ⟨b, off + i * 4, none⟩ = some u0 ∧ w.cell? ⟨b, off + i * 4 + 1, none⟩ = some u1 ∧ w.cell? ⟨b, off + i * 4 + 2, none⟩ = some u2 ∧ w.cell? ⟨b, off + i * 4 + 3, none⟩ = some u3 ∧
        ExIn w S [u0, u1, u2, u3] [x, y][i]) :
    ∃ b off u0 u1 u2 u3 v0 v1 v2 v3, a = some ⟨b, off, none⟩ ∧ S b ∧
      w.cell? ⟨b, off, none⟩ = some u0 ∧ w.cell? ⟨b, off + 1, none⟩ = some u1 ∧ w.cell? ⟨b, off + 2, none⟩ = some u2 ∧ w.cell? ⟨b, off + 3, none⟩ = some u3 ∧
      w.cell? ⟨b, off + 4, none⟩ = some v0 ∧ w.cell? ⟨b, off + (4 + 1), none⟩ = some v1 ∧ w.cell? ⟨b, off + (4 + 2), none⟩ = some v2 ∧ w.cell? ⟨b, off + (4 + 3), none⟩ = some v3 ∧
      ExIn w S [u0, u1, u2, u3] x ∧ ExIn w S [v0, v1, v2, v3] y := by
  obtain ⟨b, off, u0, u1, u2, u3, rfl, hb, g0, g1, g2, g3, hx⟩ := h 0 (by simp)
  obtain ⟨b', off', v0, v1, v2, v3, e, _, h0, h1, h2, h3, hy⟩ := h 1 (by simp)
  simp only [Option.some.injEq, Addr.mk.injEq, and_true] at e
  obtain ⟨rfl, rfl⟩ := e
  exact ⟨b, off, u0, u1, u2, u3, v0, v1, v2, v3, rfl, hb, by simpa using g0, by simpa using g1, by simpa using g2, by simpa using g3, by simpa using h0, by simpa [Nat.add_assoc] using h1, by simpa [Nat.add_assoc] using h2, by simpa [Nat.add_assoc] using h3, hx, hy⟩
theorem leaf (w : World) (S : Nat → Prop) (k n o : Int) (wk : (Lit.int .i64 k).wf = true) (wn : (Lit.int .i64 n).wf = true) (wo : (Lit.int .u8 o).wf = true) :
    ExIn w S [.int .i64 k, .int .i64 n, .int .u8 o, .slice none 0 0] (.mk k n o []) :=
  .mk k n o none 0 [] (fun _ => []) wk wn wo .nil (fun i hi => absurd hi (by simp))
theorem mk2 {k n o : Int} (wk : (Lit.int .i64 k).wf = true) (wn : (Lit.int .i64 n).wf = true) (wo : (Lit.int .u8 o).wf = true) {b : Nat} {u0 u1 u2 u3 v0 v1 v2 v3 : Value} {x y : Ex} (hb : S b)
    (hc : ∀ j, w.cell? ⟨b, j, none⟩ = (#[u0, u1, u2, u3, v0, v1, v2, v3] : Array Value)[j]?) (hx : ExIn w S [u0, u1, u2, u3] x) (hy : ExIn w S [v0, v1, v2, v3] y) :
    ExIn w S [.int .i64 k, .int .i64 n, .int .u8 o, .slice (some ⟨b, 0, none⟩) 2 2] (.mk k n o [x, y]) := by
  refine .mk k n o (some ⟨b, 0, none⟩) 2 [x, y] (fun i => match i with | 0 => [u0, u1, u2, u3] | _ => [v0, v1, v2, v3]) wk wn wo ⟨Nat.le_refl _, by decide, fun _ => ⟨b, 0, rfl, hb, fun i hi j hj => ?_⟩⟩ (fun i hi => ?_)
  · rw [hc]
    match i, hi, j, hj with
    | 0, _, 0, _ | 0, _, 1, _ | 0, _, 2, _ | 0, _, 3, _ | 1, _, 0, _ | 1, _, 1, _ | 1, _, 2, _ | 1, _, 3, _ => rfl
  · match i, hi with
    | 0, _ => exact hx
    | 1, _ => exact hy
end ExIn

theorem Kp.ex {W0 w : World} (h : Kp W0 w) {cs : List Value} {x : Ex} (hx : ExIn W0 (In_ W0) cs x) : ExIn w (In_ w) cs x := (hx.keep fun b o hb => h.2 b o hb).widen (In_.mono h.1.size)
end Go.Proofs.YtogopcejapklgaaGreatDoor
namespace Go.Proofs.YtogopcejapklgaaGreatDoor
open Go.RowKit
theorem drewN_kp {W0 wr : World} (h : Kp W0 wr) (n : Nat) : Kp W0 (wr.drewN n) := .of ⟨h.1.os, h.1.tape, h.1.output, h.1.size, h.1.block⟩
end Go.Proofs.YtogopcejapklgaaGreatDoor
namespace Go.Proofs.YtogopcejapklgaaGreatDoor
open Go.RowKit

/-- The cells 'news', m elements, lie where the slice (A, m) leads. -/
def SrcAt (w : World) (size : Nat) (A : Option Addr) (m : Nat) (news : List Value) : Prop :=
  news.length = m * size ∧ (A = none → m = 0) ∧ ∀ ad, A = some ad → ∀ j u, news[j]? = some u → w.cell? (ad.add j) = some u

section
variable {P : Program} {w : World} {base : Nat} {t e : TypeId} {i : TypeInfo} {z : Value} {size bytes : Nat}

theorem run_app (ty : TypeId) (ht : P.underlying t = some (.slice e)) (hi : P.info? e = some i) (hz : i.zero = some z) (hsize : i.size = size) (hby : i.bytes = bytes) (hzs : z.cells.size = size) (hsz : 0 < size)
    {v : Value} {n : Nat} {xs : List Value} (hown : w.ownsRow base e size v n xs) {A : Option Addr} {m c : Nat} {news : List Value} (hs : SrcAt w size A m news) (h1 : ∀ u ∈ news, u.oneCell' = true)
    (h63 : n + m ≤ maxLen) (hbytes : (n + m) * bytes ≤ 140737488355328) (hbase : base ≤ w.heap.size) :
    ∃ v' w', (Builtin.append_ #[t, t] ty #[v, .slice A m c]).run P w = .ok v' w' ∧ w'.ownsRow base e size v' (n + m) (xs ++ news) ∧ w.grownBy w' v.ownBlock ∧ (v'.ownBlock = v.ownBlock ∨ v'.ownBlock = some w.heap.size) := by
  obtain ⟨hl, hA, hc⟩ := hs
  cases A with
  | none =>
    obtain rfl := hA rfl
    obtain rfl : news = [] := List.eq_nil_of_length_eq_zero (by simpa using hl)
    refine ⟨v, w, ?_, by simpa using hown, ⟨rfl, rfl, rfl, Nat.le_refl _, fun _ _ _ => rfl⟩, .inl rfl⟩
    rcases hown.2 with ⟨rfl, rfl⟩ | ⟨g, cap, cur, rfl, _, _, hnc, _⟩
    · simp [Builtin.append_, run_underlying ht, sizeOf, typeInfo, hi, Builtin.lenOf, Builtin.firstCells]
    · simp [Builtin.append_, run_underlying ht, sizeOf, typeInfo, hi, Builtin.lenOf, Builtin.firstCells, hnc, storeCells]
  | some ad =>
    obtain ⟨v', w', hrun, h2, h3, _, h5⟩ := run_append_own_at (P := P) w base t ty e i z size bytes ht hi hz hsize hby hzs hsz v n xs hown ad m c news hl (hc ad rfl) h1 h63 hbytes hbase
    exact ⟨v', w', hrun, h2, h3, h5⟩

theorem wp_app {o : Oper} {a : Act} {K : Act → World → Prop} {Q : Exit → Act → World → Prop} (s x : Operand) (ho : o.op = .call { callee := .builtin .append, args := #[s, x], argTypes := #[t, t] })
    (ht : P.underlying t = some (.slice e)) (hi : P.info? e = some i) (hz : i.zero = some z) (hsize : i.size = size) (hby : i.bytes = bytes) (hzs : z.cells.size = size) (hsz : 0 < size)
    (v : Value) (n : Nat) (xs : List Value) (hsv : a.eval s = v) (hown : w.ownsRow base e size v n xs) (m : Nat) (news : List Value) (hsrc : ∃ A c, a.eval x = .slice A m c ∧ SrcAt w size A m news) (h1 : ∀ u ∈ news, u.oneCell' = true)
    (h63 : n + m ≤ maxLen) (hbytes : (n + m) * bytes ≤ 140737488355328) (hbase : base ≤ w.heap.size)
    (h : ∀ v' w', w'.ownsRow base e size v' (n + m) (xs ++ news) → w.grownBy w' v.ownBlock → (v'.ownBlock = v.ownBlock ∨ v'.ownBlock = some w.heap.size) → K (a.put o.dst v') w') : o.wp P a w K Q := by
  obtain ⟨A, c, hx, hs⟩ := hsrc
  obtain ⟨v', w', hrun, h2, h3, h4⟩ := run_app (P := P) o.type ht hi hz hsize hby hzs hsz hown (c := c) hs h1 h63 hbytes hbase
  unfold Oper.wp execOp
  simp only [ho, resolve, invoke, builtin, Sem.run_bind, Sem.run_pure, Result.andThen_ok, List.map_toArray, List.map_cons, List.map_nil, hsv, hx, hrun]
  exact h v' w' h2 h3 h4

/-- As a step of a region. -/
theorem step_app {ops : Array Oper} {o : Oper} {a : Act} {K : Act → World → Prop} {Q : Exit → Act → World → Prop} {E : Prop} (hgd : o.guard = none) (s x : Operand) (ho : o.op = .call { callee := .builtin .append, args := #[s, x], argTypes := #[t, t] })
    (ht : P.underlying t = some (.slice e)) (hi : P.info? e = some i) (hz : i.zero = some z) (hsize : i.size = size) (hby : i.bytes = bytes) (hzs : z.cells.size = size) (hsz : 0 < size)
    (v : Value) (n : Nat) (xs : List Value) (hsv : a.eval s = v) (hown : w.ownsRow base e size v n xs) (m : Nat) (news : List Value) (hsrc : ∃ A c, a.eval x = .slice A m c ∧ SrcAt w size A m news) (h1 : ∀ u ∈ news, u.oneCell' = true)
    (h63 : n + m ≤ maxLen) (hbytes : (n + m) * bytes ≤ 140737488355328) (hbase : base ≤ w.heap.size)
    (h : ∀ v' w', w'.ownsRow base e size v' (n + m) (xs ++ news) → w.grownBy w' v.ownBlock → (v'.ownBlock = v.ownBlock ∨ v'.ownBlock = some w.heap.size) → K (a.put o.dst v') w') :
    if Region.wanted o (yielded ops a.tmps) = true then Oper.wp P o a w K Q else E := by
  have hw : Region.wanted o (yielded ops a.tmps) = true := by simp [Region.wanted, hgd]
  rw [if_pos hw]
  exact wp_app s x ho ht hi hz hsize hby hzs hsz v n xs hsv hown m news hsrc h1 h63 hbytes hbase h

/-- In a plain list of operations. -/
theorem list_app {ops : Array Oper} {rest : List Oper} {o : Oper} {a : Act} {Q : Exit → Act → World → Prop} (hgd : o.guard = none) (s x : Operand) (ho : o.op = .call { callee := .builtin .append, args := #[s, x], argTypes := #[t, t] })
    (ht : P.underlying t = some (.slice e)) (hi : P.info? e = some i) (hz : i.zero = some z) (hsize : i.size = size) (hby : i.bytes = bytes) (hzs : z.cells.size = size) (hsz : 0 < size)
    (v : Value) (n : Nat) (xs : List Value) (hsv : a.eval s = v) (hown : w.ownsRow base e size v n xs) (m : Nat) (news : List Value) (hsrc : ∃ A c, a.eval x = .slice A m c ∧ SrcAt w size A m news) (h1 : ∀ u ∈ news, u.oneCell' = true)
    (h63 : n + m ≤ maxLen) (hbytes : (n + m) * bytes ≤ 140737488355328) (hbase : base ≤ w.heap.size)
    (h : ∀ v' w', w'.ownsRow base e size v' (n + m) (xs ++ news) → w.grownBy w' v.ownBlock → (v'.ownBlock = v.ownBlock ∨ v'.ownBlock = some w.heap.size) → wpList P ops Q rest (a.put o.dst v') w') : wpList P ops Q (o :: rest) a w :=
  wpList_plain hgd fun _ hK => wp_app s x ho ht hi hz hsize hby hzs hsz v n xs hsv hown m news hsrc h1 h63 hbytes hbase fun v' w' h2 h3 h4 => hK _ _ (h v' w' h2 h3 h4)
end

/-- A new block's cells, as a source. -/
theorem src_new {w : World} {T : TypeId} {size m : Nat} {news : List Value} (hl : news.length = m * size) : SrcAt (w.alloc (.cells news.toArray T)) size (some ⟨w.heap.size, 0, none⟩) m news := by
  refine ⟨hl, fun h => (by cases h), fun ad h j u hu => ?_⟩
  obtain rfl : ad = ⟨w.heap.size, 0, none⟩ := by simpa using h.symm
  have hadd : (⟨w.heap.size, 0, none⟩ : Addr).add j = ⟨w.heap.size, j, none⟩ := by
    unfold Addr.add
    split
    · rename_i h0; subst h0; rfl
    · simp
  rw [hadd]
  simpa using hu
theorem src_new_d {w : World} {T : TypeId} {size m : Nat} {news : List Value} (hl : news.length = m * size) : SrcAt (w.alloc (.cells news.toArray T)).drew size (some ⟨w.heap.size, 0, none⟩) m news := src_new (w := w) hl
theorem SrcAt.grown {w w1 : World} {size m : Nat} {A : Option Addr} {news : List Value} {r : Option Nat} (h : SrcAt w size A m news) (hg : w.grownBy w1 r) (hr : r = none ∨ ∀ ad, A = some ad → some ad.block ≠ r) : SrcAt w1 size A m news := by
  refine ⟨h.1, h.2.1, fun ad had j u hu => ?_⟩
  have hc := h.2.2 ad had j u hu
  have hb : (ad.add j).block = ad.block := by unfold Addr.add; split <;> rfl
  refine hg.cell hc ?_
  rw [hb]
  rcases hr with rfl | hr
  · simp
  · exact hr ad had
theorem Kp.grown {W0 w w1 : World} {r : Option Nat} (h : Kp W0 w) (hg : w.grownBy w1 r) (hr : ∀ k, r = some k → W0.heap.size ≤ k) : Kp W0 w1 :=
  .of (h.1.grown hg h.1.size hr)
theorem Kp.alloc {W0 w : World} (h : Kp W0 w) (o : Obj) : Kp W0 (w.alloc o) := .of (h.1.alloc h.1.size o)
theorem Kp.drew {W0 w : World} (h : Kp W0 w) : Kp W0 w.drew := .of h.1.drew
end Go.Proofs.YtogopcejapklgaaGreatDoor
namespace Go.Proofs.YtogopcejapklgaaGreatDoor
open Go.RowKit Go.MapKept

/-- Block b of w is a map of just these entries. -/
def MapIs (w : World) (b : Nat) (l : List (Int × Value)) : Prop :=
  ∃ es clock, w.heap[b]? = some (.map es clock) ∧ es.toList.map (fun e => (e.key, e.val)) = l.map (fun p => (Value.int .i64 p.1, p.2))
/-- What lies at a key. -/
def mget (z : Value) (x : Int) : List (Int × Value) → Value
  | [] => z
  | p :: r => if x = p.1 then p.2 else mget z x r

theorem MapIs.made (w : World) : MapIs (w.alloc (.map #[] 0)) w.heap.size [] := ⟨#[], 0, (heap_alloc w _).1, rfl⟩
theorem MapIs.lt {w : World} {b : Nat} {l : List (Int × Value)} (h : MapIs w b l) : b < w.heap.size := by
  obtain ⟨es, clock, hb, _⟩ := h
  exact (Array.getElem?_eq_some_iff.1 hb).1
theorem MapIs.keep {w w' : World} {b : Nat} {l : List (Int × Value)} (h : MapIs w b l) (hb : Below w.heap.size w w') : MapIs w' b l := by
  have hlt := h.lt
  obtain ⟨es, clock, h1, h2⟩ := h
  exact ⟨es, clock, (hb.block b hlt).trans h1, h2⟩
theorem MapIs.drew {w : World} {b : Nat} {l : List (Int × Value)} (h : MapIs w b l) : MapIs w.drew b l := h

theorem find_spec (x : Int) (z : Value) : ∀ (es : List MapEntry) (l : List (Int × Value)) (i : Nat), es.map (fun e => (e.key, e.val)) = l.map (fun p => (Value.int .i64 p.1, p.2)) →
    (∃ j v, Instr.findNow (.int .i64) (.int .i64 x) es i = some (some (j, v)) ∧ mget z x l = v ∧ ∃ p ∈ l, p.1 = x) ∨ (Instr.findNow (.int .i64) (.int .i64 x) es i = some none ∧ mget z x l = z ∧ ∀ p ∈ l, p.1 ≠ x)
  | [], [], _, _ => .inr ⟨rfl, rfl, by simp⟩
  | [], p :: l, _, h => by simp at h
  | e :: es, [], _, h => by simp at h
  | e :: es, p :: l, i, h => by
    simp only [List.map_cons, List.cons.injEq, Prod.mk.injEq] at h
    obtain ⟨⟨hk, hv⟩, ht⟩ := h
    unfold Instr.findNow mget
    rw [hk]
    by_cases hx : x = p.1
    · left
      refine ⟨i, e.val, by simp [Instr.sameNow, hx], by rw [if_pos hx, hv], p, by simp, hx.symm⟩
    · have hn : Instr.sameNow (.int .i64) (.int .i64 x) (.int .i64 p.1) = some false := by simp [Instr.sameNow, hx]
      rw [hn, if_neg hx]
      rcases find_spec x z es l (i + 1) ht with ⟨j, v, h1, h2, q, hq, hq2⟩ | ⟨h1, h2, h3⟩
      · exact .inl ⟨j, v, h1, h2, q, by simp [hq], hq2⟩
      · refine .inr ⟨h1, h2, fun q hq => ?_⟩
        rcases List.mem_cons.1 hq with rfl | hq
        · exact fun h => hx h.symm
        · exact h3 q hq

/-- 'm[k]'. -/
theorem run_look_of {P : Program} {w : World} {b : Nat} {l : List (Int × Value)} {t k e : TypeId} {z : Value} (h : MapIs w b l) (ht : P.underlying t = some (.map k e)) (hk : P.underlying k = some (.int .i64)) (hz : (zeroValue e).run P w = .ok z w) (x : Int) :
    (Instr.lookup t (.map (some b)) (.int .i64 x) false).run P w = .ok (mget z x l) w := by
  obtain ⟨es, clock, hb, he⟩ := h
  unfold Instr.lookup
  have hkey : IsKey (.int .i64) (.int .i64 x) := rfl
  simp only [Sem.run_bind, run_underlying ht, Result.andThen, Go.MapKept.run_getObj_map hb, Sem.run_pure, Go.MapKept.run_checkKey hk hkey]
  rcases find_spec x z es.toList l 0 he with ⟨j, v, h1, h2, _⟩ | ⟨h1, h2, _⟩
  · rw [run_findKey hk h1]
    simp [h2]
  · rw [run_findKey hk h1]
    simp [h2, hz]

/-- 'm[k] = v' at a new key. -/
theorem run_put_of {P : Program} {w : World} {b : Nat} {l : List (Int × Value)} {t k e : TypeId} (h : MapIs w b l) (ht : P.underlying t = some (.map k e)) (hk : P.underlying k = some (.int .i64)) (x : Int) (v : Value) (hx : l.all (fun p => p.1 != x) = true) :
    ∃ w', (Instr.mapUpdate t (.map (some b)) (.int .i64 x) v).run P w = .ok () w' ∧ MapIs w' b (l ++ [(x, v)]) ∧ w.grownBy w' (some b) := by
  obtain ⟨es, clock, hb, he⟩ := h
  have hno : Instr.findNow (.int .i64) (.int .i64 x) es.toList 0 = some none := by
    rcases find_spec x undef es.toList l 0 he with ⟨j, v, _, _, p, hp, hpx⟩ | ⟨h1, _⟩
    · have := List.all_eq_true.1 hx p hp
      simp [hpx] at this
    · exact h1
  refine ⟨{ w with heap := w.heap.setIfInBounds b (.map (es.push { key := .int .i64 x, val := v, born := clock }) (clock + 1)) }, ?_, ⟨_, _, (heap_set hb).1, ?_⟩, ⟨rfl, rfl, rfl, by simp, fun i _ hi => (heap_set hb).2 i (fun e => hi (by rw [e]))⟩⟩
  · unfold Instr.mapUpdate
    have hkey : IsKey (.int .i64) (.int .i64 x) := rfl
    simp only [Sem.run_bind, run_underlying ht, Result.andThen, Go.MapKept.run_getObj_map hb, Go.MapKept.run_checkKey hk hkey, run_findKey hk hno, Go.MapKept.run_setObj_map _ hb]
  · simp [he]

/-- .. as a step of the walk. -/
theorem wpList_put_of {P : Program} (w : World) {ops : Array Oper} {rest : List Oper} {o : Oper} {a : Act} {Q : Exit → Act → World → Prop}
    (hg : o.guard = none) (m x v : Operand) (t k e : TypeId) (hop : o.op = Op.insert t m x v) (ht : P.underlying t = some (.map k e)) (hk : P.underlying k = some (.int .i64))
    (b : Nat) (l : List (Int × Value)) (hm : a.eval m = .map (some b)) (h : MapIs w b l) (key : Int) (hx : a.eval x = .int .i64 key) (val : Value) (hv : a.eval v = val) (hno : l.all (fun p => p.1 != key) = true)
    (hK : ∀ w', MapIs w' b (l ++ [(key, val)]) → w.grownBy w' (some b) → wpList P ops Q rest (a.put o.dst undef) w') :
    wpList P ops Q (o :: rest) a w := by
  refine wpList_plain hg fun K' hK' => ?_
  subst hv
  obtain ⟨w', hrun, r1, r2⟩ := run_put_of h ht hk key (a.eval v) hno
  unfold Oper.wp
  simp [execOp, hop, hm, hx, hrun, Result.andThen]
  exact hK' _ _ (hK w' r1 r2)
/-- 'm[k]' as a step of the walk. -/
theorem wpList_look_of {P : Program} (w : World) {ops : Array Oper} {rest : List Oper} {o : Oper} {a : Act} {Q : Exit → Act → World → Prop}
    (hg : o.guard = none) (m x : Operand) (t k e : TypeId) (hop : o.op = Op.lookup t m x false) (ht : P.underlying t = some (.map k e)) (hk : P.underlying k = some (.int .i64)) (z : Value) (hz : (zeroValue e).run P w = .ok z w)
    (b : Nat) (l : List (Int × Value)) (hm : a.eval m = .map (some b)) (h : MapIs w b l) (key : Int) (hx : a.eval x = .int .i64 key) (val : Value) (hv : mget z key l = val)
    (hK : wpList P ops Q rest (a.put o.dst val) w) :
    wpList P ops Q (o :: rest) a w := by
  refine wpList_plain hg fun K' hK' => ?_
  unfold Oper.wp
  simp [execOp, hop, hm, hx, run_look_of h ht hk hz key, hv, Result.andThen]
  exact hK' _ _ hK
theorem Kp.put {W0 w w' : World} {b : Nat} (h : Kp W0 w) (hb : W0.heap.size ≤ b) (hg : w.grownBy w' (some b)) : Kp W0 w' :=
  .of (h.1.grown hg h.1.size fun _ hk => by cases hk; exact hb)
end Go.Proofs.YtogopcejapklgaaGreatDoor
namespace Go.Proofs.YtogopcejapklgaaGreatDoor
open Go.RowKit Go.MapKept
open Go.ChangeMaps (setBlock)

/-- An entry's key and element. -/
abbrev kvE (e : MapEntry) : Value × Value := (e.key, e.val)
abbrev kvP (p : Int × Value) : Value × Value := (.int .i64 p.1, p.2)
/-- Block b of w is a map of just these entries, each born once. -/
def MapB (w : World) (b : Nat) (l : List (Int × Value)) : Prop :=
  ∃ es clock, w.heap[b]? = some (.map es clock) ∧ es.toList.map kvE = l.map kvP ∧ (∀ x ∈ es.toList, x.born < clock) ∧ (es.toList.map (·.born)).Nodup
theorem MapB.is {w : World} {b : Nat} {l : List (Int × Value)} (h : MapB w b l) : MapIs w b l := by
  obtain ⟨es, clock, h1, h2, -⟩ := h
  exact ⟨es, clock, h1, h2⟩
theorem MapB.made (w : World) : MapB (w.alloc (.map #[] 0)) w.heap.size [] := ⟨#[], 0, (heap_alloc w _).1, rfl, by simp, by simp⟩
theorem MapB.lt {w : World} {b : Nat} {l : List (Int × Value)} (h : MapB w b l) : b < w.heap.size := h.is.lt
theorem MapB.block {w w' : World} {b : Nat} {l : List (Int × Value)} (h : MapB w b l) (hb : w'.heap[b]? = w.heap[b]?) : MapB w' b l := by
  obtain ⟨es, clock, h1, h2⟩ := h
  exact ⟨es, clock, hb.trans h1, h2⟩
theorem MapB.keep {w w' : World} {b : Nat} {l : List (Int × Value)} (h : MapB w b l) (hb : Below w.heap.size w w') : MapB w' b l := h.block (hb.block b h.lt)
theorem MapB.grown {w w' : World} {b : Nat} {l : List (Int × Value)} {r : Option Nat} (h : MapB w b l) (hg : w.grownBy w' r) (hr : r ≠ some b) : MapB w' b l := h.block (hg.block b h.lt fun e => hr e.symm)

/-- 'm[k] = v' at a new key. -/
theorem run_put_b {P : Program} {w : World} {b : Nat} {l : List (Int × Value)} {t k e : TypeId} (h : MapB w b l) (ht : P.underlying t = some (.map k e)) (hk : P.underlying k = some (.int .i64)) (x : Int) (v : Value) (hx : l.all (fun p => p.1 != x) = true) :
    ∃ w', (Instr.mapUpdate t (.map (some b)) (.int .i64 x) v).run P w = .ok () w' ∧ MapB w' b (l ++ [(x, v)]) ∧ w.grownBy w' (some b) ∧ w'.heap.size = w.heap.size := by
  obtain ⟨es, clock, hb, he, hlt, hnd⟩ := h
  have hno : Instr.findNow (.int .i64) (.int .i64 x) es.toList 0 = some none := by
    rcases find_spec x undef es.toList l 0 he with ⟨j, v, _, _, p, hp, hpx⟩ | ⟨h1, _⟩
    · have := List.all_eq_true.1 hx p hp
      simp [hpx] at this
    · exact h1
  refine ⟨{ w with heap := w.heap.setIfInBounds b (.map (es.push { key := .int .i64 x, val := v, born := clock }) (clock + 1)) }, ?_, ⟨_, _, (heap_set hb).1, ?_, ?_, ?_⟩, ⟨rfl, rfl, rfl, by simp, fun i _ hi => (heap_set hb).2 i (fun e => hi (by rw [e]))⟩, by simp⟩
  · unfold Instr.mapUpdate
    have hkey : IsKey (.int .i64) (.int .i64 x) := rfl
    simp only [Sem.run_bind, run_underlying ht, Result.andThen, Go.MapKept.run_getObj_map hb, Go.MapKept.run_checkKey hk hkey, run_findKey hk hno, Go.MapKept.run_setObj_map _ hb]
  · simp [he]
  · intro y hy
    simp at hy
    rcases hy with hy | rfl
    · have := hlt y (by simpa using hy); omega
    · simp
  · simp only [Array.toList_push, List.map_append, List.map_cons, List.map_nil]
    rw [List.nodup_append]
    refine ⟨hnd, by simp, ?_⟩
    intro a ha c hc hac
    simp at hc
    obtain ⟨y, hy, rfl⟩ := List.mem_map.1 ha
    have := hlt y hy
    omega
theorem wpList_put_b {P : Program} (w : World) {ops : Array Oper} {rest : List Oper} {o : Oper} {a : Act} {Q : Exit → Act → World → Prop}
    (hg : o.guard = none) (m x v : Operand) (t k e : TypeId) (hop : o.op = Op.insert t m x v) (ht : P.underlying t = some (.map k e)) (hk : P.underlying k = some (.int .i64))
    (b : Nat) (l : List (Int × Value)) (hm : a.eval m = .map (some b)) (h : MapB w b l) (key : Int) (hx : a.eval x = .int .i64 key) (val : Value) (hv : a.eval v = val) (hno : l.all (fun p => p.1 != key) = true)
    (hK : ∀ w', MapB w' b (l ++ [(key, val)]) → w.grownBy w' (some b) → w'.heap.size = w.heap.size → wpList P ops Q rest (a.put o.dst undef) w') :
    wpList P ops Q (o :: rest) a w := by
  refine wpList_plain hg fun K' hK' => ?_
  subst hv
  obtain ⟨w', hrun, r1, r2, r3⟩ := run_put_b h ht hk key (a.eval v) hno
  unfold Oper.wp
  simp [execOp, hop, hm, hx, hrun, Result.andThen]
  exact hK' _ _ (hK w' r1 r2 r3)

/-- Is there such a key? -/
def mhas (x : Int) (l : List (Int × Value)) : Bool := l.any fun p => p.1 == x
/-- 'v, ok := m[k]'. -/
theorem run_look_ok {P : Program} {w : World} {b : Nat} {l : List (Int × Value)} {t k e : TypeId} {z : Value} (h : MapIs w b l) (ht : P.underlying t = some (.map k e)) (hk : P.underlying k = some (.int .i64)) (hz : (zeroValue e).run P w = .ok z w) (x : Int) :
    (Instr.lookup t (.map (some b)) (.int .i64 x) true).run P w = .ok (.tuple #[mget z x l, .bool (mhas x l)]) w := by
  obtain ⟨es, clock, hb, he⟩ := h
  unfold Instr.lookup
  have hkey : IsKey (.int .i64) (.int .i64 x) := rfl
  simp only [Sem.run_bind, run_underlying ht, Result.andThen, Go.MapKept.run_getObj_map hb, Sem.run_pure, Go.MapKept.run_checkKey hk hkey]
  rcases find_spec x z es.toList l 0 he with ⟨j, v, h1, h2, p, hp, hpx⟩ | ⟨h1, h2, h3⟩
  · rw [run_findKey hk h1]
    have : mhas x l = true := List.any_eq_true.2 ⟨p, hp, by simp [hpx]⟩
    simp [h2, this]
  · rw [run_findKey hk h1]
    have : mhas x l = false := by
      unfold mhas
      rw [List.any_eq_false]
      exact fun p hp => by simpa using h3 p hp
    simp [h2, hz, this]
theorem wpList_look_ok {P : Program} (w : World) {ops : Array Oper} {rest : List Oper} {o : Oper} {a : Act} {Q : Exit → Act → World → Prop}
    (hg : o.guard = none) (m x : Operand) (t k e : TypeId) (hop : o.op = Op.lookup t m x true) (ht : P.underlying t = some (.map k e)) (hk : P.underlying k = some (.int .i64)) (z : Value) (hz : (zeroValue e).run P w = .ok z w)
    (b : Nat) (l : List (Int × Value)) (hm : a.eval m = .map (some b)) (h : MapIs w b l) (key : Int) (hx : a.eval x = .int .i64 key) (val : Value) (hv : mget z key l = val) (ok : Bool) (hok : mhas key l = ok)
    (hK : wpList P ops Q rest (a.put o.dst (.tuple #[val, .bool ok])) w) :
    wpList P ops Q (o :: rest) a w := by
  refine wpList_plain hg fun K' hK' => ?_
  unfold Oper.wp
  simp [execOp, hop, hm, hx, run_look_ok h ht hk hz key, hv, hok, Result.andThen]
  exact hK' _ _ hK

/-- The range over map b by the iterator in block r: what has come out so far is D; so many are left. -/
def Rgs (w : World) (r b : Nat) (l : List (Int × Value)) (D : Int → Prop) (cnt : Nat) : Prop :=
  ∃ es clock since seen c0, w.heap[r]? = some (.mapIter (some b) since seen c0) ∧ w.heap[b]? = some (.map es clock) ∧ es.toList.map kvE = l.map kvP ∧ (∀ x ∈ es.toList, x.born < since) ∧ (since ≤ c0 ∧ since ≤ clock) ∧ (es.toList.map (·.born)).Nodup ∧
    (∀ e ∈ es.toList, seen.contains e.born = true → ∀ x, e.key = .int .i64 x → D x) ∧ cnt = (leftOf es seen).size
theorem Rgs.lt {w : World} {r b : Nat} {l : List (Int × Value)} {D : Int → Prop} {cnt : Nat} (h : Rgs w r b l D cnt) : r < w.heap.size ∧ b < w.heap.size := by
  obtain ⟨es, clock, since, seen, c0, h1, h2, -⟩ := h
  exact ⟨(Array.getElem?_eq_some_iff.1 h1).1, (Array.getElem?_eq_some_iff.1 h2).1⟩
theorem Rgs.block {w w' : World} {r b : Nat} {l : List (Int × Value)} {D : Int → Prop} {cnt : Nat} (h : Rgs w r b l D cnt) (hr : w'.heap[r]? = w.heap[r]?) (hb : w'.heap[b]? = w.heap[b]?) : Rgs w' r b l D cnt := by
  obtain ⟨es, clock, since, seen, c0, h1, h2, h3⟩ := h
  exact ⟨es, clock, since, seen, c0, hr.trans h1, hb.trans h2, h3⟩
theorem Rgs.keep {w w' : World} {r b : Nat} {l : List (Int × Value)} {D : Int → Prop} {cnt : Nat} (h : Rgs w r b l D cnt) (hB : Below w.heap.size w w') : Rgs w' r b l D cnt := h.block (hB.block r h.lt.1) (hB.block b h.lt.2)
theorem Rgs.mono {w : World} {r b : Nat} {l : List (Int × Value)} {D E : Int → Prop} {cnt : Nat} (h : Rgs w r b l D cnt) (hD : ∀ x, D x → E x) : Rgs w r b l E cnt := by
  obtain ⟨es, clock, since, seen, c0, h1, h2, h3, h4, h5, h6, h7, h8⟩ := h
  exact ⟨es, clock, since, seen, c0, h1, h2, h3, h4, h5, h6, fun e he hs x hx => hD x (h7 e he hs x hx), h8⟩

theorem Rgs.left_eq {w : World} {r b : Nat} {l : List (Int × Value)} {D : Int → Prop} {cnt : Nat} (h : Rgs w r b l D cnt) : w.rangeLeft b r = cnt := by
  obtain ⟨es, clock, since, seen, c0, h1, h2, h3, h4, h5, h6, h7, h8⟩ := h
  unfold World.rangeLeft
  rw [h1, h2]
  exact h8.symm
/-- 'range m'. -/
theorem wpList_range_b {P : Program} (w : World) {ops : Array Oper} {rest : List Oper} {o : Oper} {a : Act} {Q : Exit → Act → World → Prop}
    (hg : o.guard = none) (m : Operand) (t : TypeId) (hop : o.op = Op.range t m) (k e : TypeId) (ht : P.underlying t = some (.map k e)) (b : Nat) (l : List (Int × Value)) (hm : a.eval m = .map (some b)) (h : MapB w b l)
    (hK : ∀ w', Rgs w' w.heap.size b l (fun _ => False) l.length → Below w.heap.size w w' → w'.heap.size = w.heap.size + 1 → wpList P ops Q rest (a.put o.dst (.pointer (some ⟨w.heap.size, 0, none⟩))) w') :
    wpList P ops Q (o :: rest) a w := by
  refine wpList_plain hg fun K' hK' => ?_
  obtain ⟨es, clock, hb, he, hlt, hnd⟩ := h
  have hrun : (Instr.range t (.map (some b))).run P w = .ok (.pointer (some ⟨w.heap.size, 0, none⟩)) (w.alloc (.mapIter (some b) clock #[] clock)) := by
    unfold Instr.range
    simp only [Sem.run_bind, run_underlying ht, Result.andThen, Go.MapKept.run_getObj_map hb, Sem.run_pure]
    rfl
  unfold Oper.wp
  simp [execOp, hop, hm, hrun, Result.andThen]
  refine hK' _ _ (hK _ ⟨es, clock, clock, #[], clock, (heap_alloc w _).1, (Below.heap_alloc _ _ _ (Array.getElem?_eq_some_iff.1 hb).1).trans hb, he, hlt, ⟨Nat.le_refl _, Nat.le_refl _⟩, hnd, by simp, ?_⟩ ((Below.refl _ _).alloc (Nat.le_refl _) _) (by simp))
  have hlen := congrArg List.length he
  simp at hlen
  have : leftOf es #[] = es := by unfold leftOf; simp
  rw [this, hlen]
/-- The range's step. -/
theorem wpList_next_b {P : Program} (w : World) {ops : Array Oper} {rest : List Oper} {o : Oper} {a : Act} {Q : Exit → Act → World → Prop}
    (hg : o.guard = none) (it : Operand) (hop : o.op = Op.next it false) (r b : Nat) (l : List (Int × Value)) (D : Int → Prop) (cnt : Nat) (hit : a.eval it = .pointer (some ⟨r, 0, none⟩)) (h : Rgs w r b l D cnt)
    (hDone : (∀ p ∈ l, D p.1) → wpList P ops Q rest (a.put o.dst (.tuple #[.bool false])) w)
    (hMore : ∀ p ∈ l, ∀ w' cnt', Rgs w' r b l (fun x => D x ∨ x = p.1) cnt' → cnt' < cnt → w.grownBy w' (some r) → w'.heap.size = w.heap.size → (Instr.entry (.pointer (some ⟨r, 0, none⟩))).run P w' = .ok (.tuple #[.int .i64 p.1, p.2]) w' →
      wpList P ops Q rest (a.put o.dst (.tuple #[.bool true, .int .i64 p.1, p.2])) w') :
    wpList P ops Q (o :: rest) a w := by
  refine wpList_plain hg fun K' hK' => ?_
  obtain ⟨es, clock, since, seen, c0, hr, hb, he, hold, ⟨hsc, hscl⟩, hnd, hD, hcnt⟩ := h
  have hrb : r ≠ b := by
    rintro rfl
    rw [hr] at hb
    cases hb
  unfold Oper.wp
  rcases run_next_at (P := P) w o.type r b since c0 seen es clock hr hb hold hsc with ⟨h0, hrun⟩ | ⟨e, hel, w1, hw1, hrun⟩
  · simp [execOp, hop, hit, hrun, Result.andThen]
    refine hK' _ _ (hDone fun p hp => ?_)
    have hall := all_seen es seen h0
    obtain ⟨e, hem, hek⟩ : ∃ e ∈ es.toList, kvE e = kvP p := by
      have : kvP p ∈ es.toList.map kvE := by rw [he]; exact List.mem_map_of_mem hp
      obtain ⟨e, h1, h2⟩ := List.mem_map.1 this
      exact ⟨e, h1, h2⟩
    exact hD e hem (hall e hem) p.1 (by simpa using congrArg Prod.fst hek)
  · obtain ⟨hem, hns⟩ := mem_left hel
    obtain ⟨p, hp, hek⟩ : ∃ p ∈ l, kvP p = kvE e := by
      have : kvE e ∈ l.map kvP := by rw [← he]; exact List.mem_map_of_mem hem
      obtain ⟨p, h1, h2⟩ := List.mem_map.1 this
      exact ⟨p, h1, h2⟩
    have hk1 : e.key = .int .i64 p.1 := (congrArg Prod.fst hek).symm
    have hk2 : e.val = p.2 := (congrArg Prod.snd hek).symm
    have hh : w1.heap = w.heap := by rcases hw1 with rfl | rfl <;> rfl
    have hr1 : w1.heap[r]? = some (.mapIter (some b) since seen c0) := by rw [hh]; exact hr
    have hsr : (setBlock w1 r (.mapIter (some b) since (seen.push e.born) clock)).heap[r]? = some (.mapIter (some b) since (seen.push e.born) clock) := by
      have := (heap_set (o' := .mapIter (some b) since (seen.push e.born) clock) hr1).1
      simpa [setBlock] using this
    have hsb : (setBlock w1 r (.mapIter (some b) since (seen.push e.born) clock)).heap[b]? = some (.map es clock) := by
      have := (heap_set (o' := .mapIter (some b) since (seen.push e.born) clock) hr1).2 b (fun e => hrb e.symm)
      simpa [setBlock, hh, hb] using this
    simp [execOp, hop, hit, hrun, Result.andThen]
    rw [hk1, hk2]
    refine hK' _ _ (hMore p hp _ _ ⟨es, clock, since, seen.push e.born, clock, hsr, hsb, he, hold, ⟨hscl, hscl⟩, hnd, ?_, rfl⟩ ?_ ⟨?_, ?_, ?_, ?_, ?_⟩ ?_ ?_)
    · intro y hy hs x hx
      by_cases hye : y.born = e.born
      · right
        have : y = e := by
          have h1 := find_born y es.toList hnd hy
          have h2 := find_born e es.toList hnd hem
          rw [hye, h2] at h1
          cases h1
          rfl
        subst this
        rw [hk1] at hx
        cases hx
        rfl
      · left
        refine hD y hy ?_ x hx
        simpa [hye] using hs
    · rw [hcnt]; exact left_shrinks es seen e hel
    · rcases hw1 with rfl | rfl <;> rfl
    · rcases hw1 with rfl | rfl <;> rfl
    · rcases hw1 with rfl | rfl <;> rfl
    · simp [setBlock, hh]
    · intro i hi hir
      have := (heap_set (o' := .mapIter (some b) since (seen.push e.born) clock) hr1).2 i (fun e => hir (by rw [e]))
      simpa [setBlock, hh] using this
    · simp [setBlock, hh]
    · rw [← hk1, ← hk2]
      exact run_entry_at _ r b since seen es clock e hsr hsb hem hnd
end Go.Proofs.YtogopcejapklgaaGreatDoor
namespace Go.Proofs.YtogopcejapklgaaGreatDoor
open Go.RowKit

def ByIn (w : World) (S : Nat → Prop) (a : Option Addr) (n cap : Nat) (cs : List Nat) : Prop :=
  n = cs.length ∧ (∀ c ∈ cs, c < 256) ∧ Sl w S 1 a cs.length cap (fun i => [.int .u8 ((cs[i]?.getD 0 : Nat) : Int)])
namespace ByIn
variable {w w' : World} {S S' : Nat → Prop} {a : Option Addr} {n cap : Nat} {cs : List Nat}
theorem keep (h : ByIn w S a n cap cs) (hk : ∀ b o, S b → w'.cell? ⟨b, o, none⟩ = w.cell? ⟨b, o, none⟩) : ByIn w' S a n cap cs := ⟨h.1, h.2.1, h.2.2.keep hk⟩
theorem widen (h : ByIn w S a n cap cs) (hS : ∀ b, S b → S' b) : ByIn w S' a n cap cs := ⟨h.1, h.2.1, h.2.2.widen hS⟩
theorem at_ (h : ByIn w S a n cap cs) (i : Nat) (hi : i < cs.length) : ∃ b off, a = some ⟨b, off, none⟩ ∧ S b ∧ w.cell? ⟨b, off + i, none⟩ = some (.int .u8 (cs[i] : Nat)) := by
  obtain ⟨b, off, rfl, hb, hc⟩ := h.2.2.at_ (by omega)
  refine ⟨b, off, rfl, hb, ?_⟩
  have := hc i hi 0 (by omega)
  simpa [hi] using this
end ByIn
theorem Kp.bytes {W0 w : World} (h : Kp W0 w) {a : Option Addr} {n cap : Nat} {cs : List Nat} (hx : ByIn W0 (In_ W0) a n cap cs) : ByIn w (In_ w) a n cap cs := (hx.keep fun b o hb => h.2 b o hb).widen (In_.mono h.1.size)
end Go.Proofs.YtogopcejapklgaaGreatDoor
namespace Go.Proofs.YtogopcejapklgaaGreatDoor
open Go

section
variable {P : Program} {l : List Oper} {Q : Exit → Act → World → Prop} {md : Region.Mode} {S : World → Prop}
theorem takeL {i : Nat} {oi : Oper} {v : Value} {fuel : Nat} {listed : Array Bool} {a : Act} {w : World} (hi : l[i]? = some oi)
    (hs : Region.noSelect l.toArray = true) (hf : Region.free md l.toArray listed i = true) (hr : (Region.ready md l.toArray listed).contains i = true)
    (hQ : ∀ c a w, Q (.panic c) (a.put oi.dst v) w → Q (.panic c) a w) (hy : YieldsIf P l.toArray S oi v a) (hS : S w)
    (h : wpAnyH P md l.toArray Q S fuel (listed.setIfInBounds i true) (a.put oi.dst v) w) : wpAnyH P md l.toArray Q S (fuel + 1) listed a w :=
  wpAnyH_take (by simpa using hi) hs hf hr hQ hy hS h
/-- The one operation that may come up. -/
theorem callL {fuel : Nat} {listed : Array Bool} {a : Act} {w : World} {i : Nat} {o : Oper} (hr : Region.ready md l.toArray listed = [i]) (ho : l[i]? = some o)
    (h : ∀ K' : Act → World → Prop, Shut (∀ a w, S w → (S w → wpAnyH P md l.toArray Q S fuel (listed.setIfInBounds i true) a w) → K' a w) → if Region.wanted o (yielded l.toArray a.tmps) = true then Oper.wp P o a w K' Q else K' (a.put o.dst undef) w) :
    wpAnyH P md l.toArray Q S (fuel + 1) listed a w :=
  wpAnyH_ready (rs := [i]) hr (by simp) (AllReadyH.cons (by simpa using ho) h AllReadyH.nil)
/-- Two operations may come up. -/
theorem callL2 {fuel : Nat} {listed : Array Bool} {a : Act} {w : World} {i j : Nat} {oi oj : Oper} (hr : Region.ready md l.toArray listed = [i, j]) (hi : l[i]? = some oi) (hj : l[j]? = some oj)
    (h1 : ∀ K' : Act → World → Prop, Shut (∀ a w, S w → (S w → wpAnyH P md l.toArray Q S fuel (listed.setIfInBounds i true) a w) → K' a w) → if Region.wanted oi (yielded l.toArray a.tmps) = true then Oper.wp P oi a w K' Q else K' (a.put oi.dst undef) w)
    (h2 : ∀ K' : Act → World → Prop, Shut (∀ a w, S w → (S w → wpAnyH P md l.toArray Q S fuel (listed.setIfInBounds j true) a w) → K' a w) → if Region.wanted oj (yielded l.toArray a.tmps) = true then Oper.wp P oj a w K' Q else K' (a.put oj.dst undef) w) :
    wpAnyH P md l.toArray Q S (fuel + 1) listed a w :=
  wpAnyH_ready (rs := [i, j]) hr (by simp) (AllReadyH.cons (by simpa using hi) h1 (AllReadyH.cons (by simpa using hj) h2 AllReadyH.nil))
end
end Go.Proofs.YtogopcejapklgaaGreatDoor
