/- Steps for maps in drawn regions; an atom in a box. -/
import Derived.Test.YtogopcejapklgaaGreatDoorLgF
import Derived.Test.YtogopcejapklgaaGreatDoorPrI
namespace Go.Proofs.YtogopcejapklgaaGreatDoor
open Go.RowKit

/-- 'v, ok := m[k]' as a step of a region. -/
theorem step_look_ok {P : Program} {w : World} {ops : Array Oper} {o : Oper} {a : Act} {K : Act → World → Prop} {Q : Exit → Act → World → Prop} {E : Prop}
    (hgd : o.guard = none) (m x : Operand) (t k e : TypeId) (hop : o.op = Op.lookup t m x true) (ht : P.underlying t = some (.map k e)) (hk : P.underlying k = some (.int .i64)) (z : Value) (hz : ∀ w, (zeroValue e).run P w = .ok z w)
    (b : Nat) (l : List (Int × Value)) (hm : a.eval m = .map (some b)) (h : MapB w b l) (key : Int) (hx : a.eval x = .int .i64 key) (val : Value) (hv : mget z key l = val) (ok : Bool) (hok : mhas key l = ok)
    (hK : K (a.put o.dst (.tuple #[val, .bool ok])) w) : if Region.wanted o (yielded ops a.tmps) = true then Oper.wp P o a w K Q else E := by
  have hw : Region.wanted o (yielded ops a.tmps) = true := by simp [Region.wanted, hgd]
  rw [if_pos hw]
  unfold Oper.wp
  simp [execOp, hop, hm, hx, run_look_ok h.is ht hk (hz w) key, hv, hok, Result.andThen]
  exact hK
/-- 'm[k]' as a step of a region. -/
theorem step_look {P : Program} {w : World} {ops : Array Oper} {o : Oper} {a : Act} {K : Act → World → Prop} {Q : Exit → Act → World → Prop} {E : Prop}
    (hgd : o.guard = none) (m x : Operand) (t k e : TypeId) (hop : o.op = Op.lookup t m x false) (ht : P.underlying t = some (.map k e)) (hk : P.underlying k = some (.int .i64)) (z : Value) (hz : ∀ w, (zeroValue e).run P w = .ok z w)
    (b : Nat) (l : List (Int × Value)) (hm : a.eval m = .map (some b)) (h : MapB w b l) (key : Int) (hx : a.eval x = .int .i64 key) (val : Value) (hv : mget z key l = val)
    (hK : K (a.put o.dst val) w) : if Region.wanted o (yielded ops a.tmps) = true then Oper.wp P o a w K Q else E := by
  have hw : Region.wanted o (yielded ops a.tmps) = true := by simp [Region.wanted, hgd]
  rw [if_pos hw]
  unfold Oper.wp
  simp [execOp, hop, hm, hx, run_look_of h.is ht hk (hz w) key, hv, Result.andThen]
  exact hK
def shpZ : Value := .agg #[.string ⟨#[]⟩, .nilFunc]
def frmZ : Value := .agg #[.string ⟨#[]⟩, .int .i64 0]
theorem shp_zero (w : World) : (zeroValue 81).run Tryz.prog w = .ok shpZ w := by kernel_rfl
theorem frm_zero (w : World) : (zeroValue 89).run Tryz.prog w = .ok frmZ w := by kernel_rfl
/-- The addresses of an atom's numbers. -/
theorem nums_any {k : Int} (hk : isShp k) (B o : Nat) (w : World) : Calls Tryz.prog (shpFn k) #[.pointer (some ⟨B, o, none⟩)] w (NmPost k B o w) := by
  rcases hk with rfl | rfl | rfl | rfl | rfl | rfl
  · exact nums_2 B o w
  · exact nums_3 B o w
  · exact nums_4 B o w
  · exact nums_1 B o 4 (by omega) w
  · exact nums_5 B o w
  · exact nums_1 B o 6 (by omega) w

/-- An atom's four cells, as a block. -/
def prO (p : Pr) : Obj := .cells #[.int .i64 p.k, .int .i64 p.t, .int .i64 p.a, .int .i64 p.n] 27 (0, 0)
theorem prO_cells {w : World} {B : Nat} {p : Pr} (h : w.heap[B]? = some (prO p)) : B < w.heap.size ∧ (∀ o, w.frozen? ⟨B, o, none⟩ = false) ∧ w.cell? ⟨B, 0, none⟩ = some (.int .i64 p.k) ∧ w.cell? ⟨B, 1, none⟩ = some (.int .i64 p.t) ∧ w.cell? ⟨B, 2, none⟩ = some (.int .i64 p.a) ∧ w.cell? ⟨B, 3, none⟩ = some (.int .i64 p.n) := by
  refine ⟨(Array.getElem?_eq_some_iff.1 h).1, fun o => ?_, ?_, ?_, ?_, ?_⟩
  all_goals simp [World.frozen?, World.cell?, h, prO]
theorem prO_get {w : World} {B : Nat} {p : Pr} (h : w.heap[B]? = some (prO p)) {i : Nat} (hi : 1 ≤ i ∧ i ≤ 3) : w.cell? ⟨B, i, none⟩ = some (.int .i64 (p.get i)) := by
  obtain ⟨-, -, h0, h1, h2, h3⟩ := prO_cells h
  have : i = 1 ∨ i = 2 ∨ i = 3 := by omega
  rcases this with rfl | rfl | rfl
  · exact h1
  · exact h2
  · exact h3
theorem prO_put {w : World} {B : Nat} {p : Pr} {i : Nat} (hi : 1 ≤ i ∧ i ≤ 3) (h : w.heap[B]? = some (prO p)) (n : Int) : (w.setCell ⟨B, i, none⟩ (.int .i64 n)).heap[B]? = some (prO (p.put i n)) := by
  have : i = 1 ∨ i = 2 ∨ i = 3 := by omega
  rcases this with rfl | rfl | rfl <;> simp [World.setCell, Array.getElem?_modify, h, prO, Pr.put]
end Go.Proofs.YtogopcejapklgaaGreatDoor
