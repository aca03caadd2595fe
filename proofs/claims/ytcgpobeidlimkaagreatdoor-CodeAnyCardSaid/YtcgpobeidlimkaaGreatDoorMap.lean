/- Maps from integers that a call makes, entry by entry. No program in sight. -/
import Derived.Test.YtcgpobeidlimkaaGreatDoorMem
import Derived.Maps.OwnOps
namespace Go.Proofs.YtcgpobeidlimkaaGreatDoor
open Go.RowKit Go.MapKept

/-- Block b of w is a map of just these entries. -/
def MapIs (w : World) (b : Nat) (l : List (Int × Value)) : Prop :=
  ∃ es clock, w.heap[b]? = some (.map es clock) ∧ es.toList.map (fun e => (e.key, e.val)) = l.map (fun p => (Value.int .i64 p.1, p.2))
/-- What lies at a key. -/
def mget (z : Value) (x : Int) : List (Int × Value) → Value
  | [] => z
  | p :: r => if x = p.1 then p.2 else mget z x r

theorem MapIs.made (w : World) : MapIs (w.alloc (.map #[] 0)) w.heap.size [] := ⟨#[], 0, (heap_alloc w _).1, rfl⟩
theorem MapIs.lt {w : World} {b : Nat} {l : List (Int × Value)} (h : MapIs w b l) : b < w.heap.size := by
  obtain ⟨es, clock, hb, _⟩ := h
  exact (Array.getElem?_eq_some_iff.1 hb).1
theorem MapIs.keep {w w' : World} {b : Nat} {l : List (Int × Value)} (h : MapIs w b l) (hb : Below w.heap.size w w') : MapIs w' b l := by
  have hlt := h.lt
  obtain ⟨es, clock, h1, h2⟩ := h
  exact ⟨es, clock, (hb.block b hlt).trans h1, h2⟩
theorem MapIs.drew {w : World} {b : Nat} {l : List (Int × Value)} (h : MapIs w b l) : MapIs w.drew b l := h

theorem find_spec (x : Int) (z : Value) : ∀ (es : List MapEntry) (l : List (Int × Value)) (i : Nat), es.map (fun e => (e.key, e.val)) = l.map (fun p => (Value.int .i64 p.1, p.2)) →
    (∃ j v, Instr.findNow (.int .i64) (.int .i64 x) es i = some (some (j, v)) ∧ mget z x l = v ∧ ∃ p ∈ l, p.1 = x) ∨ (Instr.findNow (.int .i64) (.int .i64 x) es i = some none ∧ mget z x l = z ∧ ∀ p ∈ l, p.1 ≠ x)
  | [], [], _, _ => .inr ⟨rfl, rfl, by simp⟩
  | [], p :: l, _, h => by simp at h
  | e :: es, [], _, h => by simp at h
  | e :: es, p :: l, i, h => by
    simp only [List.map_cons, List.cons.injEq, Prod.mk.injEq] at h
    obtain ⟨⟨hk, hv⟩, ht⟩ := h
    unfold Instr.findNow mget
    rw [hk]
    by_cases hx : x = p.1
    · left
      refine ⟨i, e.val, by simp [Instr.sameNow, hx], by rw [if_pos hx, hv], p, by simp, hx.symm⟩
    · have hn : Instr.sameNow (.int .i64) (.int .i64 x) (.int .i64 p.1) = some false := by simp [Instr.sameNow, hx]
      rw [hn, if_neg hx]
      rcases find_spec x z es l (i + 1) ht with ⟨j, v, h1, h2, q, hq, hq2⟩ | ⟨h1, h2, h3⟩
      · exact .inl ⟨j, v, h1, h2, q, by simp [hq], hq2⟩
      · refine .inr ⟨h1, h2, fun q hq => ?_⟩
        rcases List.mem_cons.1 hq with rfl | hq
        · exact fun h => hx h.symm
        · exact h3 q hq

/-- 'm[k]'. -/
theorem run_look_of {P : Program} {w : World} {b : Nat} {l : List (Int × Value)} {t k e : TypeId} {z : Value} (h : MapIs w b l) (ht : P.underlying t = some (.map k e)) (hk : P.underlying k = some (.int .i64)) (hz : (zeroValue e).run P w = .ok z w) (x : Int) :
    (Instr.lookup t (.map (some b)) (.int .i64 x) false).run P w = .ok (mget z x l) w := by
  obtain ⟨es, clock, hb, he⟩ := h
  unfold Instr.lookup
  have hkey : IsKey (.int .i64) (.int .i64 x) := rfl
  simp only [Sem.run_bind, run_underlying ht, Result.andThen, Go.MapKept.run_getObj_map hb, Sem.run_pure, Go.MapKept.run_checkKey hk hkey]
  rcases find_spec x z es.toList l 0 he with ⟨j, v, h1, h2, _⟩ | ⟨h1, h2, _⟩
  · rw [run_findKey hk h1]
    simp [h2]
  · rw [run_findKey hk h1]
    simp [h2, hz]

/-- 'm[k] = v' at a new key. -/
theorem run_put_of {P : Program} {w : World} {b : Nat} {l : List (Int × Value)} {t k e : TypeId} (h : MapIs w b l) (ht : P.underlying t = some (.map k e)) (hk : P.underlying k = some (.int .i64)) (x : Int) (v : Value) (hx : l.all (fun p => p.1 != x) = true) :
    ∃ w', (Instr.mapUpdate t (.map (some b)) (.int .i64 x) v).run P w = .ok () w' ∧ MapIs w' b (l ++ [(x, v)]) ∧ w.grownBy w' (some b) := by
  obtain ⟨es, clock, hb, he⟩ := h
  have hno : Instr.findNow (.int .i64) (.int .i64 x) es.toList 0 = some none := by
    rcases find_spec x undef es.toList l 0 he with ⟨j, v, _, _, p, hp, hpx⟩ | ⟨h1, _⟩
    · have := List.all_eq_true.1 hx p hp
      simp [hpx] at this
    · exact h1
  refine ⟨{ w with heap := w.heap.setIfInBounds b (.map (es.push { key := .int .i64 x, val := v, born := clock }) (clock + 1)) }, ?_, ⟨_, _, (heap_set hb).1, ?_⟩, ⟨rfl, rfl, rfl, by simp, fun i _ hi => (heap_set hb).2 i (fun e => hi (by rw [e]))⟩⟩
  · unfold Instr.mapUpdate
    have hkey : IsKey (.int .i64) (.int .i64 x) := rfl
    simp only [Sem.run_bind, run_underlying ht, Result.andThen, Go.MapKept.run_getObj_map hb, Go.MapKept.run_checkKey hk hkey, run_findKey hk hno, Go.MapKept.run_setObj_map _ hb]
  · simp [he]

/-- .. as a step of the walk. -/
theorem wpList_put_of {P : Program} (w : World) {ops : Array Oper} {rest : List Oper} {o : Oper} {a : Act} {Q : Exit → Act → World → Prop}
    (hg : o.guard = none) (m x v : Operand) (t k e : TypeId) (hop : o.op = Op.insert t m x v) (ht : P.underlying t = some (.map k e)) (hk : P.underlying k = some (.int .i64))
    (b : Nat) (l : List (Int × Value)) (hm : a.eval m = .map (some b)) (h : MapIs w b l) (key : Int) (hx : a.eval x = .int .i64 key) (val : Value) (hv : a.eval v = val) (hno : l.all (fun p => p.1 != key) = true)
    (hK : ∀ w', MapIs w' b (l ++ [(key, val)]) → w.grownBy w' (some b) → wpList P ops Q rest (a.put o.dst undef) w') :
    wpList P ops Q (o :: rest) a w := by
  refine wpList_plain hg fun K' hK' => ?_
  subst hv
  obtain ⟨w', hrun, r1, r2⟩ := run_put_of h ht hk key (a.eval v) hno
  unfold Oper.wp
  simp [execOp, hop, hm, hx, hrun, Result.andThen]
  exact hK' _ _ (hK w' r1 r2)
/-- 'm[k]' as a step of the walk. -/
theorem wpList_look_of {P : Program} (w : World) {ops : Array Oper} {rest : List Oper} {o : Oper} {a : Act} {Q : Exit → Act → World → Prop}
    (hg : o.guard = none) (m x : Operand) (t k e : TypeId) (hop : o.op = Op.lookup t m x false) (ht : P.underlying t = some (.map k e)) (hk : P.underlying k = some (.int .i64)) (z : Value) (hz : (zeroValue e).run P w = .ok z w)
    (b : Nat) (l : List (Int × Value)) (hm : a.eval m = .map (some b)) (h : MapIs w b l) (key : Int) (hx : a.eval x = .int .i64 key) (val : Value) (hv : mget z key l = val)
    (hK : wpList P ops Q rest (a.put o.dst val) w) :
    wpList P ops Q (o :: rest) a w := by
  refine wpList_plain hg fun K' hK' => ?_
  unfold Oper.wp
  simp [execOp, hop, hm, hx, run_look_of h ht hk hz key, hv, Result.andThen]
  exact hK' _ _ hK
theorem Kp.put {W0 w w' : World} {b : Nat} (h : Kp W0 w) (hb : W0.heap.size ≤ b) (hg : w.grownBy w' (some b)) : Kp W0 w' :=
  .of (h.1.grown hg h.1.size fun _ hk => by cases hk; exact hb)
end Go.Proofs.YtcgpobeidlimkaaGreatDoor
