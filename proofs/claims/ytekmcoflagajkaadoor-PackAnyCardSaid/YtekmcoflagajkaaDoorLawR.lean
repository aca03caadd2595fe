/- A state: opened; the four arguments. -/
import Derived.Test.YtekmcoflagajkaaDoorLawQ
namespace Go.Proofs.YtekmcoflagajkaaDoor
open Go.ChangeShapes Go.WideShapes Go.ChangeAt Go.RowKit

section
variable {H : Type} {enc : TypeId × Value → H} {W : World} {held : Bool}

set_option maxRecDepth 100000 in
theorem entry_open {fuel : Nat} {cs : List Value} {x : DataW H × List MemPlace} (h : DataW.trod enc Tryd.prog W 0 (fun _ => true) held fuel 67 cs = some x) (hw : Near Tryd.prog 67 x.1) : ∃ y : Int × Int, cs = enC y := by
  obtain ⟨n, hn, hlen, hf⟩ := field_open Tryd.underlying67 h hw
  rw [cellsEn] at hlen
  obtain ⟨c0, c1, rfl⟩ := list_two hlen
  obtain ⟨y0, h0, -⟩ := hf 0 _ rfl
  obtain ⟨y1, h1, -⟩ := hf 1 _ rfl
  have h0 : DataW.trod enc Tryd.prog W 0 (fun _ => true) held n 3 (([c0, c1].drop 0).take (Tryd.prog.cellsOf 3)) = some y0 := h0
  have h1 : DataW.trod enc Tryd.prog W 0 (fun _ => true) held n 3 (([c0, c1].drop 1).take (Tryd.prog.cellsOf 3)) = some y1 := h1
  rw [cellsInt] at h0 h1
  simp only [List.drop_succ_cons, List.drop_zero, List.take_succ_cons, List.take_zero] at h0 h1
  obtain ⟨p, rfl, -⟩ := int_cell Tryd.underlying3 h0
  obtain ⟨q, rfl, -⟩ := int_cell Tryd.underlying3 h1
  exact ⟨(p, q), rfl⟩

theorem buf_open {fuel : Nat} {v : Value} {x : DataW H × List MemPlace} (h : DataW.trod enc Tryd.prog W 0 (fun _ => true) held fuel 49 [v] = some x) (hw : Near Tryd.prog 49 x.1) :
    ∃ a cap l, v = .slice a (List.length l) cap ∧ EnIn W (In_ W) a (List.length l) cap l ∧ l.length ≤ 140737488355328 := by
  obtain ⟨a, len, cap, C, f', rfl, hs, hr, -, hy⟩ := sl_open Tryd.underlying49 cellsEn (by omega) h hw
  rw [bytesEn] at hr
  unfold reachBytes at hr
  have key : ∀ i, i < len → ∃ y : Int × Int, C i = enC y := fun i hi => by
    obtain ⟨_, y, hy, wy⟩ := hy i hi
    exact entry_open hy wy
  classical
  let l : List (Int × Int) := (List.range len).map fun i => if hi : i < len then Classical.choose (key i hi) else (0, 0)
  have hl : l.length = len := by simp [l]
  have he : ∀ i (hi : i < len), l[i]?.getD (0, 0) = Classical.choose (key i hi) := fun i hi => by simp [l, hi]
  refine ⟨a, cap, l, by rw [hl], ⟨rfl, ?_⟩, by omega⟩
  rw [hl]
  refine ⟨hs.le, hs.mx, fun h0 => ?_⟩
  obtain ⟨b, off, e, hb, hc⟩ := hs.at_ h0
  refine ⟨b, off, e, hb, fun i hi j hj => ?_⟩
  rw [hc i hi j hj, Classical.choose_spec (key i hi), he i hi]

theorem ints_open {fuel : Nat} {v : Value} {x : DataW H × List MemPlace} (h : DataW.trod enc Tryd.prog W 0 (fun _ => true) held fuel 28 [v] = some x) (hw : Near Tryd.prog 28 x.1) :
    ∃ a n cap l, v = .slice a n cap ∧ IntIn W (In_ W) a n cap l ∧ l.length ≤ 140737488355328 := by
  obtain ⟨a, len, cap, C, f', rfl, hs, hr, -, hy⟩ := sl_open Tryd.underlying28 cellsInt (by omega) h hw
  rw [bytesInt] at hr
  unfold reachBytes at hr
  have key : ∀ i, i < len → ∃ y : Int, C i = [.int .i64 y] := fun i hi => by
    obtain ⟨hc, y, hy, wy⟩ := hy i hi
    obtain ⟨c, hc⟩ := List.length_eq_one_iff.1 hc
    rw [hc] at hy
    obtain ⟨n, rfl, -⟩ := int_cell Tryd.underlying3 hy
    exact ⟨n, hc⟩
  classical
  let l : List Int := (List.range len).map fun i => if hi : i < len then Classical.choose (key i hi) else 0
  have hl : l.length = len := by simp [l]
  have he : ∀ i (hi : i < len), l[i]?.getD 0 = Classical.choose (key i hi) := fun i hi => by simp [l, hi]
  refine ⟨a, len, cap, l, rfl, ⟨hl.symm, ?_⟩, by omega⟩
  rw [hl]
  refine ⟨hs.le, hs.mx, fun h0 => ?_⟩
  obtain ⟨b, off, e, hb, hc⟩ := hs.at_ h0
  refine ⟨b, off, e, hb, fun i hi j hj => ?_⟩
  rw [hc i hi j hj, Classical.choose_spec (key i hi)]
  show _ = [Value.int .i64 (l[i]?.getD 0)][j]?
  rw [he i hi]

set_option maxRecDepth 100000 in
theorem four_open {fuel : Nat} {c0 c1 c2 c3 : Value} {x : DataW H × List MemPlace} (h : DataW.trod enc Tryd.prog W 0 (fun _ => true) held fuel 48 [c0, c1, c2, c3] = some x) :
    ∃ r0 r1 r2 r3 : Int, c0 = .int .i64 r0 ∧ c1 = .int .i64 r1 ∧ c2 = .int .i64 r2 ∧ c3 = .int .i64 r3 := by
  obtain ⟨xs, m, rfl, _, _, hx, hi⟩ := DataW.trod_array Tryd.underlying48 h
  rw [cellsInt] at hi
  have h0 := hi 0 (by omega)
  have h1 := hi 1 (by omega)
  have h2 := hi 2 (by omega)
  have h3 := hi 3 (by omega)
  rw [List.getElem?_eq_getElem (by omega)] at h0 h1 h2 h3
  simp only [Nat.mul_one, List.drop_succ_cons, List.drop_zero, List.take_succ_cons, List.take_zero] at h0 h1 h2 h3
  obtain ⟨r0, e0, -⟩ := int_cell Tryd.underlying3 h0
  obtain ⟨r1, e1, -⟩ := int_cell Tryd.underlying3 h1
  obtain ⟨r2, e2, -⟩ := int_cell Tryd.underlying3 h2
  obtain ⟨r3, e3, -⟩ := int_cell Tryd.underlying3 h3
  exact ⟨r0, r1, r2, r3, e0, e1, e2, e3⟩

set_option maxRecDepth 100000 in
theorem thr_open {fuel : Nat} {cs : List Value} {x : DataW H × List MemPlace} (h : DataW.trod enc Tryd.prog W 0 (fun _ => true) held fuel 51 cs = some x) (hw : Near Tryd.prog 51 x.1) :
    ∃ (y : Thr) (a : Option Addr) (k : Nat), cs = y.cells a k ∧ EnIn W (In_ W) a y.buf.length k y.buf ∧ y.buf.length ≤ 140737488355328 := by
  obtain ⟨n, hn, hlen, hf⟩ := field_open Tryd.underlying51 h hw
  rw [cellsTh] at hlen
  obtain ⟨c0, c1, c2, c3, c4, c5, rfl⟩ := list_six hlen
  obtain ⟨y0, h0, -⟩ := hf 0 _ rfl
  obtain ⟨y1, h1, -⟩ := hf 1 _ rfl
  obtain ⟨y2, h2, w2⟩ := hf 2 _ rfl
  have h0 : DataW.trod enc Tryd.prog W 0 (fun _ => true) held n 3 (([c0, c1, c2, c3, c4, c5].drop 0).take (Tryd.prog.cellsOf 3)) = some y0 := h0
  have h1 : DataW.trod enc Tryd.prog W 0 (fun _ => true) held n 48 (([c0, c1, c2, c3, c4, c5].drop 1).take (Tryd.prog.cellsOf 48)) = some y1 := h1
  have h2 : DataW.trod enc Tryd.prog W 0 (fun _ => true) held n 49 (([c0, c1, c2, c3, c4, c5].drop 5).take (Tryd.prog.cellsOf 49)) = some y2 := h2
  rw [cellsInt] at h0
  rw [cellsFour] at h1
  rw [cellsEns] at h2
  simp only [List.drop_succ_cons, List.drop_zero, List.take_succ_cons, List.take_zero] at h0 h1 h2
  obtain ⟨p, rfl, -⟩ := int_cell Tryd.underlying3 h0
  obtain ⟨r0, r1, r2, r3, rfl, rfl, rfl, rfl⟩ := four_open h1
  obtain ⟨a, k, l, rfl, hl, hm⟩ := buf_open h2 w2
  exact ⟨⟨p, r0, r1, r2, r3, l⟩, a, k, rfl, hl, hm⟩

set_option maxRecDepth 100000 in
theorem thrs_open {fuel : Nat} {v : Value} {x : DataW H × List MemPlace} (h : DataW.trod enc Tryd.prog W 0 (fun _ => true) held fuel 27 [v] = some x) (hw : Near Tryd.prog 27 x.1) :
    ∃ a n cap l, v = .slice a n cap ∧ ThrIn W (In_ W) a n cap l ∧ l.length ≤ 140737488355328 ∧ ∀ y ∈ l, y.buf.length ≤ 140737488355328 := by
  obtain ⟨a, len, cap, C, f', rfl, hs, hr, -, hy⟩ := sl_open Tryd.underlying27 cellsTh (by omega) h hw
  rw [bytesTh] at hr
  unfold reachBytes at hr
  have key : ∀ i, i < len → ∃ r : Thr × Option Addr × Nat, C i = r.1.cells r.2.1 r.2.2 ∧ EnIn W (In_ W) r.2.1 r.1.buf.length r.2.2 r.1.buf ∧ r.1.buf.length ≤ 140737488355328 := fun i hi => by
    obtain ⟨_, y, hy, wy⟩ := hy i hi
    obtain ⟨z, a, k, h1, h2, h3⟩ := thr_open hy wy
    exact ⟨(z, a, k), h1, h2, h3⟩
  classical
  let R : Nat → Thr × Option Addr × Nat := fun i => if hi : i < len then Classical.choose (key i hi) else (.zero, none, 0)
  have hR : ∀ i (hi : i < len), R i = Classical.choose (key i hi) := fun i hi => by simp [R, hi]
  let l : List Thr := (List.range len).map fun i => (R i).1
  have hl : l.length = len := by simp [l]
  have he : ∀ i (hi : i < l.length), l[i] = (R i).1 := fun i hi => by simp [l]
  have hk : ∀ i (hi : i < len), C i = (R i).1.cells (R i).2.1 (R i).2.2 ∧ EnIn W (In_ W) (R i).2.1 (R i).1.buf.length (R i).2.2 (R i).1.buf ∧ (R i).1.buf.length ≤ 140737488355328 := fun i hi => by
    rw [hR i hi]
    exact Classical.choose_spec (key i hi)
  refine ⟨a, len, cap, l, rfl, ⟨hl.symm, fun i => (R i).2.1, fun i => (R i).2.2, ?_, fun i hi => ?_⟩, by omega, fun y hm => ?_⟩
  · rw [hl]
    refine ⟨hs.le, hs.mx, fun h0 => ?_⟩
    obtain ⟨b, off, e, hb, hc⟩ := hs.at_ h0
    refine ⟨b, off, e, hb, fun i hi j hj => ?_⟩
    have e2 : l[i]?.getD .zero = (R i).1 := by rw [List.getElem?_eq_getElem (by omega), Option.getD_some, he i (by omega)]
    rw [hc i hi j hj, (hk i hi).1]
    show _ = ((l[i]?.getD .zero).cells (R i).2.1 (R i).2.2)[j]?
    rw [e2]
  · rw [he i hi]
    exact (hk i (by omega)).2.1
  · obtain ⟨i, hi, rfl⟩ := List.getElem_of_mem hm
    rw [he i hi]
    exact (hk i (by omega)).2.2

set_option maxRecDepth 100000 in
/-- Code, as an argument. -/
theorem code_arg {r : Reach} {base : Nat} {v : Value} {d : DataW H} {p : List MemPlace} (hv : Value.okWide Tryd.prog W r base 24 v) (h : DataW.Trod enc Tryd.prog W 0 (fun _ => true) true 24 v d p) (hw : Near Tryd.prog 24 d) :
    ∃ (vars dom : Int) (a : Option Addr) (n cap : Nat) (t : List (List Ins)), v = .agg #[.int .i64 vars, .int .i64 dom, .slice a n cap] ∧ (Lit.int .i64 vars).wf = true ∧ ThsIn W (In_ W) a n cap t ∧ t.length ≤ 140737488355328 ∧
      ∀ l ∈ t, l.length ≤ 140737488355328 ∧ ∀ y ∈ l, y.a.kids.length ≤ 140737488355328 ∧ y.b.kids.length ≤ 140737488355328 := by
  obtain ⟨cs, rfl, _⟩ := okWide_struct Tryd.underlying24 hv
  obtain ⟨fuel, hd⟩ := h
  obtain ⟨l⟩ := cs
  have hd : DataW.trod enc Tryd.prog W 0 (fun _ => true) true fuel 24 l = some (d, p) := by simpa [Value.cells] using hd
  obtain ⟨n, hn, hlen, hf⟩ := field_open Tryd.underlying24 hd hw
  rw [cellsCode] at hlen
  obtain ⟨c0, c1, c2, rfl⟩ := list_three hlen
  obtain ⟨y0, h0, -⟩ := hf 0 _ rfl
  obtain ⟨y1, h1, -⟩ := hf 1 _ rfl
  obtain ⟨y2, h2, w2⟩ := hf 2 _ rfl
  have h0 : DataW.trod enc Tryd.prog W 0 (fun _ => true) true n 3 (([c0, c1, c2].drop 0).take (Tryd.prog.cellsOf 3)) = some y0 := h0
  have h1 : DataW.trod enc Tryd.prog W 0 (fun _ => true) true n 3 (([c0, c1, c2].drop 1).take (Tryd.prog.cellsOf 3)) = some y1 := h1
  have h2 : DataW.trod enc Tryd.prog W 0 (fun _ => true) true n 22 (([c0, c1, c2].drop 2).take (Tryd.prog.cellsOf 22)) = some y2 := h2
  rw [cellsInt] at h0 h1
  rw [cellsThss] at h2
  simp only [List.drop_succ_cons, List.drop_zero, List.take_succ_cons, List.take_zero] at h0 h1 h2
  obtain ⟨v0, rfl, wv⟩ := int_cell Tryd.underlying3 h0
  obtain ⟨v1, rfl, -⟩ := int_cell Tryd.underlying3 h1
  obtain ⟨a, m, cap, t, rfl, g1, g2, g3⟩ := ths_open h2 w2
  exact ⟨v0, v1, a, m, cap, t, rfl, wv, g1, g2, g3⟩

set_option maxRecDepth 100000 in
/-- A machine, as an argument. -/
theorem machine_arg {r : Reach} {base : Nat} {v : Value} {d : DataW H} {p : List MemPlace} (hv : Value.okWide Tryd.prog W r base 26 v) (h : DataW.Trod enc Tryd.prog W 0 (fun _ => true) true 26 v d p) (hw : Near Tryd.prog 26 d) :
    ∃ m b : Int, v = .agg #[.int .i64 m, .int .i64 b] := by
  obtain ⟨cs, rfl, _⟩ := okWide_struct Tryd.underlying26 hv
  obtain ⟨fuel, hd⟩ := h
  obtain ⟨l⟩ := cs
  have hd : DataW.trod enc Tryd.prog W 0 (fun _ => true) true fuel 26 l = some (d, p) := by simpa [Value.cells] using hd
  obtain ⟨n, hn, hlen, hf⟩ := field_open Tryd.underlying26 hd hw
  rw [cellsMachine] at hlen
  obtain ⟨c0, c1, rfl⟩ := list_two hlen
  obtain ⟨y0, h0, -⟩ := hf 0 _ rfl
  obtain ⟨y1, h1, -⟩ := hf 1 _ rfl
  have h0 : DataW.trod enc Tryd.prog W 0 (fun _ => true) true n 3 (([c0, c1].drop 0).take (Tryd.prog.cellsOf 3)) = some y0 := h0
  have h1 : DataW.trod enc Tryd.prog W 0 (fun _ => true) true n 3 (([c0, c1].drop 1).take (Tryd.prog.cellsOf 3)) = some y1 := h1
  rw [cellsInt] at h0 h1
  simp only [List.drop_succ_cons, List.drop_zero, List.take_succ_cons, List.take_zero] at h0 h1
  obtain ⟨v0, rfl, -⟩ := int_cell Tryd.underlying3 h0
  obtain ⟨v1, rfl, -⟩ := int_cell Tryd.underlying3 h1
  exact ⟨v0, v1, rfl⟩

set_option maxRecDepth 100000 in
/-- A state, as an argument. -/
theorem state_arg {r : Reach} {base : Nat} {v : Value} {d : DataW H} {p : List MemPlace} (hv : Value.okWide Tryd.prog W r base 30 v) (h : DataW.Trod enc Tryd.prog W 0 (fun _ => true) true 30 v d p) (hw : Near Tryd.prog 30 d) :
    ∃ (ah : Option Addr) (nh caph : Nat) (th : List Thr) (am : Option Addr) (nm capm : Nat) (mem : List Int) (bad : Bool), v = .agg #[.slice ah nh caph, .slice am nm capm, .bool bad] ∧ ThrIn W (In_ W) ah nh caph th ∧ IntIn W (In_ W) am nm capm mem ∧
      th.length ≤ 140737488355328 ∧ mem.length ≤ 140737488355328 ∧ ∀ y ∈ th, y.buf.length ≤ 140737488355328 := by
  obtain ⟨cs, rfl, _⟩ := okWide_struct Tryd.underlying30 hv
  obtain ⟨fuel, hd⟩ := h
  obtain ⟨l⟩ := cs
  have hd : DataW.trod enc Tryd.prog W 0 (fun _ => true) true fuel 30 l = some (d, p) := by simpa [Value.cells] using hd
  obtain ⟨n, hn, hlen, hf⟩ := field_open Tryd.underlying30 hd hw
  rw [cellsState] at hlen
  obtain ⟨c0, c1, c2, rfl⟩ := list_three hlen
  obtain ⟨y0, h0, w0⟩ := hf 0 _ rfl
  obtain ⟨y1, h1, w1⟩ := hf 1 _ rfl
  obtain ⟨y2, h2, -⟩ := hf 2 _ rfl
  have h0 : DataW.trod enc Tryd.prog W 0 (fun _ => true) true n 27 (([c0, c1, c2].drop 0).take (Tryd.prog.cellsOf 27)) = some y0 := h0
  have h1 : DataW.trod enc Tryd.prog W 0 (fun _ => true) true n 28 (([c0, c1, c2].drop 1).take (Tryd.prog.cellsOf 28)) = some y1 := h1
  have h2 : DataW.trod enc Tryd.prog W 0 (fun _ => true) true n 4 (([c0, c1, c2].drop 2).take (Tryd.prog.cellsOf 4)) = some y2 := h2
  rw [cellsThs] at h0
  rw [cellsInts] at h1
  rw [cellsBool] at h2
  simp only [List.drop_succ_cons, List.drop_zero, List.take_succ_cons, List.take_zero] at h0 h1 h2
  obtain ⟨ah, nh, caph, th, rfl, g1, g2, g3⟩ := thrs_open h0 w0
  obtain ⟨am, nm, capm, mem, rfl, g4, g5⟩ := ints_open h1 w1
  obtain ⟨bad, e2, -⟩ := DataW.trod_bool Tryd.underlying4 h2
  obtain rfl : c2 = .bool bad := (List.cons.inj e2).1
  exact ⟨ah, nh, caph, th, am, nm, capm, mem, bad, rfl, g1, g4, g2, g5, g3⟩
end
end Go.Proofs.YtekmcoflagajkaaDoor
