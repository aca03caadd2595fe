/- Code, a machine, a state: opened. -/
import Derived.Test.YtcgpobeidlimkaaGreatDoorLawJ
namespace Go.Proofs.YtcgpobeidlimkaaGreatDoor
open Go.ChangeShapes Go.WideShapes Go.ChangeAt Go.RowKit

theorem cellsInt : Tryz.prog.cellsOf 3 = 1 := by kernel_rfl
theorem cellsU8 : Tryz.prog.cellsOf 5 = 1 := by kernel_rfl
theorem cellsExs : Tryz.prog.cellsOf 44 = 1 := by kernel_rfl
theorem cellsEx : Tryz.prog.cellsOf 46 = 4 := by kernel_rfl
theorem cellsIns : Tryz.prog.cellsOf 48 = 12 := by kernel_rfl
theorem cellsInss : Tryz.prog.cellsOf 43 = 1 := by kernel_rfl
theorem cellsCode : Tryz.prog.cellsOf 30 = 3 := by kernel_rfl
theorem cellsThss : Tryz.prog.cellsOf 28 = 1 := by kernel_rfl
theorem bytesEx : Tryz.prog.bytesOf 46 = 48 := by kernel_rfl
theorem bytesIns : Tryz.prog.bytesOf 48 = 128 := by kernel_rfl
theorem bytesInss : Tryz.prog.bytesOf 43 = 24 := by kernel_rfl

theorem list_two {α : Type} {l : List α} (h : l.length = 2) : ∃ a b, l = [a, b] := by
  match l, h with
  | [a, b], _ => exact ⟨a, b, rfl⟩
theorem list_three {α : Type} {l : List α} (h : l.length = 3) : ∃ a b c, l = [a, b, c] := by
  match l, h with
  | [a, b, c], _ => exact ⟨a, b, c, rfl⟩
theorem list_four {α : Type} {l : List α} (h : l.length = 4) : ∃ a b c d, l = [a, b, c, d] := by
  match l, h with
  | [a, b, c, d], _ => exact ⟨a, b, c, d, rfl⟩
theorem list_six {α : Type} {l : List α} (h : l.length = 6) : ∃ a b c d e f, l = [a, b, c, d, e, f] := by
  match l, h with
  | [a, b, c, d, e, f], _ => exact ⟨a, b, c, d, e, f, rfl⟩
theorem list_twelve {α : Type} {l : List α} (h : l.length = 12) : ∃ a b c d e f g h i j k m, l = [a, b, c, d, e, f, g, h, i, j, k, m] := by
  match l, h with
  | [a, b, c, d, e, f, g, h, i, j, k, m], _ => exact ⟨a, b, c, d, e, f, g, h, i, j, k, m, rfl⟩

section
variable {H : Type} {enc : TypeId × Value → H} {W : World} {held : Bool}

set_option maxRecDepth 100000 in
theorem ex_open : ∀ (fuel : Nat) (cs : List Value) (x : DataW H × List MemPlace), DataW.trod enc Tryz.prog W 0 (fun _ => true) held fuel 46 cs = some x → Near Tryz.prog 46 x.1 → ∃ y : Ex, ExIn W (In_ W) cs y ∧ y.kids.length ≤ 140737488355328 := by
  intro fuel
  induction fuel using Nat.strongRecOn with
  | _ fuel ih =>
    intro cs x h hw
    obtain ⟨n, hn, hlen, hf⟩ := field_open Tryz.underlying46 h hw
    rw [cellsEx] at hlen
    obtain ⟨c0, c1, c2, c3, rfl⟩ := list_four hlen
    · skip
      obtain ⟨y0, h0, -⟩ := hf 0 _ rfl
      obtain ⟨y1, h1, -⟩ := hf 1 _ rfl
      obtain ⟨y2, h2, -⟩ := hf 2 _ rfl
      obtain ⟨y3, h3, w3⟩ := hf 3 _ rfl
      have h0 : DataW.trod enc Tryz.prog W 0 (fun _ => true) held n 3 (([c0, c1, c2, c3].drop 0).take (Tryz.prog.cellsOf 3)) = some y0 := h0
      have h1 : DataW.trod enc Tryz.prog W 0 (fun _ => true) held n 3 (([c0, c1, c2, c3].drop 1).take (Tryz.prog.cellsOf 3)) = some y1 := h1
      have h2 : DataW.trod enc Tryz.prog W 0 (fun _ => true) held n 5 (([c0, c1, c2, c3].drop 2).take (Tryz.prog.cellsOf 5)) = some y2 := h2
      have h3 : DataW.trod enc Tryz.prog W 0 (fun _ => true) held n 44 (([c0, c1, c2, c3].drop 3).take (Tryz.prog.cellsOf 44)) = some y3 := h3
      have w3 : Near Tryz.prog 44 y3.1 := w3
      rw [cellsInt] at h0 h1
      rw [cellsU8] at h2
      rw [cellsExs] at h3
      simp only [List.drop_succ_cons, List.drop_zero, List.take_succ_cons, List.take_zero] at h0 h1 h2 h3
      obtain ⟨k, rfl, wk⟩ := int_cell Tryz.underlying3 h0
      obtain ⟨m, rfl, wm⟩ := int_cell Tryz.underlying3 h1
      obtain ⟨o, rfl, wo⟩ := int_cell Tryz.underlying5 h2
      obtain ⟨a, len, cap, C, f', rfl, hs, hr, hf', hy⟩ := sl_open Tryz.underlying44 cellsEx (by omega) h3 w3
      rw [bytesEx] at hr
      unfold reachBytes at hr
      have key : ∀ i, i < len → ∃ y : Ex, ExIn W (In_ W) (C i) y := fun i hi => by
        obtain ⟨_, y, hy, wy⟩ := hy i hi
        obtain ⟨z, hz, _⟩ := ih f' (by omega) _ _ hy wy
        exact ⟨z, hz⟩
      classical
      let l : List Ex := (List.range len).map fun i => if hi : i < len then Classical.choose (key i hi) else .mk 0 0 0 []
      have hl : l.length = len := by simp [l]
      refine ⟨.mk k m o l, ?_, by show l.length ≤ _; rw [hl]; omega⟩
      have := ExIn.mk (w := W) (S := In_ W) k m o a cap l C wk wm wo (by rw [hl]; exact hs) (fun i hi => by
        have hi' : i < len := by omega
        have he : l[i] = Classical.choose (key i hi') := by simp [l, hi']
        rw [he]
        exact Classical.choose_spec (key i hi'))
      rwa [hl] at this

set_option maxRecDepth 100000 in
theorem ins_open {fuel : Nat} {cs : List Value} {x : DataW H × List MemPlace} (h : DataW.trod enc Tryz.prog W 0 (fun _ => true) held fuel 48 cs = some x) (hw : Near Tryz.prog 48 x.1) :
    ∃ y : Ins, InsIn W (In_ W) cs y ∧ y.a.kids.length ≤ 140737488355328 ∧ y.b.kids.length ≤ 140737488355328 := by
  obtain ⟨n, hn, hlen, hf⟩ := field_open Tryz.underlying48 h hw
  rw [cellsIns] at hlen
  obtain ⟨c0, c1, c2, u0, u1, u2, u3, v0, v1, v2, v3, c5, rfl⟩ := list_twelve hlen
  · skip
    obtain ⟨y0, h0, -⟩ := hf 0 _ rfl
    obtain ⟨y1, h1, -⟩ := hf 1 _ rfl
    obtain ⟨y2, h2, -⟩ := hf 2 _ rfl
    obtain ⟨y3, h3, w3⟩ := hf 3 _ rfl
    obtain ⟨y4, h4, w4⟩ := hf 4 _ rfl
    obtain ⟨y5, h5, -⟩ := hf 5 _ rfl
    have h0 : DataW.trod enc Tryz.prog W 0 (fun _ => true) held n 3 (([c0, c1, c2, u0, u1, u2, u3, v0, v1, v2, v3, c5].drop 0).take (Tryz.prog.cellsOf 3)) = some y0 := h0
    have h1 : DataW.trod enc Tryz.prog W 0 (fun _ => true) held n 3 (([c0, c1, c2, u0, u1, u2, u3, v0, v1, v2, v3, c5].drop 1).take (Tryz.prog.cellsOf 3)) = some y1 := h1
    have h2 : DataW.trod enc Tryz.prog W 0 (fun _ => true) held n 3 (([c0, c1, c2, u0, u1, u2, u3, v0, v1, v2, v3, c5].drop 2).take (Tryz.prog.cellsOf 3)) = some y2 := h2
    have h3 : DataW.trod enc Tryz.prog W 0 (fun _ => true) held n 46 (([c0, c1, c2, u0, u1, u2, u3, v0, v1, v2, v3, c5].drop 3).take (Tryz.prog.cellsOf 46)) = some y3 := h3
    have h4 : DataW.trod enc Tryz.prog W 0 (fun _ => true) held n 46 (([c0, c1, c2, u0, u1, u2, u3, v0, v1, v2, v3, c5].drop 7).take (Tryz.prog.cellsOf 46)) = some y4 := h4
    have h5 : DataW.trod enc Tryz.prog W 0 (fun _ => true) held n 3 (([c0, c1, c2, u0, u1, u2, u3, v0, v1, v2, v3, c5].drop 11).take (Tryz.prog.cellsOf 3)) = some y5 := h5
    rw [cellsInt] at h0 h1 h2 h5
    rw [cellsEx] at h3 h4
    simp only [List.drop_succ_cons, List.drop_zero, List.take_succ_cons, List.take_zero] at h0 h1 h2 h3 h4 h5
    obtain ⟨m0, rfl, -⟩ := int_cell Tryz.underlying3 h0
    obtain ⟨m1, rfl, -⟩ := int_cell Tryz.underlying3 h1
    obtain ⟨m2, rfl, -⟩ := int_cell Tryz.underlying3 h2
    obtain ⟨m5, rfl, -⟩ := int_cell Tryz.underlying3 h5
    obtain ⟨ea, hea, la⟩ := ex_open _ _ _ h3 w3
    obtain ⟨eb, heb, lb⟩ := ex_open _ _ _ h4 w4
    exact ⟨⟨m0, m1, m2, ea, eb, m5⟩, ⟨u0, u1, u2, u3, v0, v1, v2, v3, rfl, hea, heb⟩, la, lb⟩

theorem row_open {fuel : Nat} {v : Value} {x : DataW H × List MemPlace} (h : DataW.trod enc Tryz.prog W 0 (fun _ => true) held fuel 43 [v] = some x) (hw : Near Tryz.prog 43 x.1) :
    ∃ a cap l, v = .slice a (List.length l) cap ∧ InsRow W (In_ W) a (List.length l) cap l ∧ l.length ≤ 140737488355328 ∧ ∀ y ∈ l, y.a.kids.length ≤ 140737488355328 ∧ y.b.kids.length ≤ 140737488355328 := by
  obtain ⟨a, len, cap, C, f', rfl, hs, hr, -, hy⟩ := sl_open Tryz.underlying43 cellsIns (by omega) h hw
  rw [bytesIns] at hr
  unfold reachBytes at hr
  have key : ∀ i, i < len → ∃ y : Ins, InsIn W (In_ W) (C i) y ∧ y.a.kids.length ≤ 140737488355328 ∧ y.b.kids.length ≤ 140737488355328 := fun i hi => by
    obtain ⟨_, y, hy, wy⟩ := hy i hi
    exact ins_open hy wy
  classical
  let l : List Ins := (List.range len).map fun i => if hi : i < len then Classical.choose (key i hi) else ⟨0, 0, 0, .mk 0 0 0 [], .mk 0 0 0 [], 0⟩
  have hl : l.length = len := by simp [l]
  have he : ∀ i (hi : i < len), l[i]'(by omega) = Classical.choose (key i hi) := fun i hi => by simp [l, hi]
  refine ⟨a, cap, l, by rw [hl], ⟨rfl, C, by rw [hl]; exact hs, fun i hi => ?_⟩, by omega, fun y hm => ?_⟩
  · rw [he i (by omega)]
    exact (Classical.choose_spec (key i (by omega))).1
  · obtain ⟨i, hi, rfl⟩ := List.getElem_of_mem hm
    rw [he i (by omega)]
    exact (Classical.choose_spec (key i (by omega))).2

theorem ths_open {fuel : Nat} {v : Value} {x : DataW H × List MemPlace} (h : DataW.trod enc Tryz.prog W 0 (fun _ => true) held fuel 28 [v] = some x) (hw : Near Tryz.prog 28 x.1) :
    ∃ a n cap t, v = .slice a n cap ∧ ThsIn W (In_ W) a n cap t ∧ t.length ≤ 140737488355328 ∧ ∀ l ∈ t, l.length ≤ 140737488355328 ∧ ∀ y ∈ l, y.a.kids.length ≤ 140737488355328 ∧ y.b.kids.length ≤ 140737488355328 := by
  obtain ⟨a, len, cap, C, f', rfl, hs, hr, -, hy⟩ := sl_open Tryz.underlying28 cellsInss (by omega) h hw
  rw [bytesInss] at hr
  unfold reachBytes at hr
  have key : ∀ i, i < len → ∃ r : Option Addr × Nat × List Ins, C i = [.slice r.1 r.2.2.length r.2.1] ∧ InsRow W (In_ W) r.1 r.2.2.length r.2.1 r.2.2 ∧ r.2.2.length ≤ 140737488355328 ∧ ∀ y ∈ r.2.2, y.a.kids.length ≤ 140737488355328 ∧ y.b.kids.length ≤ 140737488355328 := fun i hi => by
    obtain ⟨hc, y, hy, wy⟩ := hy i hi
    obtain ⟨c, hc⟩ := List.length_eq_one_iff.1 hc
    rw [hc] at hy
    obtain ⟨a, cap, l, rfl, h1, h2, h3⟩ := row_open hy wy
    exact ⟨(a, cap, l), hc, h1, h2, h3⟩
  classical
  let R : Nat → Option Addr × Nat × List Ins := fun i => if hi : i < len then Classical.choose (key i hi) else (none, 0, [])
  have hR : ∀ i (hi : i < len), R i = Classical.choose (key i hi) := fun i hi => by simp [R, hi]
  let t : List (List Ins) := (List.range len).map fun i => (R i).2.2
  have ht : t.length = len := by simp [t]
  have he : ∀ i (hi : i < t.length), t[i] = (R i).2.2 := fun i hi => by simp [t]
  have hk : ∀ i (hi : i < len), C i = [.slice (R i).1 (R i).2.2.length (R i).2.1] ∧ InsRow W (In_ W) (R i).1 (R i).2.2.length (R i).2.1 (R i).2.2 ∧ (R i).2.2.length ≤ 140737488355328 ∧ ∀ y ∈ (R i).2.2, y.a.kids.length ≤ 140737488355328 ∧ y.b.kids.length ≤ 140737488355328 := fun i hi => by
    rw [hR i hi]
    exact Classical.choose_spec (key i hi)
  refine ⟨a, len, cap, t, rfl, ⟨ht.symm, fun i => (R i).1, fun i => (R i).2.1, ?_, fun i hi => ?_⟩, by omega, fun l hm => ?_⟩
  · rw [ht]
    refine ⟨hs.le, hs.mx, fun h0 => ?_⟩
    obtain ⟨b, off, e, hb, hc⟩ := hs.at_ h0
    refine ⟨b, off, e, hb, fun i hi j hj => ?_⟩
    have e2 : t[i]?.getD [] = (R i).2.2 := by rw [List.getElem?_eq_getElem (by omega), Option.getD_some, he i (by omega)]
    rw [hc i hi j hj, (hk i hi).1]
    show _ = [Value.slice (R i).1 (t[i]?.getD []).length (R i).2.1][j]?
    rw [e2]
  · rw [he i hi]
    exact (hk i (by omega)).2.1
  · obtain ⟨i, hi, rfl⟩ := List.getElem_of_mem hm
    rw [he i hi]
    exact (hk i (by omega)).2.2

set_option maxRecDepth 100000 in
/-- Code, as an argument. -/
theorem code_arg {r : Reach} {base : Nat} {v : Value} {d : DataW H} {p : List MemPlace} (hv : Value.okWide Tryz.prog W r base 30 v) (h : DataW.Trod enc Tryz.prog W 0 (fun _ => true) true 30 v d p) (hw : Near Tryz.prog 30 d) :
    ∃ (vars dom : Int) (a : Option Addr) (n cap : Nat) (t : List (List Ins)), v = .agg #[.int .i64 vars, .int .i64 dom, .slice a n cap] ∧ (Lit.int .i64 vars).wf = true ∧ ThsIn W (In_ W) a n cap t ∧ t.length ≤ 140737488355328 ∧
      ∀ l ∈ t, l.length ≤ 140737488355328 ∧ ∀ y ∈ l, y.a.kids.length ≤ 140737488355328 ∧ y.b.kids.length ≤ 140737488355328 := by
  obtain ⟨cs, rfl, _⟩ := okWide_struct Tryz.underlying30 hv
  obtain ⟨fuel, hd⟩ := h
  obtain ⟨l⟩ := cs
  have hd : DataW.trod enc Tryz.prog W 0 (fun _ => true) true fuel 30 l = some (d, p) := by simpa [Value.cells] using hd
  obtain ⟨n, hn, hlen, hf⟩ := field_open Tryz.underlying30 hd hw
  rw [cellsCode] at hlen
  obtain ⟨c0, c1, c2, rfl⟩ := list_three hlen
  obtain ⟨y0, h0, -⟩ := hf 0 _ rfl
  obtain ⟨y1, h1, -⟩ := hf 1 _ rfl
  obtain ⟨y2, h2, w2⟩ := hf 2 _ rfl
  have h0 : DataW.trod enc Tryz.prog W 0 (fun _ => true) true n 3 (([c0, c1, c2].drop 0).take (Tryz.prog.cellsOf 3)) = some y0 := h0
  have h1 : DataW.trod enc Tryz.prog W 0 (fun _ => true) true n 3 (([c0, c1, c2].drop 1).take (Tryz.prog.cellsOf 3)) = some y1 := h1
  have h2 : DataW.trod enc Tryz.prog W 0 (fun _ => true) true n 28 (([c0, c1, c2].drop 2).take (Tryz.prog.cellsOf 28)) = some y2 := h2
  rw [cellsInt] at h0 h1
  rw [cellsThss] at h2
  simp only [List.drop_succ_cons, List.drop_zero, List.take_succ_cons, List.take_zero] at h0 h1 h2
  obtain ⟨v0, rfl, wv⟩ := int_cell Tryz.underlying3 h0
  obtain ⟨v1, rfl, -⟩ := int_cell Tryz.underlying3 h1
  obtain ⟨a, m, cap, t, rfl, g1, g2, g3⟩ := ths_open h2 w2
  exact ⟨v0, v1, a, m, cap, t, rfl, wv, g1, g2, g3⟩

end
end Go.Proofs.YtcgpobeidlimkaaGreatDoor
