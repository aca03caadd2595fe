/- Code, a machine, a state: opened. -/
import Derived.Test.YtekmcoflagajkaaDoorLawP
namespace Go.Proofs.YtekmcoflagajkaaDoor
open Go.ChangeShapes Go.WideShapes Go.ChangeAt Go.RowKit

theorem cellsInt : Tryd.prog.cellsOf 3 = 1 := by kernel_rfl
theorem cellsU8 : Tryd.prog.cellsOf 5 = 1 := by kernel_rfl
theorem cellsBool : Tryd.prog.cellsOf 4 = 1 := by kernel_rfl
theorem cellsExs : Tryd.prog.cellsOf 43 = 1 := by kernel_rfl
theorem cellsEx : Tryd.prog.cellsOf 45 = 4 := by kernel_rfl
theorem cellsIns : Tryd.prog.cellsOf 47 = 12 := by kernel_rfl
theorem cellsInss : Tryd.prog.cellsOf 42 = 1 := by kernel_rfl
theorem cellsCode : Tryd.prog.cellsOf 24 = 3 := by kernel_rfl
theorem cellsThss : Tryd.prog.cellsOf 22 = 1 := by kernel_rfl
theorem cellsEn : Tryd.prog.cellsOf 67 = 2 := by kernel_rfl
theorem cellsEns : Tryd.prog.cellsOf 49 = 1 := by kernel_rfl
theorem cellsTh : Tryd.prog.cellsOf 51 = 6 := by kernel_rfl
theorem cellsThs : Tryd.prog.cellsOf 27 = 1 := by kernel_rfl
theorem cellsInts : Tryd.prog.cellsOf 28 = 1 := by kernel_rfl
theorem cellsFour : Tryd.prog.cellsOf 48 = 4 := by kernel_rfl
theorem cellsState : Tryd.prog.cellsOf 30 = 3 := by kernel_rfl
theorem cellsMachine : Tryd.prog.cellsOf 26 = 2 := by kernel_rfl
theorem bytesEx : Tryd.prog.bytesOf 45 = 48 := by kernel_rfl
theorem bytesIns : Tryd.prog.bytesOf 47 = 128 := by kernel_rfl
theorem bytesInss : Tryd.prog.bytesOf 42 = 24 := by kernel_rfl
theorem bytesEn : Tryd.prog.bytesOf 67 = 16 := by kernel_rfl
theorem bytesTh : Tryd.prog.bytesOf 51 = 64 := by kernel_rfl
theorem bytesInt : Tryd.prog.bytesOf 3 = 8 := by kernel_rfl

theorem list_two {α : Type} {l : List α} (h : l.length = 2) : ∃ a b, l = [a, b] := by
  match l, h with
  | [a, b], _ => exact ⟨a, b, rfl⟩
theorem list_three {α : Type} {l : List α} (h : l.length = 3) : ∃ a b c, l = [a, b, c] := by
  match l, h with
  | [a, b, c], _ => exact ⟨a, b, c, rfl⟩
theorem list_four {α : Type} {l : List α} (h : l.length = 4) : ∃ a b c d, l = [a, b, c, d] := by
  match l, h with
  | [a, b, c, d], _ => exact ⟨a, b, c, d, rfl⟩
theorem list_six {α : Type} {l : List α} (h : l.length = 6) : ∃ a b c d e f, l = [a, b, c, d, e, f] := by
  match l, h with
  | [a, b, c, d, e, f], _ => exact ⟨a, b, c, d, e, f, rfl⟩
theorem list_twelve {α : Type} {l : List α} (h : l.length = 12) : ∃ a b c d e f g h i j k m, l = [a, b, c, d, e, f, g, h, i, j, k, m] := by
  match l, h with
  | [a, b, c, d, e, f, g, h, i, j, k, m], _ => exact ⟨a, b, c, d, e, f, g, h, i, j, k, m, rfl⟩

section
variable {H : Type} {enc : TypeId × Value → H} {W : World} {held : Bool}

set_option maxRecDepth 100000 in
theorem ex_open : ∀ (fuel : Nat) (cs : List Value) (x : DataW H × List MemPlace), DataW.trod enc Tryd.prog W 0 (fun _ => true) held fuel 45 cs = some x → Near Tryd.prog 45 x.1 → ∃ y : Ex, ExIn W (In_ W) cs y ∧ y.kids.length ≤ 140737488355328 := by
  intro fuel
  induction fuel using Nat.strongRecOn with
  | _ fuel ih =>
    intro cs x h hw
    obtain ⟨n, hn, hlen, hf⟩ := field_open Tryd.underlying45 h hw
    rw [cellsEx] at hlen
    obtain ⟨c0, c1, c2, c3, rfl⟩ := list_four hlen
    · skip
      obtain ⟨y0, h0, -⟩ := hf 0 _ rfl
      obtain ⟨y1, h1, -⟩ := hf 1 _ rfl
      obtain ⟨y2, h2, -⟩ := hf 2 _ rfl
      obtain ⟨y3, h3, w3⟩ := hf 3 _ rfl
      have h0 : DataW.trod enc Tryd.prog W 0 (fun _ => true) held n 3 (([c0, c1, c2, c3].drop 0).take (Tryd.prog.cellsOf 3)) = some y0 := h0
      have h1 : DataW.trod enc Tryd.prog W 0 (fun _ => true) held n 3 (([c0, c1, c2, c3].drop 1).take (Tryd.prog.cellsOf 3)) = some y1 := h1
      have h2 : DataW.trod enc Tryd.prog W 0 (fun _ => true) held n 5 (([c0, c1, c2, c3].drop 2).take (Tryd.prog.cellsOf 5)) = some y2 := h2
      have h3 : DataW.trod enc Tryd.prog W 0 (fun _ => true) held n 43 (([c0, c1, c2, c3].drop 3).take (Tryd.prog.cellsOf 43)) = some y3 := h3
      have w3 : Near Tryd.prog 43 y3.1 := w3
      rw [cellsInt] at h0 h1
      rw [cellsU8] at h2
      rw [cellsExs] at h3
      simp only [List.drop_succ_cons, List.drop_zero, List.take_succ_cons, List.take_zero] at h0 h1 h2 h3
      obtain ⟨k, rfl, wk⟩ := int_cell Tryd.underlying3 h0
      obtain ⟨m, rfl, wm⟩ := int_cell Tryd.underlying3 h1
      obtain ⟨o, rfl, wo⟩ := int_cell Tryd.underlying5 h2
      obtain ⟨a, len, cap, C, f', rfl, hs, hr, hf', hy⟩ := sl_open Tryd.underlying43 cellsEx (by omega) h3 w3
      rw [bytesEx] at hr
      unfold reachBytes at hr
      have key : ∀ i, i < len → ∃ y : Ex, ExIn W (In_ W) (C i) y := fun i hi => by
        obtain ⟨_, y, hy, wy⟩ := hy i hi
        obtain ⟨z, hz, _⟩ := ih f' (by omega) _ _ hy wy
        exact ⟨z, hz⟩
      classical
      let l : List Ex := (List.range len).map fun i => if hi : i < len then Classical.choose (key i hi) else .mk 0 0 0 []
      have hl : l.length = len := by simp [l]
      refine ⟨.mk k m o l, ?_, by show l.length ≤ _; rw [hl]; omega⟩
      have := ExIn.mk (w := W) (S := In_ W) k m o a cap l C wk wm wo (by rw [hl]; exact hs) (fun i hi => by
        have hi' : i < len := by omega
        have he : l[i] = Classical.choose (key i hi') := by simp [l, hi']
        rw [he]
        exact Classical.choose_spec (key i hi'))
      rwa [hl] at this

set_option maxRecDepth 100000 in
theorem ins_open {fuel : Nat} {cs : List Value} {x : DataW H × List MemPlace} (h : DataW.trod enc Tryd.prog W 0 (fun _ => true) held fuel 47 cs = some x) (hw : Near Tryd.prog 47 x.1) :
    ∃ y : Ins, InsIn W (In_ W) cs y ∧ y.a.kids.length ≤ 140737488355328 ∧ y.b.kids.length ≤ 140737488355328 := by
  obtain ⟨n, hn, hlen, hf⟩ := field_open Tryd.underlying47 h hw
  rw [cellsIns] at hlen
  obtain ⟨c0, c1, c2, u0, u1, u2, u3, v0, v1, v2, v3, c5, rfl⟩ := list_twelve hlen
  · skip
    obtain ⟨y0, h0, -⟩ := hf 0 _ rfl
    obtain ⟨y1, h1, -⟩ := hf 1 _ rfl
    obtain ⟨y2, h2, -⟩ := hf 2 _ rfl
    obtain ⟨y3, h3, w3⟩ := hf 3 _ rfl
    obtain ⟨y4, h4, w4⟩ := hf 4 _ rfl
    obtain ⟨y5, h5, -⟩ := hf 5 _ rfl
    have h0 : DataW.trod enc Tryd.prog W 0 (fun _ => true) held n 3 (([c0, c1, c2, u0, u1, u2, u3, v0, v1, v2, v3, c5].drop 0).take (Tryd.prog.cellsOf 3)) = some y0 := h0
    have h1 : DataW.trod enc Tryd.prog W 0 (fun _ => true) held n 3 (([c0, c1, c2, u0, u1, u2, u3, v0, v1, v2, v3, c5].drop 1).take (Tryd.prog.cellsOf 3)) = some y1 := h1
    have h2 : DataW.trod enc Tryd.prog W 0 (fun _ => true) held n 3 (([c0, c1, c2, u0, u1, u2, u3, v0, v1, v2, v3, c5].drop 2).take (Tryd.prog.cellsOf 3)) = some y2 := h2
    have h3 : DataW.trod enc Tryd.prog W 0 (fun _ => true) held n 45 (([c0, c1, c2, u0, u1, u2, u3, v0, v1, v2, v3, c5].drop 3).take (Tryd.prog.cellsOf 45)) = some y3 := h3
    have h4 : DataW.trod enc Tryd.prog W 0 (fun _ => true) held n 45 (([c0, c1, c2, u0, u1, u2, u3, v0, v1, v2, v3, c5].drop 7).take (Tryd.prog.cellsOf 45)) = some y4 := h4
    have h5 : DataW.trod enc Tryd.prog W 0 (fun _ => true) held n 3 (([c0, c1, c2, u0, u1, u2, u3, v0, v1, v2, v3, c5].drop 11).take (Tryd.prog.cellsOf 3)) = some y5 := h5
    rw [cellsInt] at h0 h1 h2 h5
    rw [cellsEx] at h3 h4
    simp only [List.drop_succ_cons, List.drop_zero, List.take_succ_cons, List.take_zero] at h0 h1 h2 h3 h4 h5
    obtain ⟨m0, rfl, -⟩ := int_cell Tryd.underlying3 h0
    obtain ⟨m1, rfl, -⟩ := int_cell Tryd.underlying3 h1
    obtain ⟨m2, rfl, -⟩ := int_cell Tryd.underlying3 h2
    obtain ⟨m5, rfl, -⟩ := int_cell Tryd.underlying3 h5
    obtain ⟨ea, hea, la⟩ := ex_open _ _ _ h3 w3
    obtain ⟨eb, heb, lb⟩ := ex_open _ _ _ h4 w4
    exact ⟨⟨m0, m1, m2, ea, eb, m5⟩, ⟨u0, u1, u2, u3, v0, v1, v2, v3, rfl, hea, heb⟩, la, lb⟩

theorem row_open {fuel : Nat} {v : Value} {x : DataW H × List MemPlace} (h : DataW.trod enc Tryd.prog W 0 (fun _ => true) held fuel 42 [v] = some x) (hw : Near Tryd.prog 42 x.1) :
    ∃ a cap l, v = .slice a (List.length l) cap ∧ InsRow W (In_ W) a (List.length l) cap l ∧ l.length ≤ 140737488355328 ∧ ∀ y ∈ l, y.a.kids.length ≤ 140737488355328 ∧ y.b.kids.length ≤ 140737488355328 := by
  obtain ⟨a, len, cap, C, f', rfl, hs, hr, -, hy⟩ := sl_open Tryd.underlying42 cellsIns (by omega) h hw
  rw [bytesIns] at hr
  unfold reachBytes at hr
  have key : ∀ i, i < len → ∃ y : Ins, InsIn W (In_ W) (C i) y ∧ y.a.kids.length ≤ 140737488355328 ∧ y.b.kids.length ≤ 140737488355328 := fun i hi => by
    obtain ⟨_, y, hy, wy⟩ := hy i hi
    exact ins_open hy wy
  classical
  let l : List Ins := (List.range len).map fun i => if hi : i < len then Classical.choose (key i hi) else ⟨0, 0, 0, .mk 0 0 0 [], .mk 0 0 0 [], 0⟩
  have hl : l.length = len := by simp [l]
  have he : ∀ i (hi : i < len), l[i]'(by omega) = Classical.choose (key i hi) := fun i hi => by simp [l, hi]
  refine ⟨a, cap, l, by rw [hl], ⟨rfl, C, by rw [hl]; exact hs, fun i hi => ?_⟩, by omega, fun y hm => ?_⟩
  · rw [he i (by omega)]
    exact (Classical.choose_spec (key i (by omega))).1
  · obtain ⟨i, hi, rfl⟩ := List.getElem_of_mem hm
    rw [he i (by omega)]
    exact (Classical.choose_spec (key i (by omega))).2

theorem ths_open {fuel : Nat} {v : Value} {x : DataW H × List MemPlace} (h : DataW.trod enc Tryd.prog W 0 (fun _ => true) held fuel 22 [v] = some x) (hw : Near Tryd.prog 22 x.1) :
    ∃ a n cap t, v = .slice a n cap ∧ ThsIn W (In_ W) a n cap t ∧ t.length ≤ 140737488355328 ∧ ∀ l ∈ t, l.length ≤ 140737488355328 ∧ ∀ y ∈ l, y.a.kids.length ≤ 140737488355328 ∧ y.b.kids.length ≤ 140737488355328 := by
  obtain ⟨a, len, cap, C, f', rfl, hs, hr, -, hy⟩ := sl_open Tryd.underlying22 cellsInss (by omega) h hw
  rw [bytesInss] at hr
  unfold reachBytes at hr
  have key : ∀ i, i < len → ∃ r : Option Addr × Nat × List Ins, C i = [.slice r.1 r.2.2.length r.2.1] ∧ InsRow W (In_ W) r.1 r.2.2.length r.2.1 r.2.2 ∧ r.2.2.length ≤ 140737488355328 ∧ ∀ y ∈ r.2.2, y.a.kids.length ≤ 140737488355328 ∧ y.b.kids.length ≤ 140737488355328 := fun i hi => by
    obtain ⟨hc, y, hy, wy⟩ := hy i hi
    obtain ⟨c, hc⟩ := List.length_eq_one_iff.1 hc
    rw [hc] at hy
    obtain ⟨a, cap, l, rfl, h1, h2, h3⟩ := row_open hy wy
    exact ⟨(a, cap, l), hc, h1, h2, h3⟩
  classical
  let R : Nat → Option Addr × Nat × List Ins := fun i => if hi : i < len then Classical.choose (key i hi) else (none, 0, [])
  have hR : ∀ i (hi : i < len), R i = Classical.choose (key i hi) := fun i hi => by simp [R, hi]
  let t : List (List Ins) := (List.range len).map fun i => (R i).2.2
  have ht : t.length = len := by simp [t]
  have he : ∀ i (hi : i < t.length), t[i] = (R i).2.2 := fun i hi => by simp [t]
  have hk : ∀ i (hi : i < len), C i = [.slice (R i).1 (R i).2.2.length (R i).2.1] ∧ InsRow W (In_ W) (R i).1 (R i).2.2.length (R i).2.1 (R i).2.2 ∧ (R i).2.2.length ≤ 140737488355328 ∧ ∀ y ∈ (R i).2.2, y.a.kids.length ≤ 140737488355328 ∧ y.b.kids.length ≤ 140737488355328 := fun i hi => by
    rw [hR i hi]
    exact Classical.choose_spec (key i hi)
  refine ⟨a, len, cap, t, rfl, ⟨ht.symm, fun i => (R i).1, fun i => (R i).2.1, ?_, fun i hi => ?_⟩, by omega, fun l hm => ?_⟩
  · rw [ht]
    refine ⟨hs.le, hs.mx, fun h0 => ?_⟩
    obtain ⟨b, off, e, hb, hc⟩ := hs.at_ h0
    refine ⟨b, off, e, hb, fun i hi j hj => ?_⟩
    have e2 : t[i]?.getD [] = (R i).2.2 := by rw [List.getElem?_eq_getElem (by omega), Option.getD_some, he i (by omega)]
    rw [hc i hi j hj, (hk i hi).1]
    show _ = [Value.slice (R i).1 (t[i]?.getD []).length (R i).2.1][j]?
    rw [e2]
  · rw [he i hi]
    exact (hk i (by omega)).2.1
  · obtain ⟨i, hi, rfl⟩ := List.getElem_of_mem hm
    rw [he i hi]
    exact (hk i (by omega)).2.2
end
end Go.Proofs.YtekmcoflagajkaaDoor
