/- From a walk to a row: a law's call answers true and keeps what was there. -/
import Derived.Test.YtogopcejapklgaaGreatDoorRows
import Derived.Test.YtogopcejapklgaaGreatDoorBunM
import Derived.SizedLaws
import Derived.LaidMore
import Derived.Stop.Joined
import Derived.ProofKit
import Derived.OpenShut
namespace Go.Proofs.YtogopcejapklgaaGreatDoor
open Go.ChangeShapes Go.WideShapes Go.ChangeAt Go.RowKit

theorem prog_own : ownKnob Tryz.prog.godebug = none := by kernel_rfl
theorem prog_laid : laidOutB Tryz.prog = true := by kernel_rfl

section
variable {H : Type} {enc : TypeId × Value → H}

theorem trodAll_below {W W' : World} (hb : Below W.heap.size W W') : ∀ {ts : List TypeId} {vs : List Value} {ds : List (DataW H)} {ps : List MemPlace}, (∀ t ∈ ts, Tryz.prog.readableRec t = true ∧ t < Tryz.prog.types.size) →
    DataW.TrodAll enc Tryz.prog W 0 (fun _ => true) true ts vs ds ps → (∀ x ∈ ps, x.block < W.heap.size) → DataW.TrodAll enc Tryz.prog W' 0 (fun b => decide (b < W.heap.size)) true ts vs ds ps
  | [], [], [], _, _, h, _ => h
  | t :: _, _ :: _, _ :: _, _, hT, ⟨p, q, h1, h2, e⟩, hs => by
    have ht := hT t (List.mem_cons.2 (Or.inl rfl))
    subst e
    exact ⟨p, q, Below.trod prog_laid ht.1 ht.2 h1 hb (fun x hx => hs x (List.mem_append_left _ hx)),
      trodAll_below hb (fun t ht => hT t (List.mem_cons.2 (Or.inr ht))) h2 (fun x hx => hs x (List.mem_append_right _ hx)), rfl⟩

/-- THE ROW's STEP FOR A LAW: the walk answers true and keeps what was there. -/
theorem law_step {fn : Func} {f : FuncId} {s : ChangeSpec} {T : TypeId} {W : World} {args : Array Value} {ds gs : List (DataW H)} {before : List MemPlace}
    (hv : s.vars = []) (hs : s.fn H (ds ++ []) = { results := [.lit (.bool true)], args := ds }) (hr : fn.resultTypes = #[T]) (hT : Tryz.prog.underlying T = some .bool)
    (hrows : ∀ t ∈ fn.params.toList, Tryz.prog.readableRec t = true ∧ t < Tryz.prog.types.size)
    (hW : DataW.Whole enc Tryz.prog fn.params.toList s.vars false W args.toList ds gs before)
    (walk : Calls Tryz.prog f args W fun e W' => e = .returned (.bool true) ∧ Below W.heap.size W W') :
    Calls Tryz.prog f args W fun e W' => ∃ v, e = .returned v ∧ s.post enc Tryz.prog fn false true false false W args v W' := by
  refine walk.mono fun e W' ⟨he, hb⟩ => ⟨_, he, ?_⟩
  have hlt : ∀ p ∈ before, p.block < W.heap.size := fun p hp => hW.lt p hp
  have hW' := hW
  obtain ⟨p, q, hA, hV, rfl, _, _⟩ := hW
  rw [hv] at hV
  obtain ⟨rfl, rfl⟩ := trodVars_none hV
  have hres : (s.fn H (ds ++ [])).results = [.lit (.bool true)] := by rw [hs]
  have harg : (s.fn H (ds ++ [])).args = ds := by rw [hs]
  have hvar : (s.fn H (ds ++ [])).vars = [] := by rw [hs]
  refine ⟨ds, [], p ++ [], [], p, [], hW', ?_, ?_, ?_, World.keptBut_mono (fun x hx => ⟨hx, ?_⟩) (hb.frame (· ∈ p ++ [])), fun h => by cases h⟩
  · rw [hres, hr]
    exact trodAll_mk1 (shut_bool hT true)
  · rw [harg]
    exact trodAll_below hb hrows hA fun x hx => hlt x (List.mem_append_left _ hx)
  · rw [hvar, hv]
    rfl
  · rw [List.append_nil] at hx
    exact Or.inr (Or.inl hx)
end
end Go.Proofs.YtogopcejapklgaaGreatDoor
namespace Go.Proofs.YtogopcejapklgaaGreatDoor
open Go.ChangeShapes Go.WideShapes Go.ChangeAt Go.RowKit

section
variable {H : Type} {enc : TypeId × Value → H}

theorem spot_of_cell {W : World} {a : Addr} {v : Value} (h : W.cell? a = some v) : a.spot = none := World.cell?_spot h

theorem addr_add_add (a : Addr) (i j : Nat) : (a.add i).add j = a.add (i + j) := by
  unfold Addr.add
  by_cases hi : i = 0 <;> by_cases hj : j = 0 <;> simp [hi, hj, Nat.add_assoc]
theorem addr_add_plain (b o n : Nat) : (⟨b, o, none⟩ : Addr).add n = ⟨b, o + n, none⟩ := by
  unfold Addr.add
  split
  · rename_i h; subst h; rfl
  · rfl

theorem sl_open {W : World} {held : Bool} {t e : TypeId} {sz fuel : Nat} {v : Value} {x : DataW H × List MemPlace} (ht : Tryz.prog.underlying t = some (.slice e)) (hC : Tryz.prog.cellsOf e = sz) (hsz : 0 < sz)
    (h : DataW.trod enc Tryz.prog W 0 (fun _ => true) held fuel t [v] = some x) :
    ∃ (a : Option Addr) (n cap : Nat) (C : Nat → List Value) (fuel' : Nat), v = .slice a n cap ∧ Sl W (In_ W) sz a n cap C ∧ fuel' < fuel ∧ ∀ i, i < n → (C i).length = sz ∧ ∃ y, DataW.trod enc Tryz.prog W 0 (fun _ => true) held fuel' e (C i) = some y := by
  rcases DataW.trod_slice ht h with ⟨hc, _⟩ | ⟨a, len, cap, elems, rest, n, hf, hcs, _, _, hl, hm, hlen, hel, _, _⟩
  · refine ⟨none, 0, 0, fun _ => [], 0, by simpa using hc, .nil, ?_, fun i hi => absurd hi (by omega)⟩
    cases fuel with
    | zero => simp [DataW.trod] at h
    | succ n => omega
  · subst hf
    have key : ∀ i, i < len → ∃ cs, (cs.length = sz ∧ ∀ j, j < sz → W.cell? (a.add (i * sz + j)) = cs[j]?) ∧ ∃ y, DataW.trod enc Tryz.prog W 0 (fun _ => true) held n e cs = some y := by
      intro i hi
      have h1 := hel i hi
      rw [hC, List.getElem?_eq_getElem (by omega)] at h1
      obtain ⟨cs, h2, h3⟩ := Option.bind_eq_some_iff.1 h1
      obtain ⟨_, hl1, hcell⟩ := World.cells?_some h2
      refine ⟨cs, ⟨hl1, fun j hj => ?_⟩, _, h3⟩
      rw [← addr_add_add]
      exact hcell j hj
    classical
    refine ⟨some a, len, cap, fun i => if hi : i < len then Classical.choose (key i hi) else [], n, by simpa using hcs, ⟨hl, hm, fun h0 => ?_⟩, Nat.lt_succ_self _, fun i hi => ?_⟩
    · obtain ⟨cs, ⟨hl0, hc0⟩, _⟩ := key 0 h0
      have h5 := hc0 0 hsz
      rw [List.getElem?_eq_getElem (by omega)] at h5
      have hsp := World.cell?_spot h5
      have hlt := World.block_lt_of_cell? _ _ h5
      obtain ⟨b, off, spot⟩ := a
      have hsp0 : spot = none := by simpa [Addr.add] using hsp
      subst hsp0
      refine ⟨b, off, rfl, by simpa [Addr.add, In_] using hlt, fun i hi j hj => ?_⟩
      have h6 := (Classical.choose_spec (key i hi)).1.2 j hj
      rw [addr_add_plain] at h6
      rw [dif_pos hi]
      exact h6
    · simp only [dif_pos hi]
      exact ⟨(Classical.choose_spec (key i hi)).1.1, (Classical.choose_spec (key i hi)).2⟩

set_option maxRecDepth 100000 in
theorem bytes_arg {W : World} {r : Reach} {base : Nat} {v : Value} {d : DataW H} {p : List MemPlace} (hv : Value.okWide Tryz.prog W r base 22 v) (h : DataW.Trod enc Tryz.prog W 0 (fun _ => true) true 22 v d p) :
    ∃ a n cap cs, v = .slice a n cap ∧ ByIn W (In_ W) a n cap cs := by
  obtain ⟨fuel, hf⟩ := h
  obtain ⟨a0, n0, cap0, rfl⟩ := okWide_slice Tryz.underlying22 hv
  obtain ⟨a, len, cap, C, f', e3, hs, hf', hy⟩ := sl_open Tryz.underlying22 (show Tryz.prog.cellsOf 5 = 1 by kernel_rfl) (by omega) hf
  have key : ∀ i, i < len → ∃ c : Nat, c < 256 ∧ C i = [.int .u8 (c : Int)] := fun i hi => by
    obtain ⟨_, y, hy⟩ := hy i hi
    obtain ⟨u, hu, _, wu⟩ := DataW.trod_int Tryz.underlying5 hy
    have hr : 0 ≤ u ∧ u ≤ 255 := by simpa [Lit.wf, IntKind.min, IntKind.max, IntKind.signed, IntKind.bits] using wu
    exact ⟨u.toNat, by omega, by rw [hu, show ((u.toNat : Nat) : Int) = u by omega]⟩
  classical
  let l : List Nat := (List.range len).map fun i => if hi : i < len then Classical.choose (key i hi) else 0
  have hl : l.length = len := by simp [l]
  have he : ∀ i (hi : i < len), l[i]?.getD 0 = Classical.choose (key i hi) := fun i hi => by simp [l, hi]
  refine ⟨a, len, cap, l, e3, hl.symm, fun c hc => ?_, ?_⟩
  · obtain ⟨i, hi, rfl⟩ := List.getElem_of_mem hc
    have h1 := he i (by omega)
    rw [List.getElem?_eq_getElem hi] at h1
    simp only [Option.getD_some] at h1
    rw [h1]
    exact (Classical.choose_spec (key i (by omega))).1
  rw [hl]
  refine ⟨hs.le, hs.mx, fun h0 => ?_⟩
  obtain ⟨b, off, e, hb, hc⟩ := hs.at_ h0
  refine ⟨b, off, e, hb, fun i hi j hj => ?_⟩
  rw [hc i hi j hj, (Classical.choose_spec (key i hi)).2, he i hi]
theorem u8_range {n : Int} (h : (Lit.int .u8 n).wf = true) : 0 ≤ n ∧ n ≤ 255 := by simpa [Lit.wf, IntKind.min, IntKind.max, IntKind.signed, IntKind.bits] using h
set_option maxRecDepth 100000 in
theorem u8_arg {W : World} {r : Reach} {base : Nat} {v : Value} {d : DataW H} {p : List MemPlace} (hv : Value.okWide Tryz.prog W r base 5 v) (h : DataW.Trod enc Tryz.prog W 0 (fun _ => true) true 5 v d p) :
    ∃ x : Nat, v = .int .u8 x ∧ x < 256 := by
  obtain ⟨x, rfl, _, _, wx⟩ := open_int Tryz.underlying5 hv h
  have hr : 0 ≤ x ∧ x ≤ 255 := by simpa [Lit.wf, IntKind.min, IntKind.max, IntKind.signed, IntKind.bits] using wx
  exact ⟨x.toNat, by rw [show ((x.toNat : Nat) : Int) = x by omega], by omega⟩
set_option maxRecDepth 100000 in
theorem u32_arg {W : World} {r : Reach} {base : Nat} {v : Value} {d : DataW H} {p : List MemPlace} (hv : Value.okWide Tryz.prog W r base 142 v) (h : DataW.Trod enc Tryz.prog W 0 (fun _ => true) true 142 v d p) :
    ∃ x : Nat, v = .int .u32 x ∧ x < 4294967296 := by
  obtain ⟨x, rfl, _, _, wx⟩ := open_int Tryz.underlying142 hv h
  have hr : 0 ≤ x ∧ x ≤ 4294967295 := by simpa [Lit.wf, IntKind.min, IntKind.max, IntKind.signed, IntKind.bits] using wx
  exact ⟨x.toNat, by rw [show ((x.toNat : Nat) : Int) = x by omega], by omega⟩
end
end Go.Proofs.YtogopcejapklgaaGreatDoor
