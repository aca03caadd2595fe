/- From a walk to a row: a law's call answers true and keeps what was there; code, states opened, with the reach of what lies deep in them. -/
import Derived.Test.YtphlbbnmligadaaGreatDoorRows
import Derived.Test.YtphlbbnmligadaaGreatDoorBunM
import Derived.Test.YtphlbbnmligadaaGreatDoorBunS
import Derived.SizedLaws
import Derived.LaidMore
import Derived.Stop.Joined
import Derived.ProofKit
import Derived.OpenShut
import Derived.Test.YtphlbbnmligadaaGreatDoorBunE
import Derived.Test.YtphlbbnmligadaaGreatDoorBunN
namespace Go.Proofs.YtphlbbnmligadaaGreatDoor
open Go.ChangeShapes Go.WideShapes Go.ChangeAt Go.RowKit

theorem prog_own : ownKnob Tryz.prog.godebug = none := by kernel_rfl
theorem prog_laid : laidOutB Tryz.prog = true := by kernel_rfl

section
variable {H : Type} {enc : TypeId × Value → H}

theorem trodAll_below {W W' : World} (hb : Below W.heap.size W W') : ∀ {ts : List TypeId} {vs : List Value} {ds : List (DataW H)} {ps : List MemPlace}, (∀ t ∈ ts, Tryz.prog.readableRec t = true ∧ t < Tryz.prog.types.size) →
    DataW.TrodAll enc Tryz.prog W 0 (fun _ => true) true ts vs ds ps → (∀ x ∈ ps, x.block < W.heap.size) → DataW.TrodAll enc Tryz.prog W' 0 (fun b => decide (b < W.heap.size)) true ts vs ds ps
  | [], [], [], _, _, h, _ => h
  | t :: _, _ :: _, _ :: _, _, hT, ⟨p, q, h1, h2, e⟩, hs => by
    have ht := hT t (List.mem_cons.2 (Or.inl rfl))
    subst e
    exact ⟨p, q, Below.trod prog_laid ht.1 ht.2 h1 hb (fun x hx => hs x (List.mem_append_left _ hx)),
      trodAll_below hb (fun t ht => hT t (List.mem_cons.2 (Or.inr ht))) h2 (fun x hx => hs x (List.mem_append_right _ hx)), rfl⟩

/-- THE ROW's STEP FOR A LAW: the walk answers true and keeps what was there. -/
theorem law_step {fn : Func} {f : FuncId} {s : ChangeSpec} {T : TypeId} {W : World} {args : Array Value} {ds gs : List (DataW H)} {before : List MemPlace}
    (hv : s.vars = []) (hs : s.fn H (ds ++ []) = { results := [.lit (.bool true)], args := ds }) (hr : fn.resultTypes = #[T]) (hT : Tryz.prog.underlying T = some .bool)
    (hrows : ∀ t ∈ fn.params.toList, Tryz.prog.readableRec t = true ∧ t < Tryz.prog.types.size)
    (hW : DataW.Whole enc Tryz.prog fn.params.toList s.vars false W args.toList ds gs before)
    (walk : Calls Tryz.prog f args W fun e W' => e = .returned (.bool true) ∧ Below W.heap.size W W') :
    Calls Tryz.prog f args W fun e W' => ∃ v, e = .returned v ∧ s.post enc Tryz.prog fn false true false false W args v W' := by
  refine walk.mono fun e W' ⟨he, hb⟩ => ⟨_, he, ?_⟩
  have hlt : ∀ p ∈ before, p.block < W.heap.size := fun p hp => hW.lt p hp
  have hW' := hW
  obtain ⟨p, q, hA, hV, rfl, _, _⟩ := hW
  rw [hv] at hV
  obtain ⟨rfl, rfl⟩ := trodVars_none hV
  have hres : (s.fn H (ds ++ [])).results = [.lit (.bool true)] := by rw [hs]
  have harg : (s.fn H (ds ++ [])).args = ds := by rw [hs]
  have hvar : (s.fn H (ds ++ [])).vars = [] := by rw [hs]
  refine ⟨ds, [], p ++ [], [], p, [], hW', ?_, ?_, ?_, World.keptBut_mono (fun x hx => ⟨hx, ?_⟩) (hb.frame (· ∈ p ++ [])), fun h => by cases h⟩
  · rw [hres, hr]
    exact trodAll_mk1 (shut_bool hT true)
  · rw [harg]
    exact trodAll_below hb hrows hA fun x hx => hlt x (List.mem_append_left _ hx)
  · rw [hvar, hv]
    rfl
  · rw [List.append_nil] at hx
    exact Or.inr (Or.inl hx)

theorem spot_of_cell {W : World} {a : Addr} {v : Value} (h : W.cell? a = some v) : a.spot = none := World.cell?_spot h

theorem addr_add_add (a : Addr) (i j : Nat) : (a.add i).add j = a.add (i + j) := by
  unfold Addr.add
  by_cases hi : i = 0 <;> by_cases hj : j = 0 <;> simp [hi, hj, Nat.add_assoc]
theorem addr_add_plain (b o n : Nat) : (⟨b, o, none⟩ : Addr).add n = ⟨b, o + n, none⟩ := by
  unfold Addr.add
  split
  · rename_i h; subst h; rfl
  · rfl

theorem weightsAll_mem {P : Program} {e : TypeId} {d : DataW H} {l : List (DataW H)} (h : d ∈ l) {k : Nat} (hk : k ∈ d.weights P e) : k ∈ DataW.weightsAll P e l := by
  induction l with
  | nil => cases h
  | cons x r ih =>
    simp only [DataW.weightsAll, List.mem_append]
    rcases List.mem_cons.1 h with rfl | h
    · exact Or.inl hk
    · exact Or.inr (ih h)

/-- All that a datum leads to lies within the reach. -/
def Near (P : Program) (t : TypeId) (d : DataW H) : Prop := ∀ k ∈ d.weights P t, k ≤ reachBytes

/-- Whatever reads as a slice lies where it leads; each element reads, with less fuel. -/
theorem sl_open {W : World} {held : Bool} {t e : TypeId} {sz fuel : Nat} {v : Value} {x : DataW H × List MemPlace} (ht : Tryz.prog.underlying t = some (.slice e)) (hC : Tryz.prog.cellsOf e = sz) (hsz : 0 < sz)
    (h : DataW.trod enc Tryz.prog W 0 (fun _ => true) held fuel t [v] = some x) (hw : Near Tryz.prog t x.1) :
    ∃ (a : Option Addr) (n cap : Nat) (C : Nat → List Value) (fuel' : Nat), v = .slice a n cap ∧ Sl W (In_ W) sz a n cap C ∧ n * Tryz.prog.bytesOf e ≤ reachBytes ∧ fuel' < fuel ∧
      ∀ i, i < n → (C i).length = sz ∧ ∃ y, DataW.trod enc Tryz.prog W 0 (fun _ => true) held fuel' e (C i) = some y ∧ Near Tryz.prog e y.1 := by
  rcases DataW.trod_slice ht h with ⟨hc, _⟩ | ⟨a, len, cap, elems, rest, n, hf, hcs, hx, _, hl, hm, hlen, hel, _, _⟩
  · refine ⟨none, 0, 0, fun _ => [], 0, by simpa using hc, .nil, by simp, ?_, fun i hi => absurd hi (by omega)⟩
    cases fuel with
    | zero => simp [DataW.trod] at h
    | succ n => omega
  · subst hf
    rw [hx] at hw
    unfold Near at hw
    simp only [DataW.weights, ht, List.mem_cons, List.mem_append] at hw
    have hreach : len * Tryz.prog.bytesOf e ≤ reachBytes := by
      have h1 := hw _ (Or.inl rfl)
      rw [List.length_map, List.length_map, hlen] at h1
      exact Nat.le_trans (Nat.mul_le_mul_right _ (Nat.le_add_right _ _)) h1
    have key : ∀ i, i < len → ∃ cs, (cs.length = sz ∧ ∀ j, j < sz → W.cell? (a.add (i * sz + j)) = cs[j]?) ∧ ∃ y, DataW.trod enc Tryz.prog W 0 (fun _ => true) held n e cs = some y ∧ Near Tryz.prog e y.1 := by
      intro i hi
      have h1 := hel i hi
      rw [hC, List.getElem?_eq_getElem (by omega)] at h1
      obtain ⟨cs, h2, h3⟩ := Option.bind_eq_some_iff.1 h1
      obtain ⟨_, hl1, hcell⟩ := World.cells?_some h2
      refine ⟨cs, ⟨hl1, fun j hj => ?_⟩, _, h3, fun k hk => ?_⟩
      · rw [← addr_add_add]
        exact hcell j hj
      · exact hw k (Or.inr (Or.inl (weightsAll_mem (List.mem_map.2 ⟨_, List.getElem_mem (by omega), rfl⟩) hk)))
    classical
    refine ⟨some a, len, cap, fun i => if hi : i < len then Classical.choose (key i hi) else [], n, by simpa using hcs, ⟨hl, hm, fun h0 => ?_⟩, hreach, Nat.lt_succ_self _, fun i hi => ?_⟩
    · obtain ⟨cs, ⟨hl0, hc0⟩, _⟩ := key 0 h0
      have h5 := hc0 0 hsz
      rw [List.getElem?_eq_getElem (by omega)] at h5
      have hsp := World.cell?_spot h5
      have hlt := World.block_lt_of_cell? _ _ h5
      obtain ⟨b, off, spot⟩ := a
      have hsp0 : spot = none := by simpa [Addr.add] using hsp
      subst hsp0
      refine ⟨b, off, rfl, by simpa [Addr.add, In_] using hlt, fun i hi j hj => ?_⟩
      have h6 := (Classical.choose_spec (key i hi)).1.2 j hj
      rw [addr_add_plain] at h6
      rw [dif_pos hi]
      exact h6
    · simp only [dif_pos hi]
      exact ⟨(Classical.choose_spec (key i hi)).1.1, (Classical.choose_spec (key i hi)).2⟩

/-- A field of what reads as a struct. -/
theorem field_open {W : World} {held : Bool} {t : TypeId} {fs : Array Field} {fuel : Nat} {cs : List Value} {x : DataW H × List MemPlace} (ht : Tryz.prog.underlying t = some (.struct fs))
    (h : DataW.trod enc Tryz.prog W 0 (fun _ => true) held fuel t cs = some x) (hw : Near Tryz.prog t x.1) :
    ∃ n, n < fuel ∧ cs.length = Tryz.prog.cellsOf t ∧ ∀ (j : Nat) (f : Field), fs[j]? = some f → ∃ y, DataW.trod enc Tryz.prog W 0 (fun _ => true) held n f.type ((cs.drop f.offset).take (Tryz.prog.cellsOf f.type)) = some y ∧ Near Tryz.prog f.type y.1 := by
  obtain ⟨xs, n, rfl, hx, hlen, hxs, hf⟩ := DataW.trod_struct ht h
  refine ⟨n, Nat.lt_succ_self _, hlen, fun j f hj => ?_⟩
  have hj' : j < xs.length := by
    rw [hxs]
    exact (Array.getElem?_eq_some_iff.1 hj).1
  refine ⟨xs[j], by rw [hf j f hj, List.getElem?_eq_getElem hj'], fun k hk => ?_⟩
  refine hw k ?_
  rw [hx]
  simp only [DataW.weights, ht]
  exact DataW.weights_mem_each (j := j) (t := f.type) (d := xs[j].1) (by simp [hj]) (by simp [hj']) k hk
theorem near_each {ts : List TypeId} {ds : List (DataW H)} (h : (DataW.weightsEach Tryz.prog ts ds).all (· ≤ reachBytes) = true) {j : Nat} {t : TypeId} {d : DataW H} (ht : ts[j]? = some t) (hd : ds[j]? = some d) : Near Tryz.prog t d := fun k hk => by
  have := List.all_eq_true.1 h _ (DataW.weights_mem_each ht hd k hk)
  simpa using this
theorem int_cell {W : World} {held : Bool} {fuel : Nat} {c : Value} {k : IntKind} {t : TypeId} {y : DataW H × List MemPlace} (ht : Tryz.prog.underlying t = some (.int k)) (h : DataW.trod enc Tryz.prog W 0 (fun _ => true) held fuel t [c] = some y) : ∃ n : Int, c = .int k n ∧ (Lit.int k n).wf = true := by
  obtain ⟨n, e, _, w⟩ := DataW.trod_int ht h
  simp only [List.cons.injEq, and_true] at e
  exact ⟨n, e, w⟩
end
end Go.Proofs.YtphlbbnmligadaaGreatDoor
namespace Go.Proofs.YtphlbbnmligadaaGreatDoor
open Go.ChangeShapes Go.WideShapes Go.ChangeAt Go.RowKit

theorem cellsInt : Tryz.prog.cellsOf 3 = 1 := by kernel_rfl
theorem cellsU8 : Tryz.prog.cellsOf 5 = 1 := by kernel_rfl
theorem cellsExs : Tryz.prog.cellsOf 42 = 1 := by kernel_rfl
theorem cellsEx : Tryz.prog.cellsOf 44 = 4 := by kernel_rfl
theorem bytesEx : Tryz.prog.bytesOf 44 = 48 := by kernel_rfl
theorem list_two {α : Type} {l : List α} (h : l.length = 2) : ∃ a b, l = [a, b] := by
  match l, h with
  | [a, b], _ => exact ⟨a, b, rfl⟩
theorem list_three {α : Type} {l : List α} (h : l.length = 3) : ∃ a b c, l = [a, b, c] := by
  match l, h with
  | [a, b, c], _ => exact ⟨a, b, c, rfl⟩
theorem list_four {α : Type} {l : List α} (h : l.length = 4) : ∃ a b c d, l = [a, b, c, d] := by
  match l, h with
  | [a, b, c, d], _ => exact ⟨a, b, c, d, rfl⟩
theorem list_six {α : Type} {l : List α} (h : l.length = 6) : ∃ a b c d e f, l = [a, b, c, d, e, f] := by
  match l, h with
  | [a, b, c, d, e, f], _ => exact ⟨a, b, c, d, e, f, rfl⟩
theorem list_twelve {α : Type} {l : List α} (h : l.length = 12) : ∃ a b c d e f g h i j k m, l = [a, b, c, d, e, f, g, h, i, j, k, m] := by
  match l, h with
  | [a, b, c, d, e, f, g, h, i, j, k, m], _ => exact ⟨a, b, c, d, e, f, g, h, i, j, k, m, rfl⟩

section
variable {H : Type} {enc : TypeId × Value → H} {W : World} {held : Bool}

set_option maxRecDepth 100000 in
theorem ex_open : ∀ (fuel : Nat) (cs : List Value) (x : DataW H × List MemPlace), DataW.trod enc Tryz.prog W 0 (fun _ => true) held fuel 44 cs = some x → Near Tryz.prog 44 x.1 → ∃ y : Ex, ExIn W (In_ W) cs y ∧ y.kids.length ≤ 140737488355328 := by
  intro fuel
  induction fuel using Nat.strongRecOn with
  | _ fuel ih =>
    intro cs x h hw
    obtain ⟨n, hn, hlen, hf⟩ := field_open Tryz.underlying44 h hw
    rw [cellsEx] at hlen
    obtain ⟨c0, c1, c2, c3, rfl⟩ := list_four hlen
    · skip
      obtain ⟨y0, h0, -⟩ := hf 0 _ rfl
      obtain ⟨y1, h1, -⟩ := hf 1 _ rfl
      obtain ⟨y2, h2, -⟩ := hf 2 _ rfl
      obtain ⟨y3, h3, w3⟩ := hf 3 _ rfl
      have h0 : DataW.trod enc Tryz.prog W 0 (fun _ => true) held n 3 (([c0, c1, c2, c3].drop 0).take (Tryz.prog.cellsOf 3)) = some y0 := h0
      have h1 : DataW.trod enc Tryz.prog W 0 (fun _ => true) held n 3 (([c0, c1, c2, c3].drop 1).take (Tryz.prog.cellsOf 3)) = some y1 := h1
      have h2 : DataW.trod enc Tryz.prog W 0 (fun _ => true) held n 5 (([c0, c1, c2, c3].drop 2).take (Tryz.prog.cellsOf 5)) = some y2 := h2
      have h3 : DataW.trod enc Tryz.prog W 0 (fun _ => true) held n 42 (([c0, c1, c2, c3].drop 3).take (Tryz.prog.cellsOf 42)) = some y3 := h3
      have w3 : Near Tryz.prog 42 y3.1 := w3
      rw [cellsInt] at h0 h1
      rw [cellsU8] at h2
      rw [cellsExs] at h3
      simp only [List.drop_succ_cons, List.drop_zero, List.take_succ_cons, List.take_zero] at h0 h1 h2 h3
      obtain ⟨k, rfl, wk⟩ := int_cell Tryz.underlying3 h0
      obtain ⟨m, rfl, wm⟩ := int_cell Tryz.underlying3 h1
      obtain ⟨o, rfl, wo⟩ := int_cell Tryz.underlying5 h2
      obtain ⟨a, len, cap, C, f', rfl, hs, hr, hf', hy⟩ := sl_open Tryz.underlying42 cellsEx (by omega) h3 w3
      rw [bytesEx] at hr
      unfold reachBytes at hr
      have key : ∀ i, i < len → ∃ y : Ex, ExIn W (In_ W) (C i) y := fun i hi => by
        obtain ⟨_, y, hy, wy⟩ := hy i hi
        obtain ⟨z, hz, _⟩ := ih f' (by omega) _ _ hy wy
        exact ⟨z, hz⟩
      classical
      let l : List Ex := (List.range len).map fun i => if hi : i < len then Classical.choose (key i hi) else .mk 0 0 0 []
      have hl : l.length = len := by simp [l]
      refine ⟨.mk k m o l, ?_, by show l.length ≤ _; rw [hl]; omega⟩
      have := ExIn.mk (w := W) (S := In_ W) k m o a cap l C wk wm wo (by rw [hl]; exact hs) (fun i hi => by
        have hi' : i < len := by omega
        have he : l[i] = Classical.choose (key i hi') := by simp [l, hi']
        rw [he]
        exact Classical.choose_spec (key i hi'))
      rwa [hl] at this

end
end Go.Proofs.YtphlbbnmligadaaGreatDoor
namespace Go.Proofs.YtphlbbnmligadaaGreatDoor
open Go.ChangeShapes Go.WideShapes Go.ChangeAt Go.RowKit

section
variable {H : Type} {enc : TypeId × Value → H}
set_option maxRecDepth 100000 in
theorem u8s_arg {W : World} {r : Reach} {base : Nat} {v : Value} {d : DataW H} {p : List MemPlace} (_hv : Value.okWide Tryz.prog W r base 22 v) (h : DataW.Trod enc Tryz.prog W 0 (fun _ => true) true 22 v d p) (hw : Near Tryz.prog 22 d) :
    ∃ a n cap, v = .slice a n cap ∧ U8s W (In_ W) a n cap := by
  obtain ⟨fuel, hf⟩ := h
  obtain ⟨a0, n0, cap0, rfl⟩ := okWide_slice Tryz.underlying22 _hv
  obtain ⟨a, len, cap, C, f', e3, hs, -, hf', hy⟩ := sl_open Tryz.underlying22 cellsU8 (by omega) hf hw
  have key : ∀ i, i < len → ∃ c : Nat, c < 256 ∧ C i = [.int .u8 (c : Int)] := fun i hi => by
    obtain ⟨_, y, hy, -⟩ := hy i hi
    obtain ⟨u, hu, _, wu⟩ := DataW.trod_int Tryz.underlying5 hy
    have hr : 0 ≤ u ∧ u ≤ 255 := by simpa [Lit.wf, IntKind.min, IntKind.max, IntKind.signed, IntKind.bits] using wu
    exact ⟨u.toNat, by omega, by rw [hu, show ((u.toNat : Nat) : Int) = u by omega]⟩
  refine ⟨a, len, cap, e3, hs.le, hs.mx, fun i hi => ?_⟩
  obtain ⟨b, off, e, hb, hc⟩ := hs.at_ (by omega)
  obtain ⟨c, h256, hC⟩ := key i hi
  have := hc i hi 0 (by omega)
  rw [hC] at this
  exact ⟨b, off, c, e, hb, h256, by simpa using this⟩
set_option maxRecDepth 100000 in
theorem u8_arg {W : World} {r : Reach} {base : Nat} {v : Value} {d : DataW H} {p : List MemPlace} (hv : Value.okWide Tryz.prog W r base 5 v) (h : DataW.Trod enc Tryz.prog W 0 (fun _ => true) true 5 v d p) :
    ∃ x : Nat, v = .int .u8 x ∧ x < 256 := by
  obtain ⟨x, rfl, _, _, wx⟩ := open_int Tryz.underlying5 hv h
  have hr : 0 ≤ x ∧ x ≤ 255 := by simpa [Lit.wf, IntKind.min, IntKind.max, IntKind.signed, IntKind.bits] using wx
  exact ⟨x.toNat, by rw [show ((x.toNat : Nat) : Int) = x by omega], by omega⟩
set_option maxRecDepth 100000 in
theorem int_arg {W : World} {r : Reach} {base : Nat} {v : Value} {d : DataW H} {p : List MemPlace} (hv : Value.okWide Tryz.prog W r base 3 v) (h : DataW.Trod enc Tryz.prog W 0 (fun _ => true) true 3 v d p) :
    ∃ x : Int, v = .int .i64 x ∧ (Lit.int .i64 x).wf = true := by
  obtain ⟨x, rfl, _, _, wx⟩ := open_int Tryz.underlying3 hv h
  exact ⟨x, rfl, wx⟩
end
end Go.Proofs.YtphlbbnmligadaaGreatDoor
namespace Go.Proofs.YtphlbbnmligadaaGreatDoor
open Go.ChangeShapes Go.WideShapes Go.ChangeAt Go.RowKit

theorem cellsSt : Tryz.prog.cellsOf 56 = 13 := by kernel_rfl
theorem cellsSts : Tryz.prog.cellsOf 53 = 1 := by kernel_rfl
theorem cellsTss : Tryz.prog.cellsOf 25 = 1 := by kernel_rfl
theorem cellsStr : Tryz.prog.cellsOf 9 = 1 := by kernel_rfl
theorem cellsStrs : Tryz.prog.cellsOf 24 = 1 := by kernel_rfl
theorem cellsPg : Tryz.prog.cellsOf 27 = 3 := by kernel_rfl
theorem bytesSts : Tryz.prog.bytesOf 53 = 24 := by kernel_rfl

theorem list_thirteen {α : Type} {l : List α} (h : l.length = 13) : ∃ a b c d e f g h i j k m n, l = [a, b, c, d, e, f, g, h, i, j, k, m, n] := by
  match l, h with
  | [a, b, c, d, e, f, g, h, i, j, k, m, n], _ => exact ⟨a, b, c, d, e, f, g, h, i, j, k, m, n, rfl⟩

section
variable {H : Type} {enc : TypeId × Value → H} {W : World} {held : Bool}

/-- From elements that open to a row. -/
theorem strow_of {a : Option Addr} {len cap : Nat} {C : Nat → List Value} (hs : Sl W (In_ W) 13 a len cap C) (key : ∀ i, i < len → ∃ y : St, StIn W (In_ W) (C i) y) : ∃ l : List St, l.length = len ∧ (Sl W (In_ W) 13 a l.length cap C) ∧ ∀ i (h : i < l.length), StIn W (In_ W) (C i) l[i] := by
  classical
  let l : List St := (List.range len).map fun i => if hi : i < len then Classical.choose (key i hi) else .mk 0 0 0 (.mk 0 0 0 []) (.mk 0 0 0 []) [] []
  have hl : l.length = len := by simp [l]
  refine ⟨l, hl, by rw [hl]; exact hs, fun i hi => ?_⟩
  have hi' : i < len := by omega
  have he : l[i] = Classical.choose (key i hi') := by simp [l, hi']
  rw [he]
  exact Classical.choose_spec (key i hi')

set_option maxRecDepth 100000 in
theorem st_open : ∀ (fuel : Nat) (cs : List Value) (x : DataW H × List MemPlace), DataW.trod enc Tryz.prog W 0 (fun _ => true) held fuel 56 cs = some x → Near Tryz.prog 56 x.1 → ∃ y : St, StIn W (In_ W) cs y := by
  intro fuel
  induction fuel using Nat.strongRecOn with
  | _ fuel ih =>
    intro cs x h hw
    obtain ⟨n, hn, hlen, hf⟩ := field_open Tryz.underlying56 h hw
    rw [cellsSt] at hlen
    obtain ⟨c0, c1, c2, u0, u1, u2, u3, v0, v1, v2, v3, c5, c6, rfl⟩ := list_thirteen hlen
    obtain ⟨y0, h0, -⟩ := hf 0 _ rfl
    obtain ⟨y1, h1, -⟩ := hf 1 _ rfl
    obtain ⟨y2, h2, -⟩ := hf 2 _ rfl
    obtain ⟨y3, h3, w3⟩ := hf 3 _ rfl
    obtain ⟨y4, h4, w4⟩ := hf 4 _ rfl
    obtain ⟨y5, h5, w5⟩ := hf 5 _ rfl
    obtain ⟨y6, h6, w6⟩ := hf 6 _ rfl
    have h0 : DataW.trod enc Tryz.prog W 0 (fun _ => true) held n 3 (([c0, c1, c2, u0, u1, u2, u3, v0, v1, v2, v3, c5, c6].drop 0).take (Tryz.prog.cellsOf 3)) = some y0 := h0
    have h1 : DataW.trod enc Tryz.prog W 0 (fun _ => true) held n 3 (([c0, c1, c2, u0, u1, u2, u3, v0, v1, v2, v3, c5, c6].drop 1).take (Tryz.prog.cellsOf 3)) = some y1 := h1
    have h2 : DataW.trod enc Tryz.prog W 0 (fun _ => true) held n 3 (([c0, c1, c2, u0, u1, u2, u3, v0, v1, v2, v3, c5, c6].drop 2).take (Tryz.prog.cellsOf 3)) = some y2 := h2
    have h3 : DataW.trod enc Tryz.prog W 0 (fun _ => true) held n 44 (([c0, c1, c2, u0, u1, u2, u3, v0, v1, v2, v3, c5, c6].drop 3).take (Tryz.prog.cellsOf 44)) = some y3 := h3
    have h4 : DataW.trod enc Tryz.prog W 0 (fun _ => true) held n 44 (([c0, c1, c2, u0, u1, u2, u3, v0, v1, v2, v3, c5, c6].drop 7).take (Tryz.prog.cellsOf 44)) = some y4 := h4
    have h5 : DataW.trod enc Tryz.prog W 0 (fun _ => true) held n 53 (([c0, c1, c2, u0, u1, u2, u3, v0, v1, v2, v3, c5, c6].drop 11).take (Tryz.prog.cellsOf 53)) = some y5 := h5
    have h6 : DataW.trod enc Tryz.prog W 0 (fun _ => true) held n 53 (([c0, c1, c2, u0, u1, u2, u3, v0, v1, v2, v3, c5, c6].drop 12).take (Tryz.prog.cellsOf 53)) = some y6 := h6
    have w5 : Near Tryz.prog 53 y5.1 := w5
    have w6 : Near Tryz.prog 53 y6.1 := w6
    rw [cellsInt] at h0 h1 h2
    rw [cellsEx] at h3 h4
    rw [cellsSts] at h5 h6
    simp only [List.drop_succ_cons, List.drop_zero, List.take_succ_cons, List.take_zero] at h0 h1 h2 h3 h4 h5 h6
    obtain ⟨k, rfl, wk⟩ := int_cell Tryz.underlying3 h0
    obtain ⟨m, rfl, wm⟩ := int_cell Tryz.underlying3 h1
    obtain ⟨o, rfl, wo⟩ := int_cell Tryz.underlying3 h2
    obtain ⟨ea, hea, -⟩ := ex_open _ _ _ h3 w3
    obtain ⟨eb, heb, -⟩ := ex_open _ _ _ h4 w4
    obtain ⟨ta, tn, tc, C, f', rfl, hs, -, hf', hy⟩ := sl_open Tryz.underlying53 cellsSt (by omega) h5 w5
    obtain ⟨ga, gn, gc, D, f'', rfl, gs, -, gf', gy⟩ := sl_open Tryz.underlying53 cellsSt (by omega) h6 w6
    obtain ⟨t, rfl, ht, htk⟩ := strow_of hs fun i hi => by
      obtain ⟨_, y, hy, wy⟩ := hy i hi
      exact ih f' (by omega) _ _ hy wy
    obtain ⟨e, rfl, he, hek⟩ := strow_of gs fun i hi => by
      obtain ⟨_, y, hy, wy⟩ := gy i hi
      exact ih f'' (by omega) _ _ hy wy
    exact ⟨.mk k m o ea eb t e, .mk k m o u0 u1 u2 u3 v0 v1 v2 v3 ea eb ta ga tc gc t e C D wk wm wo hea heb ht he htk hek⟩

theorem sts_open {fuel : Nat} {v : Value} {x : DataW H × List MemPlace} (h : DataW.trod enc Tryz.prog W 0 (fun _ => true) held fuel 53 [v] = some x) (hw : Near Tryz.prog 53 x.1) :
    ∃ a cap l, v = .slice a (List.length l) cap ∧ StRow W (In_ W) a (List.length l) cap l := by
  obtain ⟨a, len, cap, C, f', rfl, hs, -, -, hy⟩ := sl_open Tryz.underlying53 cellsSt (by omega) h hw
  obtain ⟨l, rfl, h1, h2⟩ := strow_of hs fun i hi => by
    obtain ⟨_, y, hy, wy⟩ := hy i hi
    exact st_open f' _ _ hy wy
  exact ⟨a, cap, l, rfl, rfl, C, h1, h2⟩

theorem tss_open {fuel : Nat} {v : Value} {x : DataW H × List MemPlace} (h : DataW.trod enc Tryz.prog W 0 (fun _ => true) held fuel 25 [v] = some x) (hw : Near Tryz.prog 25 x.1) :
    ∃ a cap t, v = .slice a (List.length t) cap ∧ TsIn W (In_ W) a (List.length t) cap t ∧ t.length ≤ 140737488355328 := by
  obtain ⟨a, len, cap, C, f', rfl, hs, hr, -, hy⟩ := sl_open Tryz.underlying25 cellsSts (by omega) h hw
  rw [bytesSts] at hr
  unfold reachBytes at hr
  have key : ∀ i, i < len → ∃ r : Option Addr × Nat × List St, C i = [.slice r.1 r.2.2.length r.2.1] ∧ StRow W (In_ W) r.1 r.2.2.length r.2.1 r.2.2 := fun i hi => by
    obtain ⟨hc, y, hy, wy⟩ := hy i hi
    obtain ⟨c, hc⟩ := List.length_eq_one_iff.1 hc
    rw [hc] at hy
    obtain ⟨a, cap, l, rfl, h1⟩ := sts_open hy wy
    exact ⟨(a, cap, l), hc, h1⟩
  classical
  let R : Nat → Option Addr × Nat × List St := fun i => if hi : i < len then Classical.choose (key i hi) else (none, 0, [])
  have hR : ∀ i (hi : i < len), R i = Classical.choose (key i hi) := fun i hi => by simp [R, hi]
  let t : List (List St) := (List.range len).map fun i => (R i).2.2
  have ht : t.length = len := by simp [t]
  have he : ∀ i (hi : i < t.length), t[i] = (R i).2.2 := fun i hi => by simp [t]
  have hk : ∀ i (hi : i < len), C i = [.slice (R i).1 (R i).2.2.length (R i).2.1] ∧ StRow W (In_ W) (R i).1 (R i).2.2.length (R i).2.1 (R i).2.2 := fun i hi => by
    rw [hR i hi]
    exact Classical.choose_spec (key i hi)
  refine ⟨a, cap, t, by rw [ht], ⟨rfl, fun i => (R i).1, fun i => (R i).2.1, ?_, fun i hi => ?_⟩, by omega⟩
  · rw [ht]
    refine ⟨hs.le, hs.mx, fun h0 => ?_⟩
    obtain ⟨b, off, e, hb, hc⟩ := hs.at_ h0
    refine ⟨b, off, e, hb, fun i hi j hj => ?_⟩
    have e2 : t[i]?.getD [] = (R i).2.2 := by rw [List.getElem?_eq_getElem (by omega), Option.getD_some, he i (by omega)]
    rw [hc i hi j hj, (hk i hi).1]
    show _ = [Value.slice (R i).1 (t[i]?.getD []).length (R i).2.1][j]?
    rw [e2]
  · rw [he i hi]
    exact (hk i (by omega)).2

theorem vrs_open {fuel : Nat} {v : Value} {x : DataW H × List MemPlace} (h : DataW.trod enc Tryz.prog W 0 (fun _ => true) held fuel 24 [v] = some x) (hw : Near Tryz.prog 24 x.1) :
    ∃ a cap l, v = .slice a (List.length l) cap ∧ VrIn W (In_ W) a (List.length l) cap l := by
  obtain ⟨a, len, cap, C, f', rfl, hs, -, -, hy⟩ := sl_open Tryz.underlying24 cellsStr (by omega) h hw
  have key : ∀ i, i < len → ∃ s : ByteArray, C i = [.string s] := fun i hi => by
    obtain ⟨hc, y, hy, -⟩ := hy i hi
    obtain ⟨s, e, -, -⟩ := DataW.trod_string Tryz.underlying9 hy
    exact ⟨s, e⟩
  classical
  let l : List ByteArray := (List.range len).map fun i => if hi : i < len then Classical.choose (key i hi) else ByteArray.empty
  have hl : l.length = len := by simp [l]
  have he : ∀ i (hi : i < len), C i = [.string (l[i]?.getD ByteArray.empty)] := fun i hi => by
    have e1 : l[i]?.getD ByteArray.empty = Classical.choose (key i hi) := by simp [l, hi]
    rw [e1]
    exact Classical.choose_spec (key i hi)
  refine ⟨a, cap, l, by rw [hl], rfl, ?_⟩
  rw [hl]
  refine ⟨hs.le, hs.mx, fun h0 => ?_⟩
  obtain ⟨b, off, e, hb, hc⟩ := hs.at_ h0
  refine ⟨b, off, e, hb, fun i hi j hj => ?_⟩
  rw [hc i hi j hj, he i hi]

set_option maxRecDepth 100000 in
/-- A program, as an argument. -/
theorem program_arg {r : Reach} {base : Nat} {v : Value} {d : DataW H} {p : List MemPlace} (hv : Value.okWide Tryz.prog W r base 27 v) (h : DataW.Trod enc Tryz.prog W 0 (fun _ => true) true 27 v d p) (hw : Near Tryz.prog 27 d) :
    ∃ (cs : List Value) (q : Pg), v = .agg cs.toArray ∧ PgIn W (In_ W) cs q ∧ q.ths.length ≤ 140737488355328 := by
  obtain ⟨cs, rfl, _⟩ := okWide_struct Tryz.underlying27 hv
  obtain ⟨fuel, hd⟩ := h
  obtain ⟨l⟩ := cs
  have hd : DataW.trod enc Tryz.prog W 0 (fun _ => true) true fuel 27 l = some (d, p) := by simpa [Value.cells] using hd
  obtain ⟨n, hn, hlen, hf⟩ := field_open Tryz.underlying27 hd hw
  rw [cellsPg] at hlen
  obtain ⟨c0, c1, c2, rfl⟩ := list_three hlen
  obtain ⟨y0, h0, w0⟩ := hf 0 _ rfl
  obtain ⟨y1, h1, -⟩ := hf 1 _ rfl
  obtain ⟨y2, h2, w2⟩ := hf 2 _ rfl
  have h0 : DataW.trod enc Tryz.prog W 0 (fun _ => true) true n 24 (([c0, c1, c2].drop 0).take (Tryz.prog.cellsOf 24)) = some y0 := h0
  have h1 : DataW.trod enc Tryz.prog W 0 (fun _ => true) true n 3 (([c0, c1, c2].drop 1).take (Tryz.prog.cellsOf 3)) = some y1 := h1
  have h2 : DataW.trod enc Tryz.prog W 0 (fun _ => true) true n 25 (([c0, c1, c2].drop 2).take (Tryz.prog.cellsOf 25)) = some y2 := h2
  rw [cellsStrs] at h0
  rw [cellsInt] at h1
  rw [cellsTss] at h2
  simp only [List.drop_succ_cons, List.drop_zero, List.take_succ_cons, List.take_zero] at h0 h1 h2
  obtain ⟨va, cv, vs, rfl, hvr⟩ := vrs_open h0 w0
  obtain ⟨dom, rfl, wd⟩ := int_cell Tryz.underlying3 h1
  obtain ⟨ta, ct, t, rfl, ht, rt⟩ := tss_open h2 w2
  exact ⟨_, ⟨vs, dom, t⟩, rfl, ⟨va, cv, ta, ct, rfl, hvr, ht, wd⟩, rt⟩
end
end Go.Proofs.YtphlbbnmligadaaGreatDoor
namespace Go.Proofs.YtphlbbnmligadaaGreatDoor
open Go.ChangeShapes Go.WideShapes Go.ChangeAt Go.RowKit

section
variable {H : Type} {enc : TypeId × Value → H} {W : World}
set_option maxRecDepth 100000 in
theorem expr_arg {r : Reach} {base : Nat} {v : Value} {d : DataW H} {p : List MemPlace} (hv : Value.okWide Tryz.prog W r base 44 v) (h : DataW.Trod enc Tryz.prog W 0 (fun _ => true) true 44 v d p) (hw : Near Tryz.prog 44 d) :
    ∃ (cs : List Value) (x : Ex), v = .agg cs.toArray ∧ ExIn W (In_ W) cs x := by
  obtain ⟨cs, rfl, _⟩ := okWide_struct Tryz.underlying44 hv
  obtain ⟨fuel, hd⟩ := h
  obtain ⟨l⟩ := cs
  have hd : DataW.trod enc Tryz.prog W 0 (fun _ => true) true fuel 44 l = some (d, p) := by simpa [Value.cells] using hd
  obtain ⟨x, hx, -⟩ := ex_open _ _ _ hd hw
  exact ⟨l, x, rfl, hx⟩
end
end Go.Proofs.YtphlbbnmligadaaGreatDoor
