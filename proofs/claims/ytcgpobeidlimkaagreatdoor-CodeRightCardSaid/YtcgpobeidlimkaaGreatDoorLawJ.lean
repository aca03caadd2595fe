/- From a walk to a row: a law's call answers true and keeps what was there; code, states opened, with the reach of what lies deep in them. -/
import Derived.Test.YtcgpobeidlimkaaGreatDoorRows
import Derived.Test.YtcgpobeidlimkaaGreatDoorMem
import Derived.Test.YtcgpobeidlimkaaGreatDoorCodM
import Derived.SizedLaws
import Derived.LaidMore
import Derived.Stop.Joined
import Derived.ProofKit
import Derived.OpenShut
namespace Go.Proofs.YtcgpobeidlimkaaGreatDoor
open Go.ChangeShapes Go.WideShapes Go.ChangeAt Go.RowKit

theorem prog_own : ownKnob Tryz.prog.godebug = none := by kernel_rfl
theorem prog_laid : laidOutB Tryz.prog = true := by kernel_rfl

section
variable {H : Type} {enc : TypeId × Value → H}

theorem trodAll_below {W W' : World} (hb : Below W.heap.size W W') : ∀ {ts : List TypeId} {vs : List Value} {ds : List (DataW H)} {ps : List MemPlace}, (∀ t ∈ ts, Tryz.prog.readableRec t = true ∧ t < Tryz.prog.types.size) →
    DataW.TrodAll enc Tryz.prog W 0 (fun _ => true) true ts vs ds ps → (∀ x ∈ ps, x.block < W.heap.size) → DataW.TrodAll enc Tryz.prog W' 0 (fun b => decide (b < W.heap.size)) true ts vs ds ps
  | [], [], [], _, _, h, _ => h
  | t :: _, _ :: _, _ :: _, _, hT, ⟨p, q, h1, h2, e⟩, hs => by
    have ht := hT t (List.mem_cons.2 (Or.inl rfl))
    subst e
    exact ⟨p, q, Below.trod prog_laid ht.1 ht.2 h1 hb (fun x hx => hs x (List.mem_append_left _ hx)),
      trodAll_below hb (fun t ht => hT t (List.mem_cons.2 (Or.inr ht))) h2 (fun x hx => hs x (List.mem_append_right _ hx)), rfl⟩

/-- THE ROW's STEP FOR A LAW: the walk answers true and keeps what was there. -/
theorem law_step {fn : Func} {f : FuncId} {s : ChangeSpec} {T : TypeId} {W : World} {args : Array Value} {ds gs : List (DataW H)} {before : List MemPlace}
    (hv : s.vars = []) (hs : s.fn H (ds ++ []) = { results := [.lit (.bool true)], args := ds }) (hr : fn.resultTypes = #[T]) (hT : Tryz.prog.underlying T = some .bool)
    (hrows : ∀ t ∈ fn.params.toList, Tryz.prog.readableRec t = true ∧ t < Tryz.prog.types.size)
    (hW : DataW.Whole enc Tryz.prog fn.params.toList s.vars false W args.toList ds gs before)
    (walk : Calls Tryz.prog f args W fun e W' => e = .returned (.bool true) ∧ Below W.heap.size W W') :
    Calls Tryz.prog f args W fun e W' => ∃ v, e = .returned v ∧ s.post enc Tryz.prog fn false true false false W args v W' := by
  refine walk.mono fun e W' ⟨he, hb⟩ => ⟨_, he, ?_⟩
  have hlt : ∀ p ∈ before, p.block < W.heap.size := fun p hp => hW.lt p hp
  have hW' := hW
  obtain ⟨p, q, hA, hV, rfl, _, _⟩ := hW
  rw [hv] at hV
  obtain ⟨rfl, rfl⟩ := trodVars_none hV
  have hres : (s.fn H (ds ++ [])).results = [.lit (.bool true)] := by rw [hs]
  have harg : (s.fn H (ds ++ [])).args = ds := by rw [hs]
  have hvar : (s.fn H (ds ++ [])).vars = [] := by rw [hs]
  refine ⟨ds, [], p ++ [], [], p, [], hW', ?_, ?_, ?_, World.keptBut_mono (fun x hx => ⟨hx, ?_⟩) (hb.frame (· ∈ p ++ [])), fun h => by cases h⟩
  · rw [hres, hr]
    exact trodAll_mk1 (shut_bool hT true)
  · rw [harg]
    exact trodAll_below hb hrows hA fun x hx => hlt x (List.mem_append_left _ hx)
  · rw [hvar, hv]
    rfl
  · rw [List.append_nil] at hx
    exact Or.inr (Or.inl hx)

theorem spot_of_cell {W : World} {a : Addr} {v : Value} (h : W.cell? a = some v) : a.spot = none := World.cell?_spot h

theorem addr_add_add (a : Addr) (i j : Nat) : (a.add i).add j = a.add (i + j) := by
  unfold Addr.add
  by_cases hi : i = 0 <;> by_cases hj : j = 0 <;> simp [hi, hj, Nat.add_assoc]
theorem addr_add_plain (b o n : Nat) : (⟨b, o, none⟩ : Addr).add n = ⟨b, o + n, none⟩ := by
  unfold Addr.add
  split
  · rename_i h; subst h; rfl
  · rfl

theorem weightsAll_mem {P : Program} {e : TypeId} {d : DataW H} {l : List (DataW H)} (h : d ∈ l) {k : Nat} (hk : k ∈ d.weights P e) : k ∈ DataW.weightsAll P e l := by
  induction l with
  | nil => cases h
  | cons x r ih =>
    simp only [DataW.weightsAll, List.mem_append]
    rcases List.mem_cons.1 h with rfl | h
    · exact Or.inl hk
    · exact Or.inr (ih h)

/-- All that a datum leads to lies within the reach. -/
def Near (P : Program) (t : TypeId) (d : DataW H) : Prop := ∀ k ∈ d.weights P t, k ≤ reachBytes

/-- Whatever reads as a slice lies where it leads; each element reads, with less fuel. -/
theorem sl_open {W : World} {held : Bool} {t e : TypeId} {sz fuel : Nat} {v : Value} {x : DataW H × List MemPlace} (ht : Tryz.prog.underlying t = some (.slice e)) (hC : Tryz.prog.cellsOf e = sz) (hsz : 0 < sz)
    (h : DataW.trod enc Tryz.prog W 0 (fun _ => true) held fuel t [v] = some x) (hw : Near Tryz.prog t x.1) :
    ∃ (a : Option Addr) (n cap : Nat) (C : Nat → List Value) (fuel' : Nat), v = .slice a n cap ∧ Sl W (In_ W) sz a n cap C ∧ n * Tryz.prog.bytesOf e ≤ reachBytes ∧ fuel' < fuel ∧
      ∀ i, i < n → (C i).length = sz ∧ ∃ y, DataW.trod enc Tryz.prog W 0 (fun _ => true) held fuel' e (C i) = some y ∧ Near Tryz.prog e y.1 := by
  rcases DataW.trod_slice ht h with ⟨hc, _⟩ | ⟨a, len, cap, elems, rest, n, hf, hcs, hx, _, hl, hm, hlen, hel, _, _⟩
  · refine ⟨none, 0, 0, fun _ => [], 0, by simpa using hc, .nil, by simp, ?_, fun i hi => absurd hi (by omega)⟩
    cases fuel with
    | zero => simp [DataW.trod] at h
    | succ n => omega
  · subst hf
    rw [hx] at hw
    unfold Near at hw
    simp only [DataW.weights, ht, List.mem_cons, List.mem_append] at hw
    have hreach : len * Tryz.prog.bytesOf e ≤ reachBytes := by
      have h1 := hw _ (Or.inl rfl)
      rw [List.length_map, List.length_map, hlen] at h1
      exact Nat.le_trans (Nat.mul_le_mul_right _ (Nat.le_add_right _ _)) h1
    have key : ∀ i, i < len → ∃ cs, (cs.length = sz ∧ ∀ j, j < sz → W.cell? (a.add (i * sz + j)) = cs[j]?) ∧ ∃ y, DataW.trod enc Tryz.prog W 0 (fun _ => true) held n e cs = some y ∧ Near Tryz.prog e y.1 := by
      intro i hi
      have h1 := hel i hi
      rw [hC, List.getElem?_eq_getElem (by omega)] at h1
      obtain ⟨cs, h2, h3⟩ := Option.bind_eq_some_iff.1 h1
      obtain ⟨_, hl1, hcell⟩ := World.cells?_some h2
      refine ⟨cs, ⟨hl1, fun j hj => ?_⟩, _, h3, fun k hk => ?_⟩
      · rw [← addr_add_add]
        exact hcell j hj
      · exact hw k (Or.inr (Or.inl (weightsAll_mem (List.mem_map.2 ⟨_, List.getElem_mem (by omega), rfl⟩) hk)))
    classical
    refine ⟨some a, len, cap, fun i => if hi : i < len then Classical.choose (key i hi) else [], n, by simpa using hcs, ⟨hl, hm, fun h0 => ?_⟩, hreach, Nat.lt_succ_self _, fun i hi => ?_⟩
    · obtain ⟨cs, ⟨hl0, hc0⟩, _⟩ := key 0 h0
      have h5 := hc0 0 hsz
      rw [List.getElem?_eq_getElem (by omega)] at h5
      have hsp := World.cell?_spot h5
      have hlt := World.block_lt_of_cell? _ _ h5
      obtain ⟨b, off, spot⟩ := a
      have hsp0 : spot = none := by simpa [Addr.add] using hsp
      subst hsp0
      refine ⟨b, off, rfl, by simpa [Addr.add, In_] using hlt, fun i hi j hj => ?_⟩
      have h6 := (Classical.choose_spec (key i hi)).1.2 j hj
      rw [addr_add_plain] at h6
      rw [dif_pos hi]
      exact h6
    · simp only [dif_pos hi]
      exact ⟨(Classical.choose_spec (key i hi)).1.1, (Classical.choose_spec (key i hi)).2⟩

/-- A field of what reads as a struct. -/
theorem field_open {W : World} {held : Bool} {t : TypeId} {fs : Array Field} {fuel : Nat} {cs : List Value} {x : DataW H × List MemPlace} (ht : Tryz.prog.underlying t = some (.struct fs))
    (h : DataW.trod enc Tryz.prog W 0 (fun _ => true) held fuel t cs = some x) (hw : Near Tryz.prog t x.1) :
    ∃ n, n < fuel ∧ cs.length = Tryz.prog.cellsOf t ∧ ∀ (j : Nat) (f : Field), fs[j]? = some f → ∃ y, DataW.trod enc Tryz.prog W 0 (fun _ => true) held n f.type ((cs.drop f.offset).take (Tryz.prog.cellsOf f.type)) = some y ∧ Near Tryz.prog f.type y.1 := by
  obtain ⟨xs, n, rfl, hx, hlen, hxs, hf⟩ := DataW.trod_struct ht h
  refine ⟨n, Nat.lt_succ_self _, hlen, fun j f hj => ?_⟩
  have hj' : j < xs.length := by
    rw [hxs]
    exact (Array.getElem?_eq_some_iff.1 hj).1
  refine ⟨xs[j], by rw [hf j f hj, List.getElem?_eq_getElem hj'], fun k hk => ?_⟩
  refine hw k ?_
  rw [hx]
  simp only [DataW.weights, ht]
  exact DataW.weights_mem_each (j := j) (t := f.type) (d := xs[j].1) (by simp [hj]) (by simp [hj']) k hk
theorem near_each {ts : List TypeId} {ds : List (DataW H)} (h : (DataW.weightsEach Tryz.prog ts ds).all (· ≤ reachBytes) = true) {j : Nat} {t : TypeId} {d : DataW H} (ht : ts[j]? = some t) (hd : ds[j]? = some d) : Near Tryz.prog t d := fun k hk => by
  have := List.all_eq_true.1 h _ (DataW.weights_mem_each ht hd k hk)
  simpa using this
theorem int_cell {W : World} {held : Bool} {fuel : Nat} {c : Value} {k : IntKind} {t : TypeId} {y : DataW H × List MemPlace} (ht : Tryz.prog.underlying t = some (.int k)) (h : DataW.trod enc Tryz.prog W 0 (fun _ => true) held fuel t [c] = some y) : ∃ n : Int, c = .int k n ∧ (Lit.int k n).wf = true := by
  obtain ⟨n, e, _, w⟩ := DataW.trod_int ht h
  simp only [List.cons.injEq, and_true] at e
  exact ⟨n, e, w⟩
end
end Go.Proofs.YtcgpobeidlimkaaGreatDoor
