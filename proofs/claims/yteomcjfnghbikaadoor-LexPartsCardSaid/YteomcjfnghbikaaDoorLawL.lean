/- From a walk to a row: a law's call answers true and keeps what was there. -/
import Derived.Test.YteomcjfnghbikaaDoorRows
import Derived.Test.YteomcjfnghbikaaDoorMem
import Derived.SizedLaws
import Derived.LaidMore
import Derived.Stop.Joined
import Derived.ProofKit
import Derived.OpenShut
namespace Go.Proofs.YteomcjfnghbikaaDoor
open Go.ChangeShapes Go.WideShapes Go.ChangeAt Go.RowKit

theorem prog_own : ownKnob Tryd.prog.godebug = none := by kernel_rfl
theorem prog_laid : laidOutB Tryd.prog = true := by kernel_rfl

section
variable {H : Type} {enc : TypeId × Value → H}

theorem trodAll_below {W W' : World} (hb : Below W.heap.size W W') : ∀ {ts : List TypeId} {vs : List Value} {ds : List (DataW H)} {ps : List MemPlace}, (∀ t ∈ ts, Tryd.prog.readableRec t = true ∧ t < Tryd.prog.types.size) →
    DataW.TrodAll enc Tryd.prog W 0 (fun _ => true) true ts vs ds ps → (∀ x ∈ ps, x.block < W.heap.size) → DataW.TrodAll enc Tryd.prog W' 0 (fun b => decide (b < W.heap.size)) true ts vs ds ps
  | [], [], [], _, _, h, _ => h
  | t :: _, _ :: _, _ :: _, _, hT, ⟨p, q, h1, h2, e⟩, hs => by
    have ht := hT t (List.mem_cons.2 (Or.inl rfl))
    subst e
    exact ⟨p, q, Below.trod prog_laid ht.1 ht.2 h1 hb (fun x hx => hs x (List.mem_append_left _ hx)),
      trodAll_below hb (fun t ht => hT t (List.mem_cons.2 (Or.inr ht))) h2 (fun x hx => hs x (List.mem_append_right _ hx)), rfl⟩

/-- THE ROW's STEP FOR A LAW: the walk answers true and keeps what was there. -/
theorem law_step {fn : Func} {f : FuncId} {s : ChangeSpec} {T : TypeId} {W : World} {args : Array Value} {ds gs : List (DataW H)} {before : List MemPlace}
    (hv : s.vars = []) (hs : s.fn H (ds ++ []) = { results := [.lit (.bool true)], args := ds }) (hr : fn.resultTypes = #[T]) (hT : Tryd.prog.underlying T = some .bool)
    (hrows : ∀ t ∈ fn.params.toList, Tryd.prog.readableRec t = true ∧ t < Tryd.prog.types.size)
    (hW : DataW.Whole enc Tryd.prog fn.params.toList s.vars false W args.toList ds gs before)
    (walk : Calls Tryd.prog f args W fun e W' => e = .returned (.bool true) ∧ Below W.heap.size W W') :
    Calls Tryd.prog f args W fun e W' => ∃ v, e = .returned v ∧ s.post enc Tryd.prog fn false true false false W args v W' := by
  refine walk.mono fun e W' ⟨he, hb⟩ => ⟨_, he, ?_⟩
  have hlt : ∀ p ∈ before, p.block < W.heap.size := fun p hp => hW.lt p hp
  have hW' := hW
  obtain ⟨p, q, hA, hV, rfl, _, _⟩ := hW
  rw [hv] at hV
  obtain ⟨rfl, rfl⟩ := trodVars_none hV
  have hres : (s.fn H (ds ++ [])).results = [.lit (.bool true)] := by rw [hs]
  have harg : (s.fn H (ds ++ [])).args = ds := by rw [hs]
  have hvar : (s.fn H (ds ++ [])).vars = [] := by rw [hs]
  refine ⟨ds, [], p ++ [], [], p, [], hW', ?_, ?_, ?_, World.keptBut_mono (fun x hx => ⟨hx, ?_⟩) (hb.frame (· ∈ p ++ [])), fun h => by cases h⟩
  · rw [hres, hr]
    exact trodAll_mk1 (shut_bool hT true)
  · rw [harg]
    exact trodAll_below hb hrows hA fun x hx => hlt x (List.mem_append_left _ hx)
  · rw [hvar, hv]
    rfl
  · rw [List.append_nil] at hx
    exact Or.inr (Or.inl hx)
end
end Go.Proofs.YteomcjfnghbikaaDoor
