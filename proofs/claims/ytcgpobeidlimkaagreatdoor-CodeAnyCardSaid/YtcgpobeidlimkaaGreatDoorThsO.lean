/- Threads of instructions that a call collects. -/
import Derived.Test.YtcgpobeidlimkaaGreatDoorCpR
namespace Go.Proofs.YtcgpobeidlimkaaGreatDoor
open Go.RowKit

theorem thsl_info : ∃ i, Tryz.prog.info? 43 = some i ∧ i.zero = some (.slice none 0 0) ∧ i.size = 1 ∧ i.bytes = 24 := by
  have h : (Tryz.prog.info? 43).map (fun i => (i.zero, i.size, i.bytes)) = some (some (.slice none 0 0), 1, 24) := by kernel_rfl
  cases hi : Tryz.prog.info? 43 with
  | none => rw [hi] at h; cases h
  | some i =>
    rw [hi] at h
    simp only [Option.map_some, Option.some.injEq, Prod.mk.injEq] at h
    exact ⟨i, rfl, h.1, h.2.1, h.2.2⟩

/-- Rows of instructions that have been collected: each in a block of its own. -/
def ThsO (w : World) (B : Nat) (S : Nat → Prop) (v : Value) (T : List (List Ins)) : Prop :=
  ∃ LL : List (List Ins × Value), T = LL.map (·.1) ∧ w.ownsRow B 43 1 v LL.length (LL.map (·.2)) ∧ (∀ y ∈ LL, InsO w B S y.2 y.1) ∧ (∀ y ∈ LL, y.2.ownBlock = none ∨ y.2.ownBlock ≠ v.ownBlock) ∧
    LL.Pairwise fun x y => x.2.ownBlock = none ∨ x.2.ownBlock ≠ y.2.ownBlock
namespace ThsO
variable {w w' : World} {B : Nat} {S : Nat → Prop} {v v' : Value} {T : List (List Ins)}
theorem nil_ : ThsO w B S (.slice none 0 0) [] := ⟨[], rfl, World.ownsRow_nil _ _ _ _, fun _ h => (by simp at h), fun _ h => (by simp at h), .nil⟩
theorem own (h : ThsO w B S v T) : ∀ k, v.ownBlock = some k → B ≤ k ∧ k < w.heap.size := by
  obtain ⟨LL, _, h1, _⟩ := h
  exact h1.lt
theorem sl (h : ThsO w B S v T) : ∃ a c, v = .slice a T.length c := by
  obtain ⟨LL, rfl, h1, _⟩ := h
  obtain ⟨a, c, e⟩ := own_at h1
  exact ⟨a, c, by rw [e, List.length_map]⟩
/-- Kept while blocks are written that lie below B. -/
theorem kept {r : Option Nat} (h : ThsO w B S v T) (hg : w.grownBy w' r) (hr : ∀ k, r = some k → k < B) (hS : ∀ b, S b → b < w.heap.size ∧ some b ≠ r) : ThsO w' B S v T := by
  obtain ⟨LL, h0, h1, h2, h3, h4⟩ := h
  have key : ∀ {u : Value}, (∀ k, u.ownBlock = some k → B ≤ k) → u.ownBlock = none ∨ u.ownBlock ≠ r := fun {u} hu => by
    rcases he : u.ownBlock with _ | k
    · exact .inl rfl
    · right
      intro e
      have := hu k he
      have := hr k e.symm
      omega
  refine ⟨LL, h0, h1.kept hg (key fun k hk => (h1.lt k hk).1), fun y hy => ?_, h3, h4⟩
  exact (h2 y hy).kept hg (key fun k hk => ((h2 y hy).own k hk).1) hS
theorem later {n : Nat} (h : ThsO w B S v T) (hg : Below n w w') (hn : w.heap.size ≤ n) (hS : ∀ b, S b → b < w.heap.size) : ThsO w' B S v T :=
  h.kept (r := none) ⟨hg.os, hg.tape, hg.output, hg.size, fun k hk _ => hg.block k (by omega)⟩ (fun k e => by cases e) fun b hb => ⟨hS b hb, by simp⟩
/-- Behind append of one more, that lies in a block of its own, new. -/
theorem app {w0 : World} {B' : Nat} {u : Value} {y : List Ins} (h0 : ThsO w0 B S v T) (hb : Below w0.heap.size w0 w) (hu : InsO w B' S u y) (hB' : w0.heap.size ≤ B') (hBle : B ≤ w0.heap.size) (hS : ∀ b, S b → b < B)
    (h : ∃ LL : List (List Ins × Value), T = LL.map (·.1) ∧ w'.ownsRow B 43 1 v' (LL.length + 1) (LL.map (·.2) ++ [u]) ∧ (∀ y ∈ LL, InsO w0 B S y.2 y.1) ∧ (∀ y ∈ LL, y.2.ownBlock = none ∨ y.2.ownBlock ≠ v.ownBlock) ∧ LL.Pairwise fun x y => x.2.ownBlock = none ∨ x.2.ownBlock ≠ y.2.ownBlock)
    (hv : ∀ k, v.ownBlock = some k → k < w0.heap.size) (hg : w.grownBy w' v.ownBlock) (hat : v'.ownBlock = v.ownBlock ∨ v'.ownBlock = some w.heap.size) : ThsO w' B S v' (T ++ [y]) := by
  obtain ⟨LL, rfl, h1, h2, h3, h4⟩ := h
  have hSw : ∀ b, S b → b < w.heap.size ∧ some b ≠ v.ownBlock := fun b hb' => ⟨by have := hS b hb'; have := hb.size; omega, fun e => by
    obtain ⟨_, _, hh, _⟩ := h0
    have := (hh.lt b e.symm).1
    have := hS b hb'
    omega⟩
  have hold : ∀ z ∈ LL, InsO w' B S z.2 z.1 := fun z hz => (kept_below (h2 z hz) hb (fun b hb' => by have := hS b hb'; omega)).kept hg (h3 z hz) hSw
  have hne : ∀ {q : Value}, (∀ k, q.ownBlock = some k → k < w.heap.size) → (q.ownBlock = none ∨ q.ownBlock ≠ v.ownBlock) → q.ownBlock = none ∨ q.ownBlock ≠ v'.ownBlock := fun {q} hq hq2 => by
    rcases hat with e | e
    · rw [e]; exact hq2
    · rcases hk : q.ownBlock with _ | k
      · exact .inl rfl
      · right
        rw [e]
        intro e2
        have := hq k hk
        simp at e2; omega
  have huv : u.ownBlock = none ∨ u.ownBlock ≠ v.ownBlock := by
    rcases hk : u.ownBlock with _ | k
    · exact .inl rfl
    · right
      intro e
      have := (hu.own k hk).1
      have := hv k e.symm
      omega
  refine ⟨LL ++ [(y, u)], by simp, by simpa using h1, fun z hz => ?_, fun z hz => ?_, ?_⟩
  · rcases List.mem_append.1 hz with hz | hz
    · exact hold z hz
    · simp at hz; subst hz
      exact (hu.kept hg huv hSw).down (by omega)
  · rcases List.mem_append.1 hz with hz | hz
    · exact hne (fun k hk => by have := ((h2 z hz).own k hk).2; have := hb.size; omega) (h3 z hz)
    · simp at hz; subst hz
      exact hne (fun k hk => (hu.own k hk).2) huv
  · rw [List.pairwise_append]
    refine ⟨h4, List.pairwise_singleton _ _, fun p hp q hq => ?_⟩
    simp at hq; subst hq
    rcases hk : p.2.ownBlock with _ | k
    · exact .inl rfl
    · right
      intro e
      have := ((h2 p hp).own k hk).2
      have := (hu.own k e.symm).1
      omega
/-- As threads. -/
theorem ths (h : ThsO w B S v T) : ∃ a cap, v = .slice a T.length cap ∧ ThsIn w (fun b => S b ∨ (B ≤ b ∧ b < w.heap.size)) a T.length cap T := by
  obtain ⟨LL, rfl, h1, h2, _, _⟩ := h
  have hrow : ∀ y ∈ LL, ∃ a c, y.2 = .slice a y.1.length c ∧ InsRow w (fun b => S b ∨ (B ≤ b ∧ b < w.heap.size)) a y.1.length c y.1 := fun y hy => (h2 y hy).row
  obtain ⟨a, cap, rfl⟩ := own_at h1
  classical
  refine ⟨a, cap, by simp, by simp, fun i => if h : i < LL.length then (hrow LL[i] (List.getElem_mem h)).choose else none, fun i => if h : i < LL.length then (hrow LL[i] (List.getElem_mem h)).choose_spec.choose else 0, ?_, fun i hi => ?_⟩
  · have h' := h1
    obtain ⟨_, h⟩ := h1
    rw [List.length_map]
    rcases h with ⟨e, h0⟩ | ⟨g, cap', cur, e, hb, hg, hle, hcm, hsz, htk⟩
    · have h0' : LL.length = 0 := h0
      simp only [Value.slice.injEq] at e
      obtain ⟨rfl, -, rfl⟩ := e
      exact ⟨by omega, Nat.zero_le _, fun hp => absurd hp (by omega)⟩
    · simp only [Value.slice.injEq, true_and] at e
      obtain ⟨rfl, rfl⟩ := e
      refine ⟨hle, hcm, fun _ => ⟨g, 0, rfl, .inr ⟨hb, (Array.getElem?_eq_some_iff.1 hg).1⟩, fun i hi j hj => ?_⟩⟩
      obtain rfl : j = 0 := by omega
      have hc := h'.cells (g := g) rfl i LL[i].2 (by simp [hi])
      rw [Addr.add_lit] at hc
      have e2 := (hrow LL[i] (List.getElem_mem hi)).choose_spec.choose_spec.1
      simp only [dif_pos hi, List.getElem?_map, List.getElem?_eq_getElem hi, Option.map_some, Option.getD_some]
      rw [Nat.mul_one, Nat.add_zero, hc]
      exact congrArg some e2
  · have hi' : i < LL.length := by simpa using hi
    simp only [dif_pos hi', List.getElem_map]
    exact (hrow LL[i] (List.getElem_mem hi')).choose_spec.choose_spec.2
end ThsO

/-- append of a thread. -/
theorem step_thsO {ops : Array Oper} {o : Oper} {a : Act} {w w0 : World} {B B' : Nat} {S : Nat → Prop} {K : Act → World → Prop} {Q : Exit → Act → World → Prop} {E : Prop} (s x : Operand) (v u : Value) (T : List (List Ins)) (y : List Ins)
    (hgd : o.guard = none) (ho : o.op = .call { callee := .builtin .append, args := #[s, x], argTypes := #[28, 28] })
    (hsv : a.eval s = v) (h0 : ThsO w0 B S v T) (hbl : Below w0.heap.size w0 w) (hu : InsO w B' S u y) (hB' : w0.heap.size ≤ B') (hBle : B ≤ w0.heap.size) (hS : ∀ b, S b → b < B) (hsrc : ∃ A c, a.eval x = .slice A 1 c ∧ SrcAt w 1 A 1 [u]) (hb : T.length ≤ 1000)
    (h : ∀ A c w', ThsO w' B S (.slice A (T.length + 1) c) (T ++ [y]) → w.grownBy w' v.ownBlock → ((Value.slice A (T.length + 1) c).ownBlock = v.ownBlock ∨ (Value.slice A (T.length + 1) c).ownBlock = some w.heap.size) → K (a.put o.dst (.slice A (T.length + 1) c)) w') :
    if Region.wanted o (yielded ops a.tmps) = true then Oper.wp Tryz.prog o a w K Q else E := by
  have h0' := h0
  obtain ⟨LL, rfl, h1, h2, h3, h4⟩ := h0
  obtain ⟨i0, hi, hz0, hz1, hz2⟩ := thsl_info
  rw [List.length_map] at hb h
  obtain ⟨au, cu, rfl⟩ := hu.sl
  have hvlt : ∀ k, v.ownBlock = some k → k < w0.heap.size := fun k hk => (h1.lt k hk).2
  have hown : w.ownsRow B 43 1 v LL.length (LL.map (·.2)) := h1.kept (row := none) ⟨hbl.os, hbl.tape, hbl.output, hbl.size, fun k hk _ => hbl.block k hk⟩ (by cases v.ownBlock <;> simp)
  refine step_app hgd s x ho Tryz.underlying28 hi hz0 hz1 hz2 rfl (by decide) v LL.length (LL.map (·.2)) hsv hown 1 [.slice au y.length cu] hsrc (by intro q hq; simp at hq; subst hq; rfl) (by simp only [maxLen]; omega) (by omega) (by have := hbl.size; omega) fun v' w' g1 g2 g3 => ?_
  obtain ⟨A', c', rfl⟩ := own_at g1
  exact h A' c' w' (ThsO.app h0' hbl hu hB' hBle hS ⟨LL, rfl, g1, h2, h3, h4⟩ hvlt g2 g3) g2 g3
end Go.Proofs.YtcgpobeidlimkaaGreatDoor
