/- Formulas that a call collects. -/
import Derived.Test.YtogopcejapklgaaGreatDoorBunF
import Derived.Test.YtogopcejapklgaaGreatDoorBunX
namespace Go.Proofs.YtogopcejapklgaaGreatDoor
open Go.RowKit

theorem own_at {w : World} {B : Nat} {T : TypeId} {sz n : Nat} {v : Value} {xs : List Value} (h : w.ownsRow B T sz v n xs) : ∃ a c, v = .slice a n c := by
  obtain ⟨_, h⟩ := h
  rcases h with ⟨rfl, rfl⟩ | ⟨g, cap, cur, rfl, _⟩
  · exact ⟨_, _, rfl⟩
  · exact ⟨_, _, rfl⟩

/-- A formula's six cells. -/
def fxC (y : Fm × (Nat → Value)) : List Value := (List.range 6).map y.2
theorem fxC_len (y : Fm × (Nat → Value)) : (fxC y).length = 6 := by simp [fxC]
theorem fxC_of {cs : List Value} (h : cs.length = 6) (x : Fm) : fxC (x, fun i => cs[i]?.getD default) = cs := by
  apply List.ext_getElem
  · rw [fxC_len, h]
  · intro i h1 h2
    simp [fxC, List.getElem?_eq_getElem h2]
theorem FmIn.len {w : World} {S : Nat → Prop} {cs : List Value} {x : Fm} (h : FmIn w S cs x) : cs.length = 6 := by cases h; rfl
theorem fxC_one {w : World} {S : Nat → Prop} {l : List (Fm × (Nat → Value))} (h : ∀ y ∈ l, FmIn w S (fxC y) y.1) : ∀ u ∈ l.flatMap fxC, u.oneCell' = true := by
  intro u hu
  obtain ⟨x, hm, hx⟩ := List.mem_flatMap.1 hu
  exact (h x hm).ones.2 u hx

theorem fm_info : (Tryz.prog.info? 30).map (fun i => (i.zero, i.size, i.bytes)) = some (some (.agg #[.int .i64 0, .int .i64 0, .int .i64 0, .int .i64 0, .int .i64 0, .slice none 0 0]), 6, 64) := by kernel_rfl
theorem info_parts_fm : ∃ i, Tryz.prog.info? 30 = some i ∧ i.zero = some (.agg #[.int .i64 0, .int .i64 0, .int .i64 0, .int .i64 0, .int .i64 0, .slice none 0 0]) ∧ i.size = 6 ∧ i.bytes = 64 := by
  have h := fm_info
  cases hi : Tryz.prog.info? 30 with
  | none => rw [hi] at h; cases h
  | some i =>
    rw [hi] at h
    simp only [Option.map_some, Option.some.injEq, Prod.mk.injEq] at h
    exact ⟨i, rfl, h.1, h.2.1, h.2.2⟩
/-- append of formulas. -/
theorem list_fm {ops : Array Oper} {rest : List Oper} {o : Oper} {a : Act} {w : World} {base : Nat} {Q : Exit → Act → World → Prop} (s x : Operand) (v : Value) (n : Nat) (xs : List Value) (m : Nat) (news : List Value)
    (hgd : o.guard = none) (ho : o.op = .call { callee := .builtin .append, args := #[s, x], argTypes := #[28, 28] })
    (hsv : a.eval s = v) (hown : w.ownsRow base 30 6 v n xs) (hsrc : ∃ A c, a.eval x = .slice A m c ∧ SrcAt w 6 A m news) (h1 : ∀ u ∈ news, u.oneCell' = true) (hb : n + m ≤ 100000) (hbase : base ≤ w.heap.size)
    (h : ∀ v' w', w'.ownsRow base 30 6 v' (n + m) (xs ++ news) → w.grownBy w' v.ownBlock → (v'.ownBlock = v.ownBlock ∨ v'.ownBlock = some w.heap.size) → wpList Tryz.prog ops Q rest (a.put o.dst v') w') :
    wpList Tryz.prog ops Q (o :: rest) a w := by
  obtain ⟨i0, hi, hz0, hz1, hz2⟩ := info_parts_fm
  exact list_app hgd s x ho Tryz.underlying28 hi hz0 hz1 hz2 rfl (by decide) v n xs hsv hown m news hsrc h1 (by simp only [maxLen]; omega) (by omega) hbase h

/-- Formulas that have been collected: a row of the call's own. -/
def FmO (w : World) (B : Nat) (S : Nat → Prop) (v : Value) (L : List Fm) : Prop :=
  ∃ LL : List (Fm × (Nat → Value)), L = LL.map (·.1) ∧ w.ownsRow B 30 6 v LL.length (LL.flatMap fxC) ∧ ∀ y ∈ LL, FmIn w S (fxC y) y.1
namespace FmO
variable {w w' : World} {B : Nat} {S S' : Nat → Prop} {v v' : Value} {L : List Fm}
theorem nil_ : FmO w B S (.slice none 0 0) [] := ⟨[], rfl, World.ownsRow_nil _ _ _ _, fun _ h => (by simp at h)⟩
theorem own (h : FmO w B S v L) : ∀ k, v.ownBlock = some k → B ≤ k ∧ k < w.heap.size := by
  obtain ⟨LL, _, h1, _⟩ := h
  exact h1.lt
theorem sl (h : FmO w B S v L) : ∃ a c, v = .slice a L.length c := by
  obtain ⟨LL, rfl, h1, _⟩ := h
  obtain ⟨a, c, e⟩ := own_at h1
  exact ⟨a, c, by rw [e, List.length_map]⟩
/-- Kept while other blocks are written. -/
theorem kept {r : Option Nat} (h : FmO w B S v L) (hg : w.grownBy w' r) (hr : v.ownBlock = none ∨ v.ownBlock ≠ r) (hS : ∀ b, S b → b < w.heap.size ∧ some b ≠ r) : FmO w' B S v L := by
  obtain ⟨LL, h0, h1, h2⟩ := h
  have hk : ∀ b o, S b → w'.cell? ⟨b, o, none⟩ = w.cell? ⟨b, o, none⟩ := fun b o hb => World.cell?_of_block (hg.block b (hS b hb).1 (hS b hb).2)
  exact ⟨LL, h0, h1.kept hg (by rcases hr with h | h; exact .inl h; exact .inr h), fun y hy => (h2 y hy).keep hk⟩
theorem widen (h : FmO w B S v L) (hS : ∀ b, S b → S' b) : FmO w B S' v L := by
  obtain ⟨LL, h0, h1, h2⟩ := h
  exact ⟨LL, h0, h1, fun y hy => (h2 y hy).widen hS⟩
/-- As a row. -/
theorem row (h : FmO w B S v L) : ∃ a cap, v = .slice a L.length cap ∧ FmRow w (fun b => S b ∨ (B ≤ b ∧ b < w.heap.size)) a L.length cap L := by
  obtain ⟨LL, rfl, h1, h2⟩ := h
  have h' := h1
  obtain ⟨_, h⟩ := h1
  rcases h with ⟨rfl, h0⟩ | ⟨g, cap, cur, rfl, hb, hg, hle, hcm, hsz, htk⟩
  · have : LL = [] := List.eq_nil_of_length_eq_zero h0
    subst this
    exact ⟨none, 0, rfl, FmRow.nil_⟩
  · refine ⟨some ⟨g, 0, none⟩, cap, by simp, rfl, fun i => (LL[i]?.map fxC).getD [], ?_, fun i hi => ?_⟩
    · rw [List.length_map]
      refine ⟨hle, hcm, fun _ => ⟨g, 0, rfl, .inr ⟨hb, (Array.getElem?_eq_some_iff.1 hg).1⟩, fun i hi j hj => ?_⟩⟩
      have hfl := flat_at fxC 6 fxC_len LL i j hi hj
      simp only [List.getElem?_eq_getElem hi, Option.map_some, Option.getD_some]
      have hlt : j < (fxC LL[i]).length := by rw [fxC_len]; exact hj
      rw [List.getElem?_eq_getElem hlt] at hfl ⊢
      have := h'.cells (g := g) rfl _ _ hfl
      have hadd : (⟨g, 0, none⟩ : Addr).add (i * 6 + j) = ⟨g, 0 + (i * 6 + j), none⟩ := by
        unfold Addr.add
        split
        · rename_i h; rw [h]
        · simp
      rwa [hadd] at this
    · have hi' : i < LL.length := by simpa using hi
      simp only [List.getElem?_eq_getElem hi', Option.map_some, Option.getD_some, List.getElem_map]
      exact (h2 LL[i] (List.getElem_mem hi')).widen fun b hb => .inl hb
end FmO

/-- One more formula, out of a new block. -/
theorem list_fmO {ops : Array Oper} {rest : List Oper} {o : Oper} {a : Act} {w : World} {base : Nat} {S : Nat → Prop} {Q : Exit → Act → World → Prop} (s x : Operand) (v : Value) (L : List Fm) (y : Fm) (cs : List Value) {T : TypeId}
    (hgd : o.guard = none) (ho : o.op = .call { callee := .builtin .append, args := #[s, x], argTypes := #[28, 28] })
    (hsv : a.eval s = v) (hx : a.eval x = .slice (some ⟨w.heap.size, 0, none⟩) 1 1) (hown : FmO w base S v L) (hy : FmIn w S cs y) (hb : L.length + 1 ≤ 100000) (hbase : base ≤ w.heap.size) (hS : ∀ b, S b → b < w.heap.size ∧ some b ≠ v.ownBlock)
    (h : ∀ A c w', FmO w' base S (.slice A (L.length + 1) c) (L ++ [y]) → (w.alloc (.cells cs.toArray T)).grownBy w' v.ownBlock → ((Value.slice A (L.length + 1) c).ownBlock = v.ownBlock ∨ (Value.slice A (L.length + 1) c).ownBlock = some (w.heap.size + 1)) → wpList Tryz.prog ops Q rest (a.put o.dst (.slice A (L.length + 1) c)) w') :
    wpList Tryz.prog ops Q (o :: rest) a (w.alloc (.cells cs.toArray T)) := by
  have hlen := hy.len
  have hones := hy.ones.2
  have hown1 : FmO (w.alloc (.cells cs.toArray T)) base S v L := hown.kept (World.grownBy_alloc w _ none) (by cases v.ownBlock <;> simp) fun b hb => ⟨(hS b hb).1, by simp⟩
  have hy1 : FmIn (w.alloc (.cells cs.toArray T)) S cs y := hy.keep fun b o hb => World.cell?_alloc_lt _ _ _ (hS b hb).1
  obtain ⟨LL, rfl, h1, h2⟩ := hown1
  rw [List.length_map] at hb h
  refine list_fm s x v LL.length (LL.flatMap fxC) 1 cs hgd ho hsv h1 ⟨_, _, hx, src_new (by rw [hlen])⟩ hones hb (by simp; omega) fun v' w' g1 g2 g3 => ?_
  obtain ⟨A', c', rfl⟩ := own_at g1
  have hk : ∀ b o, S b → w'.cell? ⟨b, o, none⟩ = (w.alloc (.cells cs.toArray T)).cell? ⟨b, o, none⟩ := fun b o hb => World.cell?_of_block (g2.block b (by have := (hS b hb).1; simp; omega) (hS b hb).2)
  refine h A' c' w' ⟨LL ++ [(y, fun i => cs[i]?.getD default)], by simp, ?_, fun z hz => ?_⟩ g2 (by simpa using g3)
  · rw [List.length_append, List.flatMap_append]
    have : [(y, fun i => cs[i]?.getD default)].flatMap fxC = cs := by simp [fxC_of hlen]
    rw [this]
    exact g1
  · rcases List.mem_append.1 hz with hz | hz
    · exact (h2 z hz).keep hk
    · simp only [List.mem_singleton] at hz
      subst hz
      rw [fxC_of hlen]
      exact hy1.keep hk
end Go.Proofs.YtogopcejapklgaaGreatDoor
