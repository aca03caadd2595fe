/- The same: expressions, statements, instructions. No program in sight. -/
import Derived.Test.YtcgpobeidlimkaaGreatDoorCpM
namespace Go.Proofs.YtcgpobeidlimkaaGreatDoor
open Go.RowKit

/-- Are two lists the same, element by element? -/
def eqW {α : Type} (f : α → α → Bool) (a b : List α) : Bool := decide (a.length = b.length) && (List.range a.length).all fun i => match a[i]?, b[i]? with | some x, some y => f x y | _, _ => false
theorem eqW_ne {α : Type} (f : α → α → Bool) {a b : List α} (h : a.length ≠ b.length) : eqW f a b = false := by
  unfold eqW; rw [decide_eq_false h]; rfl
theorem eqW_of {α : Type} (f : α → α → Bool) {a b : List α} (h : a.length = b.length) (hb : ∀ i (h1 : i < a.length) (h2 : i < b.length), f a[i] b[i] = true) : eqW f a b = true := by
  unfold eqW
  rw [decide_eq_true h, Bool.true_and, List.all_eq_true]
  intro i hi
  have h1 : i < a.length := by simpa using hi
  have h2 : i < b.length := by omega
  simp only [List.getElem?_eq_getElem h1, List.getElem?_eq_getElem h2]
  exact hb i h1 h2
theorem eqW_bad {α : Type} (f : α → α → Bool) {a b : List α} (i : Nat) (h1 : i < a.length) (h2 : i < b.length) (h : f a[i] b[i] = false) : eqW f a b = false := by
  unfold eqW
  have : ((List.range a.length).all fun i => match a[i]?, b[i]? with | some x, some y => f x y | _, _ => false) = false := by
    rw [List.all_eq_false]
    refine ⟨i, by simpa using h1, ?_⟩
    simp only [List.getElem?_eq_getElem h1, List.getElem?_eq_getElem h2, h]
    decide
  rw [this, Bool.and_false]
theorem eqW_iff {α : Type} (f : α → α → Bool) {a b : List α} : eqW f a b = true ↔ a.length = b.length ∧ ∀ i (h1 : i < a.length) (h2 : i < b.length), f a[i] b[i] = true := by
  constructor
  · intro h
    have hl : a.length = b.length := by
      by_cases e : a.length = b.length
      · exact e
      · rw [eqW_ne f e] at h; cases h
    refine ⟨hl, fun i h1 h2 => ?_⟩
    cases hx : f a[i] b[i]
    · rw [eqW_bad f i h1 h2 hx] at h; cases h
    · rfl
  · intro h; exact eqW_of f h.1 h.2
/-- Two lists are the same just if they are equal. -/
theorem eqW_eq {α : Type} (f : α → α → Bool) {a b : List α} (hf : ∀ x, x ∈ a → ∀ y, (f x y = true ↔ x = y)) : eqW f a b = true ↔ a = b := by
  rw [eqW_iff]
  constructor
  · rintro ⟨hl, h⟩
    exact List.ext_getElem hl fun i h1 h2 => (hf _ (List.getElem_mem h1) _).1 (h i h1 h2)
  · rintro rfl
    exact ⟨rfl, fun i h1 h2 => (hf _ (List.getElem_mem h1) _).2 rfl⟩

/-- Are two expressions the same? -/
noncomputable def eqE (a b : Ex) : Bool := @decide (a = b) (Classical.propDecidable _)
theorem eqE_iff (a b : Ex) : eqE a b = true ↔ a = b := @decide_eq_true_iff _ (Classical.propDecidable _)
theorem eqE_self (a : Ex) : eqE a a = true := (eqE_iff a a).2 rfl
theorem eqE_mk (k n o k' n' o' : Int) (l l' : List Ex) : eqE (.mk k n o l) (.mk k' n' o' l') = (k == k' && n == n' && o == o' && eqW eqE l l') := by
  have hW : eqW eqE l l' = true ↔ l = l' := eqW_eq eqE fun x _ y => eqE_iff x y
  rw [Bool.eq_iff_iff, eqE_iff]
  simp only [Bool.and_eq_true, beq_iff_eq, hW, Ex.mk.injEq, and_assoc]
/-- Are two instructions the same? -/
def insEq (x y : Ins) : Prop := x.op = y.op ∧ x.reg = y.reg ∧ x.v = y.v ∧ x.to = y.to ∧ x.a = y.a ∧ x.b = y.b
end Go.Proofs.YtcgpobeidlimkaaGreatDoor
