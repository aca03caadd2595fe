/- Does code lead forwards? And how many stores there are. -/
import Derived.Test.YtekmcoflagajkaaGreatDoorCodD
import Derived.Test.YtekmcoflagajkaaGreatDoorBunD
import Derived.Test.YtekmcoflagajkaaGreatDoorBunM
import Derived.Test.YtekmcoflagajkaaGreatDoorBunS
import Derived.Deep.CutRange
import Derived.Deep.CutBlock
namespace Go.Proofs.YtekmcoflagajkaaGreatDoor
open Go.RowKit

def backI (x : Ins) (k : Nat) : Bool := (x.op == 12 || x.op == 13) && decide (x.to ≤ k)
/-- Does none of the first n lead back? -/
def fwdR (l : List Ins) (n : Nat) : Prop := ∀ k (h : k < l.length), k < n → backI l[k] k = false
def fwdT (t : List (List Ins)) (n : Nat) : Prop := ∀ k (h : k < t.length), k < n → fwdR t[k] t[k].length
/-- Does code lead forwards? -/
def fwdB (t : List (List Ins)) : Bool := t.all fun l => (List.range l.length).all fun k => match l[k]? with | some x => !backI x k | none => true
theorem fwdB_bad {t : List (List Ins)} {i k : Nat} (hi : i < t.length) (hk : k < t[i].length) (h : backI t[i][k] k = true) : fwdB t = false := by
  unfold fwdB
  rw [List.all_eq_false]
  refine ⟨t[i], List.getElem_mem hi, ?_⟩
  rw [Bool.not_eq_true, List.all_eq_false]
  exact ⟨k, by simpa using hk, by simp [hk, h]⟩
theorem fwdB_good {t : List (List Ins)} (h : fwdT t t.length) : fwdB t = true := by
  unfold fwdB
  rw [List.all_eq_true]
  intro l hl
  obtain ⟨i, hi, rfl⟩ := List.getElem_of_mem hl
  rw [List.all_eq_true]
  intro k hk
  have hk2 : k < t[i].length := by simpa using hk
  simp [hk2, h i hi hi k hk2 hk2]
theorem fwdR_step {l : List Ins} {k : Nat} (hk : k < l.length) (h : fwdR l k) (hb : backI l[k] k = false) : fwdR l (k + 1) := fun q hq hqk => by
  by_cases e : q = k
  · subst e; exact hb
  · exact h q hq (by omega)
theorem fwdT_step {t : List (List Ins)} {k : Nat} (hk : k < t.length) (h : fwdT t k) (hb : fwdR t[k] t[k].length) : fwdT t (k + 1) := fun q hq hqk => by
  by_cases e : q = k
  · subst e; exact hb
  · exact h q hq (by omega)
def forwardL (vars dom : Int) (t : List (List Ins)) : Bool := fwdB t && rightL vars dom t
def storesL (l : List Ins) : Nat := (l.filter fun x => x.op == 2).length
theorem storesL_take (l : List Ins) (k : Nat) (hk : k < l.length) : storesL (l.take (k + 1)) = storesL (l.take k) + (if l[k].op == 2 then 1 else 0) := by
  unfold storesL
  rw [List.take_succ_eq_append_getElem hk, List.filter_append, List.length_append]
  cases h : l[k].op == 2 <;> simp [h]
theorem storesL_le (l : List Ins) (k : Nat) : storesL (l.take k) ≤ k := by
  unfold storesL
  exact Nat.le_trans (List.length_filter_le _ _) (by simp; omega)

end Go.Proofs.YtekmcoflagajkaaGreatDoor
