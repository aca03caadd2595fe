/- Statements as instructions. No program in sight. -/
import Derived.Test.YtcgpobeidlimkaaGreatDoorStM
import Derived.Test.YtcgpobeidlimkaaGreatDoorCodM
namespace Go.Proofs.YtcgpobeidlimkaaGreatDoor
open Go.RowKit

def exZ : Ex := .mk 0 0 0 []
/-- An instruction that leads. -/
def brI (a : Ex) (to : Nat) : Ins := ⟨12, 0, 0, a, exZ, to⟩
def juI (to : Nat) : Ins := ⟨13, 0, 0, exZ, exZ, to⟩
/-- A statement's instructions, of what is within. -/
def cmpF (x : St) (at_ : Nat) (A : Nat → List Ins) (B : Nat → List Ins) : List Ins :=
  if x.kind = 10 then
    if x.e.length = 0 then brI x.a (at_ + 1 + (A (at_ + 1)).length) :: A (at_ + 1)
    else brI x.a (at_ + 2 + (A (at_ + 1)).length) :: A (at_ + 1) ++ juI (at_ + 2 + (A (at_ + 1)).length + (B (at_ + 2 + (A (at_ + 1)).length)).length) :: B (at_ + 2 + (A (at_ + 1)).length)
  else if x.kind = 11 then brI x.a (at_ + 2 + (A (at_ + 1)).length) :: A (at_ + 1) ++ [juI at_]
  else [⟨x.kind, x.reg, x.var, x.a, x.b, 0⟩]
theorem cmpF_a {x : St} (at_ : Nat) (A B : Nat → List Ins) (h : x.kind = 10) (h0 : x.e.length = 0) : cmpF x at_ A B = brI x.a (at_ + 1 + (A (at_ + 1)).length) :: A (at_ + 1) := by unfold cmpF; rw [if_pos h, if_pos h0]
theorem cmpF_b {x : St} (at_ : Nat) (A B : Nat → List Ins) (h : x.kind = 10) (h0 : x.e.length ≠ 0) : cmpF x at_ A B = brI x.a (at_ + 2 + (A (at_ + 1)).length) :: A (at_ + 1) ++ juI (at_ + 2 + (A (at_ + 1)).length + (B (at_ + 2 + (A (at_ + 1)).length)).length) :: B (at_ + 2 + (A (at_ + 1)).length) := by unfold cmpF; rw [if_pos h, if_neg h0]
theorem cmpF_w {x : St} (at_ : Nat) (A B : Nat → List Ins) (h : x.kind = 11) : cmpF x at_ A B = brI x.a (at_ + 2 + (A (at_ + 1)).length) :: A (at_ + 1) ++ [juI at_] := by unfold cmpF; rw [if_neg (by omega), if_pos h]
theorem cmpF_o {x : St} (at_ : Nat) (A B : Nat → List Ins) (h : x.kind ≠ 10) (h1 : x.kind ≠ 11) : cmpF x at_ A B = [⟨x.kind, x.reg, x.var, x.a, x.b, 0⟩] := by unfold cmpF; rw [if_neg h, if_neg h1]
def cmpS : St → Nat → List Ins
  | .mk k r v a b t e, at_ => cmpF (.mk k r v a b t e) at_ (fun n => t.attach.foldl (fun acc x => acc ++ cmpS x.1 (n + acc.length)) []) (fun n => e.attach.foldl (fun acc x => acc ++ cmpS x.1 (n + acc.length)) [])
termination_by x => SizeOf.sizeOf x
decreasing_by
  all_goals
    have := List.sizeOf_lt_of_mem x.2
    simp only [St.mk.sizeOf_spec]; omega
def cmpL (l : List St) (at_ : Nat) : List Ins := l.foldl (fun acc x => acc ++ cmpS x (at_ + acc.length)) []
theorem cmpS_eq (x : St) (at_ : Nat) : cmpS x at_ = cmpF x at_ (cmpL x.t) (cmpL x.e) := by
  rcases x with ⟨k, r, v, a, b, t, e⟩
  rw [cmpS]
  congr 1
  · funext n
    exact List.foldl_attach (f := fun acc x => acc ++ cmpS x (n + acc.length))
  · funext n
    exact List.foldl_attach (f := fun acc x => acc ++ cmpS x (n + acc.length))
theorem cmpL_nil (at_ : Nat) : cmpL [] at_ = [] := rfl
theorem cmpL_take (l : List St) (at_ i : Nat) (hi : i < l.length) : cmpL (l.take (i + 1)) at_ = cmpL (l.take i) at_ ++ cmpS l[i] (at_ + (cmpL (l.take i) at_).length) := by
  unfold cmpL
  rw [List.take_succ_eq_append_getElem hi, List.foldl_append]
  rfl
theorem cmpS_len (x : St) : ∀ at_, (cmpS x at_).length ≤ 2 * cntS x := by
  have hL : ∀ l : List St, (∀ x, x ∈ l → ∀ at_, (cmpS x at_).length ≤ 2 * cntS x) → ∀ at_, (cmpL l at_).length ≤ 2 * cntL l := by
    intro l h at_
    have : ∀ i, i ≤ l.length → (cmpL (l.take i) at_).length ≤ 2 * cntL (l.take i) := by
      intro i
      induction i with
      | zero => intro _; simp [cmpL]
      | succ i ih =>
        intro hi
        rw [cmpL_take l at_ i (by omega), cntL_take l i (by omega), List.length_append]
        have := ih (by omega)
        have := h l[i] (List.getElem_mem (by omega)) (at_ + (cmpL (l.take i) at_).length)
        omega
    have := this l.length (Nat.le_refl _)
    rwa [List.take_length] at this
  induction x using St.ind with
  | h k r v a b t e ht he =>
    intro at_
    rw [cmpS_eq, cntS_mk]
    have h1 := hL t ht
    have h2 := hL e he
    by_cases h10 : (St.mk k r v a b t e).kind = 10
    · by_cases h0 : (St.mk k r v a b t e).e.length = 0
      · rw [cmpF_a _ _ _ h10 h0]
        have := h1 (at_ + 1)
        simp only [List.length_cons, St.t]; omega
      · rw [cmpF_b _ _ _ h10 h0]
        have := h1 (at_ + 1)
        have := h2 (at_ + 2 + (cmpL t (at_ + 1)).length)
        simp only [List.length_cons, List.length_append, List.cons_append, St.t, St.e]; omega
    · by_cases h11 : (St.mk k r v a b t e).kind = 11
      · rw [cmpF_w _ _ _ h11]
        have := h1 (at_ + 1)
        simp only [List.length_cons, List.length_append, List.length_nil, List.cons_append, St.t]; omega
      · rw [cmpF_o _ _ _ h10 h11]
        simp only [List.length_cons, List.length_nil]; omega
theorem cmpL_len (l : List St) (at_ : Nat) : (cmpL l at_).length ≤ 2 * cntL l := by
  have : ∀ i, i ≤ l.length → (cmpL (l.take i) at_).length ≤ 2 * cntL (l.take i) := by
    intro i
    induction i with
    | zero => intro _; simp [cmpL]
    | succ i ih =>
      intro hi
      rw [cmpL_take l at_ i (by omega), cntL_take l i (by omega), List.length_append]
      have := ih (by omega)
      have := cmpS_len l[i] (at_ + (cmpL (l.take i) at_).length)
      omega
  have := this l.length (Nat.le_refl _)
  rwa [List.take_length] at this
end Go.Proofs.YtcgpobeidlimkaaGreatDoor
