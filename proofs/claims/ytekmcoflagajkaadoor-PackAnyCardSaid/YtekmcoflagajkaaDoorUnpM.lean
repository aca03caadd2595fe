/- States out of bytes: plain lists. No program in sight. -/
import Derived.Test.YtekmcoflagajkaaDoorStpM
namespace Go.Proofs.YtekmcoflagajkaaDoor

def pairsL (n : Nat) (M : List Int) : List (Int × Int) := (List.range n).map fun k => (M.getD (2 * k) 0, M.getD (2 * k + 1) 0)
theorem pairsL_len (n : Nat) (M : List Int) : (pairsL n M).length = n := by unfold pairsL; simp
theorem pairsL_snoc (n : Nat) (M : List Int) : pairsL (n + 1) M = pairsL n M ++ [(M.getD (2 * n) 0, M.getD (2 * n + 1) 0)] := by
  unfold pairsL
  rw [List.range_succ, List.map_append]
  rfl
/-- A thread's state out of bytes, and what is behind. -/
def takeThr (L : List Int) : Option (Thr × List Int) :=
  if L.length < 7 then none
  else if L.length < 7 + 2 * (L.getD 6 0).toNat then none
  else some (⟨256 * L.getD 0 0 + L.getD 1 0, L.getD 2 0, L.getD 3 0, L.getD 4 0, L.getD 5 0, pairsL (L.getD 6 0).toNat (L.drop 7)⟩, L.drop (7 + 2 * (L.getD 6 0).toNat))
theorem takeThr_short {L : List Int} (h : L.length < 7) : takeThr L = none := by
  unfold takeThr
  rw [if_pos h]
theorem takeThr_few {L : List Int} {n : Nat} (hn : L.getD 6 0 = (n : Int)) (h : L.length < 7 + 2 * n) : takeThr L = none := by
  unfold takeThr
  rw [hn, Int.toNat_natCast]
  by_cases h0 : L.length < 7
  · rw [if_pos h0]
  · rw [if_neg h0, if_pos h]
theorem takeThr_ok {L : List Int} {n : Nat} (hn : L.getD 6 0 = (n : Int)) (h : 7 + 2 * n ≤ L.length) :
    takeThr L = some (⟨256 * L.getD 0 0 + L.getD 1 0, L.getD 2 0, L.getD 3 0, L.getD 4 0, L.getD 5 0, pairsL n (L.drop 7)⟩, L.drop (7 + 2 * n)) := by
  unfold takeThr
  rw [hn, Int.toNat_natCast, if_neg (by omega), if_neg (by omega)]
def takeThrs : Nat → List Int → Option (List Thr × List Int)
  | 0, L => some ([], L)
  | k + 1, L => match takeThrs k L with
    | some (C, r) => match takeThr r with
      | some (x, r') => some (C ++ [x], r')
      | none => none
    | none => none
theorem takeThrs_none {k n : Nat} {L : List Int} (h : takeThrs k L = none) (hk : k ≤ n) : takeThrs n L = none := by
  obtain ⟨d, rfl⟩ := Nat.exists_eq_add_of_le hk
  clear hk
  induction d with
  | zero => exact h
  | succ d ih => show takeThrs (k + d + 1) L = none; unfold takeThrs; rw [ih]
theorem takeThrs_step {k : Nat} {L r r' : List Int} {C : List Thr} {x : Thr} (h : takeThrs k L = some (C, r)) (hx : takeThr r = some (x, r')) : takeThrs (k + 1) L = some (C ++ [x], r') := by
  unfold takeThrs
  rw [h]
  simp only [hx]
theorem takeThrs_stop {k : Nat} {L r : List Int} {C : List Thr} (h : takeThrs k L = some (C, r)) (hx : takeThr r = none) : takeThrs (k + 1) L = none := by
  unfold takeThrs
  rw [h]
  simp only [hx]
theorem takeThrs_len : ∀ {k : Nat} {L r : List Int} {C : List Thr}, takeThrs k L = some (C, r) → C.length = k
  | 0, L, r, C, h => by
    unfold takeThrs at h
    cases h
    rfl
  | k + 1, L, r, C, h => by
    unfold takeThrs at h
    cases h1 : takeThrs k L with
    | none => rw [h1] at h; cases h
    | some p =>
      obtain ⟨C1, r1⟩ := p
      rw [h1] at h
      simp only at h
      cases h2 : takeThr r1 with
      | none => rw [h2] at h; cases h
      | some q =>
        obtain ⟨x, r2⟩ := q
        rw [h2] at h
        simp only [Option.some.injEq, Prod.mk.injEq] at h
        obtain ⟨rfl, rfl⟩ := h
        rw [List.length_append, takeThrs_len h1]
        rfl
/-- A state out of bytes. -/
def unpL (vars threads : Nat) (L : List Int) : Option (Bool × List Int × List Thr) :=
  if L.length < 1 + vars then none
  else if 1 < L.getD 0 0 then none
  else match takeThrs threads (L.drop (1 + vars)) with
    | some (C, []) => some (L.getD 0 0 == 1, (L.take (1 + vars)).drop 1, C)
    | _ => none
/-- What Unpack tells: whether bad, memory, threads; the error. -/
def unpS (vars dom : Int) (t : List (List Ins)) (m b : Int) (L : List Int) : (Bool × List Int × List Thr) × Int :=
  if mayL vars dom t m b then
    match unpL vars.toNat t.length L with
    | some (bad, mem, th) => if fitsL vars dom t m b th mem then ((bad, mem, th), 0) else ((false, [], []), 60)
    | none => ((false, [], []), 60)
  else ((false, [], []), 1)
theorem unpS_may {vars dom : Int} {t : List (List Ins)} {m b : Int} {L : List Int} (h : mayL vars dom t m b = false) : unpS vars dom t m b L = ((false, [], []), 1) := by
  unfold unpS
  rw [h]
  rfl
theorem unpS_none {vars dom : Int} {t : List (List Ins)} {m b : Int} {L : List Int} (h : mayL vars dom t m b = true) (hu : unpL vars.toNat t.length L = none) : unpS vars dom t m b L = ((false, [], []), 60) := by
  unfold unpS
  rw [h, hu]
  rfl
theorem unpS_fit {vars dom : Int} {t : List (List Ins)} {m b : Int} {L : List Int} {bad : Bool} {mem : List Int} {th : List Thr} (h : mayL vars dom t m b = true) (hu : unpL vars.toNat t.length L = some (bad, mem, th)) :
    unpS vars dom t m b L = if fitsL vars dom t m b th mem then ((bad, mem, th), 0) else ((false, [], []), 60) := by
  unfold unpS
  rw [h, hu]
  rfl
theorem unpL_short {vars n : Nat} {L : List Int} (h : L.length < 1 + vars) : unpL vars n L = none := by
  unfold unpL
  rw [if_pos h]
theorem unpL_big {vars n : Nat} {L : List Int} (h : 1 < L.getD 0 0) : unpL vars n L = none := by
  unfold unpL
  by_cases h0 : L.length < 1 + vars
  · rw [if_pos h0]
  · rw [if_neg h0, if_pos h]
theorem unpL_none {vars n : Nat} {L : List Int} (h : takeThrs n (L.drop (1 + vars)) = none) : unpL vars n L = none := by
  unfold unpL
  by_cases h0 : L.length < 1 + vars
  · rw [if_pos h0]
  rw [if_neg h0]
  by_cases h1 : 1 < L.getD 0 0
  · rw [if_pos h1]
  rw [if_neg h1]
  rw [h]
theorem unpL_left {vars n : Nat} {L r : List Int} {C : List Thr} (h : takeThrs n (L.drop (1 + vars)) = some (C, r)) (hr : r ≠ []) : unpL vars n L = none := by
  unfold unpL
  by_cases h0 : L.length < 1 + vars
  · rw [if_pos h0]
  rw [if_neg h0]
  by_cases h1 : 1 < L.getD 0 0
  · rw [if_pos h1]
  rw [if_neg h1]
  rw [h]
  cases r with
  | nil => exact absurd rfl hr
  | cons => rfl
theorem unpL_some {vars n : Nat} {L : List Int} {C : List Thr} (h0 : 1 + vars ≤ L.length) (h1 : L.getD 0 0 ≤ 1) (h : takeThrs n (L.drop (1 + vars)) = some (C, [])) : unpL vars n L = some (L.getD 0 0 == 1, (L.take (1 + vars)).drop 1, C) := by
  unfold unpL
  rw [if_neg (by omega), if_neg (by omega), h]
theorem may_facts {vars dom : Int} {t : List (List Ins)} {m b : Int} (h : mayL vars dom t m b = true) : 1 ≤ vars ∧ vars ≤ 4 ∧ 1 ≤ t.length ∧ t.length ≤ 4 := by
  unfold mayL rightL at h
  simp only [Bool.and_eq_true, decide_eq_true_eq] at h
  omega
end Go.Proofs.YtekmcoflagajkaaDoor
